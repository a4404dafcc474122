/- Parts of the proof, one behind the other. -/
import Derived.Test.YtiedpcmdimgboaaM5
import Derived.Test.YtiedpcmdimgboaaM2
import Derived.Below
import Derived.Test.YtiedpcmdimgboaaM4
import Derived.WideShapes
import Derived.ChangeSlices
import Derived.ChangeAnyMap
import Derived.Test.YtiedpcmdimgboaaRows
import Derived.ProofKit
import Derived.Carry
import Derived.OpenShut
set_option linter.all false

/- Frames without blocks: what stays true of them. -/
namespace Go.Proofs.Ytiedpcmdimgboaa
open Go.Ax
set_option linter.unusedSimpArgs false

namespace Atr
theorem sub_nil (t : Atr) : sub t [] = some t := by cases t <;> rfl
theorem set_nil (t n : Atr) : set t [] n = n := by cases t <;> rfl
theorem rectAt_nil (t : Atr) (rc : Rc) : rectAt t rc [] = rc := by cases t <;> rfl
theorem sub_leaf {i : Int} {x : Bool} {d : List Bool} : sub (.leaf i) (x :: d) = none := by cases x <;> rfl
theorem sub_append : ∀ (t : Atr) (d e : List Bool), sub t (d ++ e) = (sub t d).bind fun s => sub s e
  | t, [], e => by rw [sub_nil]; rfl
  | .split _ _ l _, false :: d, e => sub_append l d e
  | .split _ _ _ r, true :: d, e => sub_append r d e
  | .leaf _, x :: d, e => by rw [List.cons_append, sub_leaf, sub_leaf]; rfl

theorem find_sub (id : Int) : ∀ (t : Atr) (d : List Bool), find id t = some d → sub t d = some (.leaf id)
  | .leaf i, d, h => by
    simp only [find] at h
    split at h
    · rename_i e; simp only [Option.some.injEq] at h; subst h; subst e; rfl
    · cases h
  | .split _ _ l r, d, h => by
    simp only [find] at h
    split at h
    · rename_i e he
      simp only [Option.some.injEq] at h; subst h
      exact find_sub id l e he
    · split at h
      · rename_i e he
        simp only [Option.some.injEq] at h; subst h
        exact find_sub id r e he
      · cases h
theorem find_none (id : Int) : ∀ t : Atr, find id t = none → id ∉ t.ids
  | .leaf i, h => by
    simp only [find] at h
    split at h
    · cases h
    · rename_i e; simp only [ids, List.mem_singleton]; exact fun he => e he.symm
  | .split _ _ l r, h => by
    simp only [find] at h
    split at h
    · cases h
    · rename_i hl
      split at h
      · cases h
      · rename_i hr
        simp only [ids, List.mem_append, not_or]
        exact ⟨find_none id l hl, find_none id r hr⟩

/-- the windows before and behind a part -/
theorem ctx : ∀ (t : Atr) (e : List Bool) (s : Atr), sub t e = some s → ∃ pre post, t.ids = pre ++ (s.ids ++ post) ∧ ∀ n, (set t e n).ids = pre ++ (n.ids ++ post)
  | t, [], s, h => by
    rw [sub_nil] at h
    cases h
    exact ⟨[], [], by simp, fun n => by rw [set_nil]; simp⟩
  | .split b f l r, false :: e, s, h => by
    obtain ⟨pre, post, h1, h2⟩ := ctx l e s h
    refine ⟨pre, post ++ r.ids, by simp only [ids, h1, List.append_assoc], fun n => by simp only [set, ids, h2, List.append_assoc]⟩
  | .split b f l r, true :: e, s, h => by
    obtain ⟨pre, post, h1, h2⟩ := ctx r e s h
    refine ⟨l.ids ++ pre, post, by simp only [ids, h1, List.append_assoc], fun n => by simp only [set, ids, h2, List.append_assoc]⟩
  | .leaf _, _ :: _, _, h => by rw [sub_leaf] at h; cases h

theorem ids_length : ∀ t : Atr, t.ids.length = t.size + 1
  | .leaf _ => rfl
  | .split _ _ l r => by simp only [ids, List.length_append, ids_length l, ids_length r, size]; omega
theorem first_mem : ∀ t : Atr, t.first ∈ t.ids
  | .leaf _ => by simp [first, ids]
  | .split _ _ l r => by simp only [first, ids, List.mem_append]; exact .inl (first_mem l)

theorem dims_pos {t : Atr} {rc : Rc} (h : t.fits rc.dim) (b : Bool) : 2 ≤ rc.size b := by
  have h1 := fits_lst t _ h b
  have h2 := (lst_pos b t).1
  rw [Rc.dim_eq] at h1
  omega

theorem at_fits : ∀ (t : Atr) (e : List Bool) (s : Atr) (rc : Rc), sub t e = some s → t.fits rc.dim → (∀ b, rc.size b ≤ 100000) → s.fits (rectAt t rc e).dim ∧ ∀ b, (rectAt t rc e).size b ≤ rc.size b
  | t, [], s, rc, h, hf, _ => by
    rw [sub_nil] at h
    cases h
    rw [rectAt_nil]
    exact ⟨hf, fun b => Int.le_refl _⟩
  | .split be f l r, false :: e, s, rc, h, hf, hm => by
    have hl := fits_lst l _ hf.1 be
    have hr := fits_lst r _ hf.2 be
    rw [Dim.set_same] at hl hr
    have pl := (lst_pos be l).1
    have pr := (lst_pos be r).1
    have hbar : 0 ≤ bar be ∧ bar be ≤ 1 := by cases be <;> decide
    rw [Rc.dim_eq] at hr
    have dA := partA_dim be f rc
    have hle : ∀ b, (partA be f rc).size b ≤ rc.size b := fun b => by
      rw [show (partA be f rc).size b = (rc.dim.set be f) b from congrFun dA b]
      by_cases hb : b = be
      · subst hb; rw [Dim.set_same]; omega
      · rw [Dim.set_ne _ _ hb]; exact Int.le_refl _
    obtain ⟨h1, h2⟩ := at_fits l e s (partA be f rc) h (by rw [dA]; exact hf.1) (fun b => Int.le_trans (hle b) (hm b))
    exact ⟨h1, fun b => Int.le_trans (h2 b) (hle b)⟩
  | .split be f l r, true :: e, s, rc, h, hf, hm => by
    have hl := fits_lst l _ hf.1 be
    have hr := fits_lst r _ hf.2 be
    rw [Dim.set_same] at hl hr
    have pl := (lst_pos be l).1
    have pr := (lst_pos be r).1
    have hbar : 0 ≤ bar be ∧ bar be ≤ 1 := by cases be <;> decide
    rw [Rc.dim_eq] at hr
    have hmb := hm be
    have dB := partB_dim (be := be) (f := f) (r := rc) (by omega) (by omega) (by omega) (by omega)
    have hle : ∀ b, (partB be f rc).size b ≤ rc.size b := fun b => by
      rw [show (partB be f rc).size b = (rc.dim.set be (rc.size be - f - bar be)) b from congrFun dB b]
      by_cases hb : b = be
      · subst hb; rw [Dim.set_same]; omega
      · rw [Dim.set_ne _ _ hb]; exact Int.le_refl _
    obtain ⟨h1, h2⟩ := at_fits r e s (partB be f rc) h (by rw [dB]; exact hf.2) (fun b => Int.le_trans (hle b) (hm b))
    exact ⟨h1, fun b => Int.le_trans (h2 b) (hle b)⟩
  | .leaf _, _ :: _, _, _, h, _, _ => by rw [sub_leaf] at h; cases h

theorem set_fits : ∀ (t : Atr) (e : List Bool) (s n : Atr) (rc : Rc), sub t e = some s → t.fits rc.dim → (∀ b, rc.size b ≤ 100000) → n.fits (rectAt t rc e).dim → (set t e n).fits rc.dim
  | t, [], s, n, rc, h, hf, _, hn => by
    rw [rectAt_nil] at hn
    rw [set_nil]
    exact hn
  | .split be f l r, false :: e, s, n, rc, h, hf, hm, hn => by
    have hl := fits_lst l _ hf.1 be
    have hr := fits_lst r _ hf.2 be
    rw [Dim.set_same] at hl hr
    have pl := (lst_pos be l).1
    have pr := (lst_pos be r).1
    have hbar : 0 ≤ bar be ∧ bar be ≤ 1 := by cases be <;> decide
    rw [Rc.dim_eq] at hr
    have dA := partA_dim be f rc
    have hle : ∀ b, (partA be f rc).size b ≤ rc.size b := fun b => by
      rw [show (partA be f rc).size b = (rc.dim.set be f) b from congrFun dA b]
      by_cases hb : b = be
      · subst hb; rw [Dim.set_same]; omega
      · rw [Dim.set_ne _ _ hb]; exact Int.le_refl _
    have := set_fits l e s n (partA be f rc) h (by rw [dA]; exact hf.1) (fun b => Int.le_trans (hle b) (hm b)) hn
    rw [dA] at this
    exact ⟨this, hf.2⟩
  | .split be f l r, true :: e, s, n, rc, h, hf, hm, hn => by
    have hl := fits_lst l _ hf.1 be
    have hr := fits_lst r _ hf.2 be
    rw [Dim.set_same] at hl hr
    have pl := (lst_pos be l).1
    have pr := (lst_pos be r).1
    have hbar : 0 ≤ bar be ∧ bar be ≤ 1 := by cases be <;> decide
    rw [Rc.dim_eq] at hr
    have hmb := hm be
    have dB := partB_dim (be := be) (f := f) (r := rc) (by omega) (by omega) (by omega) (by omega)
    have hle : ∀ b, (partB be f rc).size b ≤ rc.size b := fun b => by
      rw [show (partB be f rc).size b = (rc.dim.set be (rc.size be - f - bar be)) b from congrFun dB b]
      by_cases hb : b = be
      · subst hb; rw [Dim.set_same]; omega
      · rw [Dim.set_ne _ _ hb]; exact Int.le_refl _
    have := set_fits r e s n (partB be f rc) h (by rw [dB]; exact hf.2) (fun b => Int.le_trans (hle b) (hm b)) hn
    rw [dB] at this
    exact ⟨hf.1, this⟩
  | .leaf _, _ :: _, _, _, _, h, _, _, _ => by rw [sub_leaf] at h; cases h

/-- the node above a part -/
theorem above {t : Atr} {e : List Bool} {l : Bool} {s : Atr} (h : sub t (e ++ [l]) = some s) : ∃ be f a c, sub t e = some (.split be f a c) ∧ s = if l then c else a := by
  rw [sub_append] at h
  cases ht : sub t e with
  | none => rw [ht] at h; cases h
  | some u =>
    rw [ht] at h
    simp only [Option.bind_some] at h
    cases u with
    | leaf i => rw [sub_leaf] at h; cases h
    | split be f a c =>
      refine ⟨be, f, a, c, rfl, ?_⟩
      cases l
      · have : sub a [] = some s := h
        rw [sub_nil] at this
        simpa using this.symm
      · have : sub c [] = some s := h
        rw [sub_nil] at this
        simpa using this.symm
end Atr

theorem upTo_some {t : Atr} {d : List Bool} {be : Bool} : ∀ {n k : Nat}, Ast.upTo t d be n = some k → k < n ∧ ∃ f l r, t.sub (d.take k) = some (.split be f l r)
  | 0, _, h => by simp [Ast.upTo] at h
  | n + 1, k, h => by
    unfold Ast.upTo at h
    split at h
    · rename_i b f l r hs
      split at h
      · rename_i hb
        simp only [Option.some.injEq] at h
        subst h hb
        exact ⟨Nat.lt_succ_self _, f, l, r, hs⟩
      · have := upTo_some h
        exact ⟨Nat.lt_succ_of_lt this.1, this.2⟩
    · have := upTo_some h
      exact ⟨Nat.lt_succ_of_lt this.1, this.2⟩

/-- what stays true of a frame -/
structure Inv (s : Ast) (n : Int) : Prop where
  inn : inside s.h s.w = true
  fit : s.root.fits s.frame.dim
  nd : s.root.ids.Nodup
  rng : ∀ i ∈ s.root.ids, 1 ≤ i ∧ i ≤ s.last
  sel : s.sel ∈ s.root.ids
  cnt : s.root.ids.length ≤ 64
  lst : 1 ≤ s.last ∧ s.last ≤ n

theorem inside_iff {h w : Int} : inside h w = true ↔ 2 ≤ h ∧ h ≤ 200 ∧ 4 ≤ w ∧ w ≤ 1000 := by
  simp only [inside, Bool.and_eq_true, decide_eq_true_eq, and_assoc]

theorem Inv.size {s : Ast} {n : Int} (v : Inv s n) (b : Bool) : s.frame.size b ≤ 1000 := by
  have := inside_iff.1 v.inn
  cases b <;> simp only [Ast.frame, Rc.size, if_true, Bool.false_eq_true, if_false] <;> omega
theorem Inv.tsize {s : Ast} {n : Int} (v : Inv s n) : s.root.size < 64 := by have := v.cnt; rw [Atr.ids_length] at this; omega
theorem Inv.mono {s : Ast} {n m : Int} (v : Inv s n) (h : n ≤ m) : Inv s m := ⟨v.inn, v.fit, v.nd, v.rng, v.sel, v.cnt, v.lst.1, by have := v.lst.2; omega⟩

/-- another tree with the same windows -/
theorem Inv.same {s : Ast} {n : Int} (v : Inv s n) {t : Atr} (hi : t.ids = s.root.ids) (hf : t.fits s.frame.dim) : Inv { s with root := t } n :=
  ⟨v.inn, hf, by show t.ids.Nodup; rw [hi]; exact v.nd, by show ∀ i ∈ t.ids, _; rw [hi]; exact v.rng, by show s.sel ∈ t.ids; rw [hi]; exact v.sel, by show t.ids.length ≤ 64; rw [hi]; exact v.cnt, v.lst⟩

theorem new_inv {h w : Int} (hi : inside h w = true) : Inv ⟨.leaf 1, h, w, 1, 1⟩ 1 := by
  have := inside_iff.1 hi
  refine ⟨hi, fun b => ?_, by simp [Atr.ids], by simp [Atr.ids], by simp [Atr.ids], by simp [Atr.ids], by simp⟩
  cases b <;> simp only [mins, Rc.dim, Ast.frame, Rc.size, if_true, Bool.false_eq_true, if_false] <;> omega

theorem select_inv {s : Ast} {n : Int} (v : Inv s n) (id : Int) : Inv (s.select id).2 n := by
  unfold Ast.select
  split
  · exact v
  · rename_i d hd
    obtain ⟨pre, post, h, _⟩ := Atr.ctx _ _ _ (Atr.find_sub id s.root d hd)
    exact ⟨v.inn, v.fit, v.nd, v.rng, by show id ∈ s.root.ids; rw [h]; simp [Atr.ids], v.cnt, v.lst⟩

theorem only_inv {s : Ast} {n : Int} (v : Inv s n) (id : Int) : Inv (s.only id).2 n := by
  unfold Ast.only
  split
  · exact v
  · rename_i d hd
    obtain ⟨pre, post, h, _⟩ := Atr.ctx _ _ _ (Atr.find_sub id s.root d hd)
    have hm : id ∈ s.root.ids := by rw [h]; simp [Atr.ids]
    have hi := inside_iff.1 v.inn
    refine ⟨v.inn, fun b => ?_, by simp [Atr.ids], by simpa [Atr.ids] using v.rng id hm, by simp [Atr.ids], by simp [Atr.ids], v.lst⟩
    cases b <;> simp only [mins, Rc.dim, Ast.frame, Rc.size, if_true, Bool.false_eq_true, if_false] <;> omega

theorem balance_inv {s : Ast} {n : Int} (v : Inv s n) : Inv s.balance n :=
  v.same (Atr.ids_balance _ _) (Atr.balance_fits _ _ (by have := v.tsize; omega) (fun b => Atr.fits_lst _ _ v.fit b) (fun b => by have := v.size b; omega))

theorem setSize_inv {s : Ast} {n : Int} (v : Inv s n) (h w : Int) : Inv (s.setSize h w).2 n := by
  unfold Ast.setSize
  split
  · exact v
  · rename_i hc
    simp only [not_or, Bool.not_eq_false, Int.not_lt] at hc
    obtain ⟨hi, h1, h2⟩ := hc
    have ts := v.tsize
    have hi' := inside_iff.1 hi
    have hv := inside_iff.1 v.inn
    rw [Atr.least_eq _ _ (by omega)] at h1 h2
    have f1 := Atr.resize_fits true s.root s.frame.dim h v.fit (by omega) (by have := v.size true; rw [Rc.dim_eq]; omega) (by omega) h1
    have f2 := Atr.resize_fits false _ _ w f1 (by rw [Atr.size_resize]; omega) (by rw [Dim.set_ne _ _ (by decide)]; have := v.size false; rw [Rc.dim_eq]; omega) (by omega) (by rw [Atr.lst_resize]; exact h2)
    rw [Dim.set_ne _ _ (by decide)] at f2
    refine ⟨hi, ?_, ?_, ?_, ?_, ?_, v.lst⟩
    · have e : (Ast.frame { s with root := (s.root.resize true s.h h).resize false s.w w, h := h, w := w }).dim = (s.frame.dim.set true h).set false w := by
        funext b; cases b <;> rfl
      rw [e]
      exact f2
    all_goals simp only [Atr.ids_resize]
    · exact v.nd
    · exact v.rng
    · exact v.sel
    · exact v.cnt

theorem nodup_ins {pre post : List Int} {id fr : Int} (h : (pre ++ ([id] ++ post)).Nodup) (hf : fr ∉ pre ++ ([id] ++ post)) : (pre ++ (([id] ++ [fr]) ++ post)).Nodup := by
  simp only [List.nodup_append, List.mem_append, List.mem_singleton, List.nodup_cons, List.not_mem_nil, not_false_eq_true, List.nodup_nil, and_true, true_and, not_or] at h hf ⊢
  grind

theorem split_inv {s : Ast} {n : Int} (v : Inv s n) (hn : n ≤ 100000) (id : Int) (be : Bool) (k : Int) : Inv (s.split id be k).2.2 (n + 1) := by
  have v1 := v.mono (m := n + 1) (by omega)
  unfold Ast.split
  split
  · exact v1
  · rename_i d hd
    split
    · exact v1
    rename_i hc
    split
    · exact v1
    rename_i hk
    split
    · exact v1
    rename_i hr
    simp only [not_or, Int.not_lt] at hr
    obtain ⟨h1, h2, h3⟩ := hr
    have hs := Atr.find_sub id s.root d hd
    obtain ⟨f0, l0⟩ := Atr.at_fits s.root d _ s.frame hs v.fit (fun b => by have := v.size b; omega)
    obtain ⟨pre, post, e1, e2⟩ := Atr.ctx _ _ _ hs
    have hl := v.lst
    have hlast : w64 (s.last + 1) = s.last + 1 := wrap_sm (by omega) (by omega)
    have hrl : s.rects.length = s.root.ids.length := by
      have : ∀ (t : Atr) (rc : Rc), (t.rects rc).length = t.ids.length := by
        intro t
        induction t with
        | leaf i => intro rc; rfl
        | split b f l r ihl ihr => intro rc; simp only [Atr.rects, Atr.ids, List.length_append, ihl, ihr]
      exact this _ _
    rw [hlast]
    have hW : s.splitW d be = (s.root.rectAt s.frame d).size be - bar be := by
      have hb := l0 be
      have hp := Atr.dims_pos f0 be
      have := v.size be
      have hbar : 0 ≤ bar be ∧ bar be ≤ 1 := by cases be <;> decide
      exact wrap_sm (by omega) (by omega)
    generalize hD : s.root.rectAt s.frame d = D at *
    generalize s.splitN d be k = m at *
    rw [hW] at h1 h3 ⊢
    have hb := l0 be
    have hvs := v.size be
    have hbar : 0 ≤ bar be ∧ bar be ≤ 1 := by cases be <;> decide
    have hmin : 2 ≤ mins be := by cases be <;> decide
    have hwm : w64 (D.size be - bar be - m) = D.size be - bar be - m := wrap_sm (by omega) (by omega)
    rw [hwm] at h3 ⊢
    have hids : (s.root.set d (.split be (D.size be - bar be - m) (.leaf id) (.leaf (s.last + 1)))).ids = pre ++ (([id] ++ [s.last + 1]) ++ post) := e2 _
    simp only [Atr.ids] at e1
    have hnew : s.last + 1 ∉ s.root.ids := fun h => by have := v.rng _ h; omega
    refine ⟨v.inn, ?_, ?_, ?_, ?_, ?_, ?_, ?_⟩
    · refine Atr.set_fits s.root d _ _ s.frame hs v.fit (fun b => by have := v.size b; omega) ?_
      rw [hD]
      refine ⟨fun b => ?_, fun b => ?_⟩
      · by_cases hb : b = be
        · subst hb; rw [Dim.set_same]; exact h3
        · rw [Dim.set_ne _ _ hb]; exact f0 b
      · by_cases hb : b = be
        · subst hb; rw [Dim.set_same, Rc.dim_eq]; omega
        · rw [Dim.set_ne _ _ hb]; exact f0 b
    · show (Atr.ids _).Nodup
      rw [hids]
      have hnd := v.nd
      rw [e1] at hnd hnew
      exact nodup_ins hnd hnew
    · show ∀ i ∈ Atr.ids _, _
      rw [hids]
      intro i hi
      show 1 ≤ i ∧ i ≤ s.last + 1
      by_cases h : i = s.last + 1
      · omega
      · have : i ∈ s.root.ids := by rw [e1]; simp only [List.mem_append, List.mem_singleton] at hi ⊢; rcases hi with hi | (hi | hi) | hi <;> simp_all
        have := v.rng i this
        omega
    · show s.sel ∈ Atr.ids _
      rw [hids]
      have := v.sel
      rw [e1] at this
      simp only [List.mem_append, List.mem_singleton] at this ⊢
      rcases this with h | h | h <;> simp [h]
    · show (Atr.ids _).length ≤ 64
      rw [hids]
      rw [hrl, e1] at hc
      simp only [List.length_append, List.length_singleton] at hc ⊢
      omega
    · show 1 ≤ s.last + 1; omega
    · show s.last + 1 ≤ n + 1; omega

theorem delete_inv {s : Ast} {n : Int} (v : Inv s n) (id : Int) : Inv (s.delete id).2 n := by
  unfold Ast.delete
  split
  · exact v
  · rename_i d hd
    split
    · exact v
    rename_i hne
    split
    · rename_i be f l r hsub
      have hs := Atr.find_sub id s.root d hd
      obtain ⟨f0, l0⟩ := Atr.at_fits s.root d.dropLast _ s.frame hsub v.fit (fun b => by have := v.size b; omega)
      obtain ⟨pre, post, e1, e2⟩ := Atr.ctx _ _ _ hsub
      have hdd := List.dropLast_concat_getLast hne
      rw [← hdd] at hs
      obtain ⟨be', f', a', c', hs', hch⟩ := Atr.above hs
      rw [hsub] at hs'
      cases hs'
      generalize hlr : d.getLast hne = lr at hch
      have hgl : (d.getLast? == some false) = !lr := by rw [List.getLast?_eq_some_getLast hne, hlr]; cases lr <;> rfl
      rw [hgl]
      have ts := v.tsize
      have hts : l.ids.length + r.ids.length ≤ s.root.ids.length := by rw [e1]; simp only [Atr.ids, List.length_append]; omega
      rw [Atr.ids_length, Atr.ids_length, Atr.ids_length] at hts
      generalize hD : s.root.rectAt s.frame d.dropLast = D at *
      have hvs := v.size be
      have hb0 := l0 be
      have hlb := Atr.fits_lst l _ f0.1 be
      have hrb := Atr.fits_lst r _ f0.2 be
      rw [Dim.set_same] at hlb hrb
      rw [Rc.dim_eq] at hrb
      have pl := (Atr.lst_pos be l).1
      have pr := (Atr.lst_pos be r).1
      have hbar : 0 ≤ bar be ∧ bar be ≤ 1 := by cases be <;> decide
      have dA := partA_dim be f D
      have dB := partB_dim (be := be) (f := f) (r := D) (by omega) (by omega) (by omega) (by omega)
      have key : ∃ t' : Atr, (Ast.otherA (!lr) be f l r D).1.resize be ((Ast.otherA (!lr) be f l r D).2.size be) (D.size be) = t' ∧ t'.fits D.dim ∧ t'.ids = (if lr then l else r).ids ∧ (Ast.otherA (!lr) be f l r D).1.first ∈ (if lr then l else r).ids := by
        cases lr with
        | true =>
          refine ⟨_, rfl, ?_, Atr.ids_resize _ _ _ _, Atr.first_mem _⟩
          have := Atr.resize_fits be l (D.dim.set be f) (D.size be) f0.1 (by omega) (by rw [Dim.set_same]; omega) (by omega) (by omega)
          rw [Dim.set_same, Dim.set_set] at this
          have e : D.dim.set be (D.size be) = D.dim := Dim.set_self D.dim be
          rw [e] at this
          have hA : (partA be f D).size be = f := by have := congrFun dA be; rw [Dim.set_same] at this; exact this
          simp only [Ast.otherA, Bool.not_true, Bool.false_eq_true, if_false, hA]
          exact this
        | false =>
          refine ⟨_, rfl, ?_, Atr.ids_resize _ _ _ _, Atr.first_mem _⟩
          have := Atr.resize_fits be r (D.dim.set be (D.size be - f - bar be)) (D.size be) f0.2 (by omega) (by rw [Dim.set_same]; omega) (by omega) (by omega)
          rw [Dim.set_same, Dim.set_set] at this
          have e : D.dim.set be (D.size be) = D.dim := Dim.set_self D.dim be
          rw [e] at this
          have hB : (partB be f D).size be = D.size be - f - bar be := by have := congrFun dB be; rw [Dim.set_same] at this; exact this
          simp only [Ast.otherA, Bool.not_false, if_true, hB]
          exact this
      obtain ⟨t', ht, hf', hi', hfirst⟩ := key
      simp only [ht]
      have hids : (s.root.set d.dropLast t').ids = pre ++ ((if lr then l else r).ids ++ post) := by rw [e2, hi']
      have hall : s.root.ids = pre ++ (((if lr then l else r).ids ++ [id]) ++ post) ∨ s.root.ids = pre ++ (([id] ++ (if lr then l else r).ids) ++ post) := by
        cases lr with
        | true => left; rw [e1]; simp only [Atr.ids, if_true] at hch ⊢; rw [← hch]; simp [Atr.ids]
        | false => right; rw [e1]; simp only [Atr.ids, Bool.false_eq_true, if_false] at hch ⊢; rw [← hch]; simp [Atr.ids]
      generalize (if lr then l else r).ids = O at hall hids hfirst hi'
      have hsl := v.sel
      have hmem : ∀ i, i ∈ (pre ++ (O ++ post)) → i ∈ s.root.ids := fun i hi => by rcases hall with h | h <;> rw [h] <;> grind
      have hmem' : ∀ i, i ∈ s.root.ids → i ≠ id → i ∈ (pre ++ (O ++ post)) := fun i hi hne => by rcases hall with h | h <;> rw [h] at hi <;> grind
      refine ⟨v.inn, ?_, ?_, ?_, ?_, ?_, v.lst⟩
      · exact Atr.set_fits s.root d.dropLast _ _ s.frame hsub v.fit (fun b => by have := v.size b; omega) (by rw [hD]; exact hf')
      · show (Atr.ids _).Nodup
        rw [hids]
        have hnd := v.nd
        rcases hall with h | h <;> rw [h] at hnd
        · exact hnd.sublist (List.Sublist.append (List.Sublist.refl _) (List.Sublist.append (List.sublist_append_left _ _) (List.Sublist.refl _)))
        · exact hnd.sublist (List.Sublist.append (List.Sublist.refl _) (List.Sublist.append (List.sublist_append_right _ _) (List.Sublist.refl _)))
      · show ∀ i ∈ Atr.ids _, _
        rw [hids]
        exact fun i hi => v.rng i (hmem i hi)
      · show (if s.sel = id then _ else s.sel) ∈ Atr.ids _
        rw [hids]
        split
        · simp only [List.mem_append]; exact .inr (.inl hfirst)
        · rename_i h; exact hmem' _ hsl h
      · show (Atr.ids _).length ≤ 64
        rw [hids]
        have := v.cnt
        rcases hall with h | h <;> rw [h] at this <;> simp only [List.length_append, List.length_singleton] at this ⊢ <;> omega
    · exact v

theorem resize_inv {s : Ast} {n : Int} (v : Inv s n) (id k : Int) (be : Bool) : Inv (s.resize id k be).2 n := by
  unfold Ast.resize
  split
  · exact v
  · rename_i d hd
    split
    · exact v
    rename_i m hm
    split
    · exact v
    rename_i hk
    split
    · rename_i b f l r hsub
      obtain ⟨_, f1, l1, r1, hs1⟩ := upTo_some hm
      rw [hs1] at hsub
      cases hsub
      generalize hby : (if d[m]? = some false then k else w64 (0 - k)) = by2
      dsimp only
      split
      · exact v
      rename_i hc
      simp only [not_or, Int.not_lt] at hc
      obtain ⟨f0, l0⟩ := Atr.at_fits s.root (d.take m) _ s.frame hs1 v.fit (fun b => by have := v.size b; omega)
      obtain ⟨pre, post, e1, e2⟩ := Atr.ctx _ _ _ hs1
      have ts := v.tsize
      have hts : l.ids.length + r.ids.length ≤ s.root.ids.length := by rw [e1]; simp only [Atr.ids, List.length_append]; omega
      rw [Atr.ids_length, Atr.ids_length, Atr.ids_length] at hts
      generalize hD : s.root.rectAt s.frame (d.take m) = D at *
      have hvs := v.size be
      have hb0 := l0 be
      have hlb := Atr.fits_lst l _ f0.1 be
      have hrb := Atr.fits_lst r _ f0.2 be
      rw [Dim.set_same] at hlb hrb
      rw [Rc.dim_eq] at hrb
      have pl := (Atr.lst_pos be l).1
      have pr := (Atr.lst_pos be r).1
      have hbar : 0 ≤ bar be ∧ bar be ≤ 1 := by cases be <;> decide
      have hby2 : -1000 ≤ by2 ∧ by2 ≤ 1000 := by
        rw [← hby]
        simp only [not_or, Int.not_lt] at hk
        split
        · exact hk
        · rw [wrap_sm (n := 0 - k) (by omega) (by omega)]; omega
      have w1 : w64 (f + by2) = f + by2 := wrap_sm (by omega) (by omega)
      have w2 : w64 (w64 (D.size be - f) - bar be) = D.size be - f - bar be := by rw [wrap_sm (n := D.size be - f) (by omega) (by omega), wrap_sm (by omega) (by omega)]
      have w3 : w64 (D.size be - f - bar be - by2) = D.size be - f - bar be - by2 := wrap_sm (by omega) (by omega)
      simp only [w1, w2, w3, Atr.least_eq be l (by omega), Atr.least_eq be r (by omega)] at hc ⊢
      refine v.same ?_ ?_
      · rw [e2, e1]; simp only [Atr.ids, Atr.ids_resize]
      · refine Atr.set_fits s.root (d.take m) _ _ s.frame hs1 v.fit (fun b => by have := v.size b; omega) ?_
        rw [hD]
        have g1 := Atr.resize_fits be l (D.dim.set be f) (f + by2) f0.1 (by omega) (by rw [Dim.set_same]; omega) (by omega) hc.1
        have g2 := Atr.resize_fits be r (D.dim.set be (D.size be - f - bar be)) (D.size be - f - bar be - by2) f0.2 (by omega) (by rw [Dim.set_same]; omega) (by omega) hc.2
        rw [Dim.set_same, Dim.set_set] at g1 g2
        refine ⟨g1, ?_⟩
        rw [Rc.dim_eq, show D.size be - (f + by2) - bar be = D.size be - f - bar be - by2 by omega]
        exact g2
    · exact v

theorem act_inv {s : Ast} {n : Int} (v : Inv s n) (hn : n ≤ 100000) (a : Ac) : Inv (s.act a).2.2 (n + 1) := by
  unfold Ast.act
  split
  · exact split_inv v hn _ _ _
  split
  · exact (delete_inv v _).mono (by omega)
  split
  · exact (only_inv v _).mono (by omega)
  split
  · exact (resize_inv v _ _ _).mono (by omega)
  split
  · exact (balance_inv v).mono (by omega)
  split
  · exact (setSize_inv v _ _).mono (by omega)
  · exact (select_inv v _).mono (by omega)

end Go.Proofs.Ytiedpcmdimgboaa

/- Frames without blocks: rectangles of windows; what Resize does to them. -/
namespace Go.Proofs.Ytiedpcmdimgboaa
open Go.Ax
set_option linter.unusedSimpArgs false

namespace Atr
theorem rects_ids : ∀ (t : Atr) (rc : Rc), (t.rects rc).map Rc.id = t.ids
  | .leaf i, rc => rfl
  | .split be f l r, rc => by simp only [rects, ids, List.map_append, rects_ids l, rects_ids r]
theorem rects_len (t : Atr) (rc : Rc) : (t.rects rc).length = t.size + 1 := by
  have := congrArg List.length (rects_ids t rc)
  rw [List.length_map, ids_length] at this
  exact this

theorem rects_ctx : ∀ (t : Atr) (e : List Bool) (s : Atr) (rc : Rc), sub t e = some s → ∃ pre post, t.rects rc = pre ++ (s.rects (rectAt t rc e) ++ post) ∧ ∀ n, (set t e n).rects rc = pre ++ (n.rects (rectAt t rc e) ++ post)
  | t, [], s, rc, h => by
    rw [sub_nil] at h
    cases h
    rw [rectAt_nil]
    exact ⟨[], [], by simp, fun n => by rw [set_nil]; simp⟩
  | .split b f l r, false :: e, s, rc, h => by
    obtain ⟨pre, post, h1, h2⟩ := rects_ctx l e s (partA b f rc) h
    refine ⟨pre, post ++ r.rects (partB b f rc), by simp only [rects, h1, List.append_assoc]; rfl, fun n => by simp only [set, rects, h2, List.append_assoc]; rfl⟩
  | .split b f l r, true :: e, s, rc, h => by
    obtain ⟨pre, post, h1, h2⟩ := rects_ctx r e s (partB b f rc) h
    refine ⟨l.rects (partA b f rc) ++ pre, post, by simp only [rects, h1, List.append_assoc]; rfl, fun n => by simp only [set, rects, h2, List.append_assoc]; rfl⟩
  | .leaf _, _ :: _, _, _, h => by rw [sub_leaf] at h; cases h

theorem rect_find (id : Int) : ∀ (t : Atr) (rc : Rc) (d : List Bool), find id t = some d → (t.rects rc).find? (hasId id) = some { rectAt t rc d with id := id }
  | .leaf i, rc, d, h => by
    simp only [find] at h
    split at h
    · rename_i e
      simp only [Option.some.injEq] at h; subst h; subst e
      simp [rects, rectAt_nil, hasId]
    · cases h
  | .split be f l r, rc, d, h => by
    simp only [find] at h
    split at h
    · rename_i e he
      simp only [Option.some.injEq] at h; subst h
      simp only [rects, List.find?_append, rect_find id l (partA be f rc) e he]
      rfl
    · rename_i hl
      split at h
      · rename_i e he
        simp only [Option.some.injEq] at h; subst h
        have hn : (l.rects (partA be f rc)).find? (hasId id) = none := by
          rw [List.find?_eq_none]
          intro x hx hh
          simp only [hasId, decide_eq_true_eq] at hh
          have := find_none id l hl
          rw [← rects_ids l (partA be f rc)] at this
          exact this (List.mem_map.2 ⟨x, hx, hh⟩)
        simp only [rects, List.find?_append, hn, rect_find id r (partB be f rc) e he]
        rfl
      · cases h

theorem rectOf_find {t : Atr} {rc : Rc} {id : Int} {d : List Bool} (h : find id t = some d) : rectOf id (t.rects rc) = ({ rectAt t rc d with id := id }, true) := by
  rw [rectOf, rect_find _ _ _ _ h]

theorem rectAt_append : ∀ (t : Atr) (rc : Rc) (d e : List Bool) (s : Atr), sub t d = some s → rectAt t rc (d ++ e) = rectAt s (rectAt t rc d) e
  | t, rc, [], e, s, h => by rw [sub_nil] at h; cases h; rw [rectAt_nil]; rfl
  | .split be f l r, rc, false :: d, e, s, h => rectAt_append l (partA be f rc) d e s h
  | .split be f l r, rc, true :: d, e, s, h => rectAt_append r (partB be f rc) d e s h
  | .leaf _, _, _ :: _, _, _, h => by rw [sub_leaf] at h; cases h
theorem rectAt_set : ∀ (t : Atr) (rc : Rc) (d : List Bool) (s n : Atr), sub t d = some s → rectAt (set t d n) rc d = rectAt t rc d
  | t, rc, [], s, n, h => by rw [rectAt_nil, rectAt_nil]
  | .split be f l r, rc, false :: d, s, n, h => rectAt_set l (partA be f rc) d s n h
  | .split be f l r, rc, true :: d, s, n, h => rectAt_set r (partB be f rc) d s n h
  | .leaf _, _, _ :: _, _, _, h => by rw [sub_leaf] at h; cases h
theorem sub_set : ∀ (t : Atr) (d : List Bool) (s n : Atr), sub t d = some s → sub (set t d n) d = some n
  | t, [], s, n, h => by rw [set_nil, sub_nil]
  | .split be f l r, false :: d, s, n, h => sub_set l d s n h
  | .split be f l r, true :: d, s, n, h => sub_set r d s n h
  | .leaf _, _ :: _, _, _, h => by rw [sub_leaf] at h; cases h
theorem find_set (id : Int) : ∀ (t : Atr) (d : List Bool) (s n : Atr), sub t d = some s → find id n = find id s → find id (set t d n) = find id t
  | t, [], s, n, h, hn => by rw [sub_nil] at h; cases h; rw [set_nil]; exact hn
  | .split be f l r, false :: d, s, n, h, hn => by simp only [set, find, find_set id l d s n h hn]
  | .split be f l r, true :: d, s, n, h, hn => by simp only [set, find, find_set id r d s n h hn]
  | .leaf _, _ :: _, _, _, h, _ => by rw [sub_leaf] at h; cases h
theorem find_resize (id : Int) (be : Bool) : ∀ (t : Atr) (old now : Int), find id (t.resize be old now) = find id t
  | .leaf _, _, _ => rfl
  | .split bb f l r, old, now => by
    simp only [resize]
    split <;> simp only [find, find_resize id be l, find_resize id be r]

/-- no split in a direction on a way -/
def noBe (be : Bool) : Atr → List Bool → Prop
  | _, [] => True
  | .split b _ l _, false :: d => b ≠ be ∧ noBe be l d
  | .split b _ _ r, true :: d => b ≠ be ∧ noBe be r d
  | .leaf _, _ :: _ => True

theorem partA_size {b c : Bool} {f : Int} {rc : Rc} (h : c ≠ b) : (partA b f rc).size c = rc.size c := by cases b <;> cases c <;> first | exact absurd rfl h | rfl
theorem partB_size {b c : Bool} {f : Int} {rc : Rc} (h : c ≠ b) : (partB b f rc).size c = rc.size c := by cases b <;> cases c <;> first | exact absurd rfl h | rfl
theorem partA_same {b : Bool} {f : Int} {rc : Rc} : (partA b f rc).size b = f := by cases b <;> rfl
theorem partB_same {b : Bool} {f : Int} {rc rc' : Rc} (h : rc.size b = rc'.size b) : (partB b f rc).size b = (partB b f rc').size b := by
  cases b <;> simp only [partB, Rc.size, if_true, Bool.false_eq_true, if_false] at h ⊢ <;> rw [h]

theorem path_same (be : Bool) : ∀ (t : Atr) (d : List Bool) (rc rc' : Rc) (old now : Int), noBe be t d → (∀ c, c ≠ be → rc.size c = rc'.size c) →
    (rectAt t rc d).size be = rc.size be ∧ (rectAt (t.resize be old now) rc' d).size be = rc'.size be ∧ ∀ c, c ≠ be → (rectAt (t.resize be old now) rc' d).size c = (rectAt t rc d).size c
  | t, [], rc, rc', _, _, _, h => by
    rw [rectAt_nil, rectAt_nil]
    exact ⟨rfl, rfl, fun c hc => (h c hc).symm⟩
  | .leaf i, x :: d, rc, rc', _, _, _, h => by
    cases x <;> exact ⟨rfl, rfl, fun c hc => (h c hc).symm⟩
  | .split b f l r, false :: d, rc, rc', old, now, hn, h => by
    obtain ⟨hb, hn⟩ := hn
    have := path_same be l d (partA b f rc) (partA b f rc') old now hn (fun c hc => by
      by_cases e : c = b
      · subst e; rw [partA_same, partA_same]
      · rw [partA_size e, partA_size e]; exact h c hc)
    rw [partA_size (Ne.symm hb), partA_size (Ne.symm hb)] at this
    simp only [resize, if_neg hb]
    exact this
  | .split b f l r, true :: d, rc, rc', old, now, hn, h => by
    obtain ⟨hb, hn⟩ := hn
    have := path_same be r d (partB b f rc) (partB b f rc') old now hn (fun c hc => by
      by_cases e : c = b
      · subst e; exact partB_same (h c hc)
      · rw [partB_size e, partB_size e]; exact h c hc)
    rw [partB_size (Ne.symm hb), partB_size (Ne.symm hb)] at this
    simp only [resize, if_neg hb]
    exact this

theorem noBe_of (be : Bool) : ∀ (t : Atr) (d : List Bool), (∀ j b f l r, sub t (d.take j) = some (.split b f l r) → j < d.length → b ≠ be) → noBe be t d
  | t, [], _ => by cases t <;> trivial
  | .leaf _, x :: d, _ => by cases x <;> trivial
  | .split b f l r, false :: d, h => ⟨h 0 b f l r rfl (by simp), noBe_of be l d fun j b' f' l' r' hs hj => h (j + 1) b' f' l' r' hs (by simpa using hj)⟩
  | .split b f l r, true :: d, h => ⟨h 0 b f l r rfl (by simp), noBe_of be r d fun j b' f' l' r' hs hj => h (j + 1) b' f' l' r' hs (by simpa using hj)⟩
end Atr

theorem upTo_max {t : Atr} {d : List Bool} {be : Bool} : ∀ {n k : Nat}, Ast.upTo t d be n = some k → ∀ j, k < j → j < n → ∀ b f l r, t.sub (d.take j) = some (.split b f l r) → b ≠ be
  | 0, _, h => by simp [Ast.upTo] at h
  | n + 1, k, h => by
    intro j hk hj b f l r hs
    unfold Ast.upTo at h
    by_cases hjn : j = n
    · subst hjn
      rw [hs] at h
      simp only at h
      split at h
      · simp only [Option.some.injEq] at h; omega
      · assumption
    · split at h
      · split at h
        · simp only [Option.some.injEq] at h; omega
        · exact upTo_max h j hk (by omega) b f l r hs
      · exact upTo_max h j hk (by omega) b f l r hs

/-- the row of a window is what Rect finds -/
theorem row_find {s : Ast} {n : Int} (v : Inv s n) {r : Rc} (h : r ∈ s.rects) : ∃ d, s.root.find r.id = some d ∧ r = { s.root.rectAt s.frame d with id := r.id } := by
  have hm : r.id ∈ s.root.ids := by rw [← Atr.rects_ids s.root s.frame]; exact List.mem_map.2 ⟨r, h, rfl⟩
  cases hf : s.root.find r.id with
  | none => exact absurd hm (Atr.find_none _ _ hf)
  | some d =>
    refine ⟨d, rfl, ?_⟩
    obtain ⟨pre, post, h1, _⟩ := Atr.rects_ctx s.root d _ s.frame (Atr.find_sub _ _ _ hf)
    simp only [Atr.rects] at h1
    have hids := Atr.rects_ids s.root s.frame
    rw [h1] at hids
    have hnd := v.nd
    rw [← hids] at hnd
    rw [show s.rects = s.root.rects s.frame from rfl, h1] at h
    simp only [List.map_append, List.map_cons, List.map_nil, List.nodup_append, List.mem_append, List.mem_singleton, List.mem_map] at hnd h
    rcases h with h | h | h
    · exact absurd rfl (hnd.2.2 r.id ⟨r, h, rfl⟩ r.id (.inl rfl))
    · exact h
    · exact absurd rfl (hnd.2.1.2.2 r.id rfl r.id ⟨r, h, rfl⟩)

/-- what Resize does -/
theorem resize_law {s : Ast} {n : Int} (v : Inv s n) {r : Rc} (h : r ∈ s.rects) (k : Int) (be : Bool) :
    ((s.resize r.id k be).1 ≠ 0 → (s.resize r.id k be).2 = s) ∧ (rectOf r.id (s.resize r.id k be).2.rects).2 = true ∧
    ((s.resize r.id k be).1 = 0 → w64 ((rectOf r.id (s.resize r.id k be).2.rects).1.size be - r.size be) = k ∧ (∀ c, c ≠ be → (rectOf r.id (s.resize r.id k be).2.rects).1.size c = r.size c) ∧ (s.resize r.id k be).2.rects.length = s.rects.length) := by
  obtain ⟨d, hd, hr⟩ := row_find v h
  have hbase : (rectOf r.id s.rects).2 = true := by
    rw [rectOf, show s.rects = s.root.rects s.frame from rfl, Atr.rect_find _ _ _ _ hd]
  have triv : ∀ e : Int, e ≠ 0 → ((e, s).1 ≠ 0 → (e, s).2 = s) ∧ (rectOf r.id (e, s).2.rects).2 = true ∧ ((e, s).1 = 0 → w64 ((rectOf r.id (e, s).2.rects).1.size be - r.size be) = k ∧ (∀ c, c ≠ be → (rectOf r.id (e, s).2.rects).1.size c = r.size c) ∧ (e, s).2.rects.length = s.rects.length) :=
    fun e he => ⟨fun _ => rfl, hbase, fun h => absurd h he⟩
  unfold Ast.resize
  rw [hd]
  dsimp only
  split
  · exact triv 9 (by decide)
  rename_i m hm
  split
  · exact triv 3 (by decide)
  rename_i hk
  obtain ⟨hmd, f, l, rr, hs⟩ := upTo_some hm
  rw [hs]
  dsimp only
  obtain ⟨lr, hlr⟩ : ∃ lr, d[m]? = some lr := ⟨_, List.getElem?_eq_getElem hmd⟩
  rw [hlr]
  generalize hby : (if some lr = some false then k else w64 (0 - k)) = by2
  split
  · exact triv 3 (by decide)
  rename_i hc
  simp only [not_or, Int.not_lt] at hc hk
  refine ⟨fun h => absurd rfl h, ?_⟩
  obtain ⟨f0, l0⟩ := Atr.at_fits s.root (d.take m) _ s.frame hs v.fit (fun b => by have := v.size b; omega)
  generalize hN : Atr.split be (w64 (f + by2)) (l.resize be f (w64 (f + by2))) (rr.resize be (w64 (w64 ((s.root.rectAt s.frame (d.take m)).size be - f) - bar be)) (w64 (w64 (w64 ((s.root.rectAt s.frame (d.take m)).size be - f) - bar be) - by2))) = N
  have hfd := Atr.find_set r.id s.root (d.take m) _ N hs (by rw [← hN]; simp only [Atr.find, Atr.find_resize])
  rw [hd] at hfd
  have hlen : (Atr.rects (s.root.set (d.take m) N) s.frame).length = s.rects.length := by
    obtain ⟨pre, post, e1, e2⟩ := Atr.rects_ctx s.root (d.take m) _ s.frame hs
    show (Atr.rects _ s.frame).length = (s.root.rects s.frame).length
    rw [e2, e1, ← hN]
    simp only [List.length_append, Atr.rects_len, Atr.size, Atr.size_resize]
  show (rectOf r.id (Atr.rects (s.root.set (d.take m) N) s.frame)).2 = true ∧ ((0 : Int) = 0 → w64 ((rectOf r.id (Atr.rects (s.root.set (d.take m) N) s.frame)).1.size be - r.size be) = k ∧ (∀ c, c ≠ be → (rectOf r.id (Atr.rects (s.root.set (d.take m) N) s.frame)).1.size c = r.size c) ∧ (Atr.rects (s.root.set (d.take m) N) s.frame).length = s.rects.length)
  rw [Atr.rectOf_find hfd]
  refine ⟨rfl, fun _ => ?_⟩
  generalize hD : s.root.rectAt s.frame (d.take m) = D at *
  have hdd : d.take m ++ (lr :: d.drop (m + 1)) = d := by
    have h1 := List.drop_eq_getElem_cons hmd
    have h2 : d[m] = lr := by rw [List.getElem?_eq_getElem hmd] at hlr; exact Option.some.inj hlr
    rw [h2] at h1
    rw [← h1, List.take_append_drop]
  have hrest : (d.drop (m + 1)).length = d.length - (m + 1) := List.length_drop
  generalize hre : d.drop (m + 1) = rest at hdd hrest
  have e1 : s.root.rectAt s.frame d = Atr.rectAt (.split be f l rr) D (lr :: rest) := by rw [← hdd, Atr.rectAt_append _ _ _ _ _ hs, hD]
  have e2 : (s.root.set (d.take m) N).rectAt s.frame d = Atr.rectAt N D (lr :: rest) := by
    conv => lhs; rw [← hdd]
    have := Atr.rectAt_append (s.root.set (d.take m) N) s.frame (d.take m) (lr :: rest) N (Atr.sub_set _ _ _ _ hs)
    rw [hdd] at this ⊢
    rw [this, Atr.rectAt_set _ _ _ _ _ hs, hD]
  have hmax := upTo_max hm
  have hno : Atr.noBe be (if lr then rr else l) rest := by
    refine Atr.noBe_of be _ rest fun j b f' l' r' hsub hj => ?_
    refine hmax (m + 1 + j) (by omega) (by omega) b f' l' r' ?_
    have : d.take (m + 1 + j) = d.take m ++ (lr :: rest.take j) := by
      conv => lhs; rw [← hdd]
      rw [List.take_append, List.length_take, Nat.min_eq_left (by omega), List.take_of_length_le (by rw [List.length_take]; omega), show m + 1 + j - m = j + 1 by omega, List.take_succ_cons]
    rw [this, Atr.sub_append, hs]
    cases lr <;> exact hsub
  have hvs := v.size be
  have hb0 := l0 be
  have hlb := Atr.fits_lst l _ f0.1 be
  have hrb := Atr.fits_lst rr _ f0.2 be
  rw [Dim.set_same] at hlb hrb
  rw [Rc.dim_eq] at hrb
  have pl := (Atr.lst_pos be l).1
  have pr := (Atr.lst_pos be rr).1
  have hbar : 0 ≤ bar be ∧ bar be ≤ 1 := by cases be <;> decide
  have hby2 : by2 = if lr then -k else k := by
    rw [← hby]
    cases lr
    · rfl
    · simp only [reduceCtorEq, if_false, if_true, Option.some.injEq, Bool.true_eq_false]
      rw [wrap_sm (n := 0 - k) (by omega) (by omega)]; omega
  have w1 : w64 (f + by2) = f + by2 := by
    refine wrap_sm ?_ ?_ <;> (rw [hby2]; cases lr <;> simp only [if_true, Bool.false_eq_true, if_false] <;> omega)
  have w2 : w64 (w64 (D.size be - f) - bar be) = D.size be - f - bar be := by rw [wrap_sm (n := D.size be - f) (by omega) (by omega), wrap_sm (by omega) (by omega)]
  have w3 : w64 (D.size be - f - bar be - by2) = D.size be - f - bar be - by2 := by
    refine wrap_sm ?_ ?_ <;> (rw [hby2]; cases lr <;> simp only [if_true, Bool.false_eq_true, if_false] <;> omega)
  have hls : l.size < 1000000 := by
    obtain ⟨pre, post, e1, _⟩ := Atr.ctx _ _ _ hs
    have ts := v.tsize
    have := congrArg List.length e1
    simp only [Atr.ids, List.length_append, Atr.ids_length] at this
    omega
  have hc1 := hc.1
  rw [w1, Atr.least_eq be l hls] at hc1
  rw [w1, w2, w3] at hN
  have hrs : ∀ c, r.size c = (Atr.rectAt (.split be f l rr) D (lr :: rest)).size c := fun c => by
    rw [← e1]; conv => lhs; rw [hr]
    cases c <;> rfl
  rw [e2]
  show w64 ((Atr.rectAt N D (lr :: rest)).size be - r.size be) = k ∧ (∀ c, c ≠ be → (Atr.rectAt N D (lr :: rest)).size c = r.size c) ∧ _
  have hNs : (Atr.rectAt N D (lr :: rest)).size be = r.size be + k ∧ ∀ c, c ≠ be → (Atr.rectAt N D (lr :: rest)).size c = r.size c := by
    subst hN
    cases lr with
    | false =>
      have := Atr.path_same be l rest (partA be f D) (partA be (f + by2) D) f (f + by2) hno (fun c hc => by rw [Atr.partA_size hc, Atr.partA_size hc])
      rw [Atr.partA_same, Atr.partA_same] at this
      refine ⟨?_, fun c hc => ?_⟩
      · rw [hrs]
        show (Atr.rectAt _ (partA be (f + by2) D) rest).size be = (Atr.rectAt l (partA be f D) rest).size be + k
        rw [this.1, this.2.1, hby2]; rfl
      · rw [hrs]; exact this.2.2 c hc
    | true =>
      have hB : ∀ x : Int, 0 ≤ x → x ≤ 100000 → (partB be x D).size be = D.size be - x - bar be := fun x h1 h2 => by
        have := congrFun (partB_dim (be := be) (f := x) (r := D) h1 h2 (by omega) (by omega)) be
        rw [Dim.set_same] at this
        exact this
      simp only [if_true] at hby2
      have := Atr.path_same be rr rest (partB be f D) (partB be (f + by2) D) (D.size be - f - bar be) (D.size be - f - bar be - by2) hno (fun c hc => by rw [Atr.partB_size hc, Atr.partB_size hc])
      rw [hB f (by omega) (by omega), hB (f + by2) (by omega) (by omega)] at this
      refine ⟨?_, fun c hc => ?_⟩
      · rw [hrs]
        show (Atr.rectAt _ (partB be (f + by2) D) rest).size be = (Atr.rectAt rr (partB be f D) rest).size be + k
        rw [this.1, this.2.1]; omega
      · rw [hrs]; exact this.2.2 c hc
  refine ⟨?_, hNs.2, hlen⟩
  rw [hNs.1, show r.size be + k - r.size be = k by omega]
  exact wrap_sm (by omega) (by omega)

end Go.Proofs.Ytiedpcmdimgboaa

/- The executor at work: a call that it walks to 'true' answers true, and keeps all that was. -/
namespace Go.Ax

/-- nothing is renamed -/
def Ren.same : Ren := ⟨fun n => n, fun _ => 0, fun _ => 0, fun _ => .nilIface, fun _ => rfl⟩

theorem rel_none (P : Program) (w : World) : Rel P Ren.same (AHeap.none P.globals.size) w :=
  ⟨Nat.le_refl _, ⟨Nat.le_refl _, fun _ _ => ⟨rfl, rfl⟩⟩, fun m _ h => absurd (none_get _ m) h, fun n o h => (by rw [none_get] at h; cases h), fun n o h => (by rw [none_get] at h; cases h)⟩

theorem wide_wide : WideF Fence.wide := ⟨fun _ => trivial, rfl⟩

theorem call_in {P : Program} (hmix : P.follows .mixedOrders = true) {K : FuncId → List Value → Option Value} (hK : Known P K) {fuel : Nat} {f : FuncId} {args : List Value} {v : Value} {H H1 : AHeap} {ρ : Ren} {w : World} (r : Rel P ρ H w)
    (h : call P K fuel f args H = some (.ok v, H1)) (hsc : scbL H.next args = true) {F : Fence} {n : Nat} (hF : WideF F) : CallsIn F n P f (args.map ρ.val).toArray w (fun e w' => ∃ ρ1, e = .returned (ρ1.val v) ∧ St P ρ H w ρ1 H1 w') :=
  enterF_run (exec_sound hmix hK fuel).1 r h hsc hF (fun ρ1 w1 s _ => ⟨ρ1, rfl, s⟩)

theorem sameV_eq {u v : Value} (h : sameV u v = true) : u = v ∧ af v = true := by
  unfold sameV at h
  split at h
  · simp only [Bool.and_eq_true, decide_eq_true_eq] at h
    obtain ⟨rfl, rfl⟩ := h
    exact ⟨rfl, rfl⟩
  · simp only [beq_iff_eq] at h
    subst h
    exact ⟨rfl, rfl⟩
  · cases h

theorem sameL_eq : ∀ {u v : List Value}, sameL u v = true → u = v ∧ ∀ x ∈ v, af x = true
  | [], [], _ => ⟨rfl, fun _ h => by cases h⟩
  | a :: r, b :: q, h => by
    simp only [sameL, Bool.and_eq_true] at h
    obtain ⟨h1, h2⟩ := sameV_eq h.1
    obtain ⟨h3, h4⟩ := sameL_eq h.2
    refine ⟨by rw [h1, h3], fun x hx => ?_⟩
    rcases List.mem_cons.1 hx with rfl | hx
    · exact h2
    · exact h4 x hx
  | [], _ :: _, h => by cases h
  | _ :: _, [], h => by cases h

theorem afL_of : ∀ {l : List Value}, (∀ x ∈ l, af x = true) → afL l = true
  | [], _ => rfl
  | x :: l, h => by rw [afL, h x (List.mem_cons_self ..), afL_of fun y hy => h y (List.mem_cons_of_mem _ hy)]; rfl

theorem sameW_eq {u v : Value} (h : sameW u v = true) : u = v ∧ af v = true := by
  unfold sameW at h
  split at h
  · rename_i a b
    obtain ⟨h1, h2⟩ := sameL_eq h
    obtain ⟨a⟩ := a
    obtain ⟨b⟩ := b
    simp only at h1 h2
    subst h1
    exact ⟨rfl, by rw [af, afA]; exact afL_of h2⟩
  · rename_i a b
    obtain ⟨h1, h2⟩ := sameL_eq h
    obtain ⟨a⟩ := a
    obtain ⟨b⟩ := b
    simp only at h1 h2
    subst h1
    exact ⟨rfl, by rw [af, afA]; exact afL_of h2⟩
  · exact sameV_eq h

theorem sameM_eq : ∀ {u v : List Value}, sameM u v = true → u = v ∧ ∀ x ∈ v, af x = true
  | [], [], _ => ⟨rfl, fun _ h => by cases h⟩
  | a :: r, b :: q, h => by
    simp only [sameM, Bool.and_eq_true] at h
    obtain ⟨h1, h2⟩ := sameW_eq h.1
    obtain ⟨h3, h4⟩ := sameM_eq h.2
    refine ⟨by rw [h1, h3], fun x hx => ?_⟩
    rcases List.mem_cons.1 hx with rfl | hx
    · exact h2
    · exact h4 x hx
  | [], _ :: _, h => by cases h
  | _ :: _, [], h => by cases h

theorem ans_in {P : Program} (hmix : P.follows .mixedOrders = true) {K : FuncId → List Value → Option Value} (hK : Known P K) {fuel : Nat} {f : FuncId} {args : List Value} {v : Value} (ha : args.all af = true) (h : ansB P K fuel f args v = true) (F : Fence) (n : Nat) (w : World) (hF : WideF F) :
    CallsIn F n P f args.toArray w (fun e w' => e = .returned v ∧ RowKit.Below w.heap.size w w') := by
  unfold ansB at h
  split at h
  · rename_i u H1 hc
    obtain ⟨rfl, hv⟩ := sameW_eq h
    have := call_in hmix hK (rel_none P w) hc (scbL_of_af _ (afL_of fun x hx => List.all_eq_true.1 ha x hx)) (F := F) (n := n) hF
    rw [map_af _ args (fun x hx => List.all_eq_true.1 ha x hx)] at this
    refine this.mono ?_
    rintro e w' ⟨ρ1, rfl, s⟩
    exact ⟨by rw [val_af ρ1 _ hv], s.os, s.tape, s.output, s.size, fun b hb => s.old b hb fun n _ _ hg => absurd (none_get _ n) hg⟩
  · cases h

theorem known_nil (P : Program) : Known P (lookK []) := fun f args v h => by cases h

/-- one more answer is known -/
theorem known_cons {P : Program} (hmix : P.follows .mixedOrders = true) {L : List (FuncId × List Value × Value)} (hK : Known P (lookK L)) (fuel : Nat) {f : FuncId} {args : List Value} {v : Value} (ha : args.all af = true) (h : ansB P (lookK L) fuel f args v = true) :
    Known P (lookK ((f, args, v) :: L)) := by
  intro g bs u hu
  unfold lookK at hu
  split at hu
  · rename_i hc
    simp only [Bool.and_eq_true] at hc
    have h1 : f = g := Nat.eq_of_beq_eq_true hc.1
    obtain ⟨h2, _⟩ := sameM_eq hc.2
    subst h1 h2
    simp only [Option.some.injEq] at hu
    subst hu
    have hv : af v = true := by
      unfold ansB at h
      split at h
      · exact (sameW_eq h).2
      · cases h
    exact ⟨fun x hx => List.all_eq_true.1 ha x hx, hv, fun F n w hF => ans_in hmix hK ha h F n w hF⟩
  · exact hK g bs u hu

theorem true_calls {P : Program} (hmix : P.follows .mixedOrders = true) {K : FuncId → List Value → Option Value} (hK : Known P K) {fuel : Nat} {f : FuncId} (h : ansB P K fuel f [] (.bool true) = true) (w : World) :
    Calls P f #[] w (fun e w' => e = .returned (.bool true) ∧ RowKit.Below w.heap.size w w') :=
  (callsIn_wide (n := 0)).1 (ans_in hmix hK rfl h Fence.wide 0 w wide_wide)

end Go.Ax

/- A call's arguments, one of which is a slice of structs of numbers, truth values and strings: an abstract heap that holds its cells. -/
namespace Go.Ax
open Go.ChangeShapes
section
variable {P : Program} {K : Type} {enc : TypeId × Value → K} {w : World} {base : Nat} {spare : Nat → Bool} {held : Bool}

theorem mapM_each {α β : Type} {g : α → Option β} : ∀ {l : List α} {r : List β}, l.mapM g = some r → ∀ x ∈ l, ∃ y, g x = some y
  | [], _, _, x, hx => by cases hx
  | a :: l, r, h, x, hx => by
    rw [List.mapM_cons] at h
    cases hg : g a with
    | none => rw [hg] at h; cases h
    | some y =>
      rw [hg] at h
      cases hl : l.mapM g with
      | none => simp [hl] at h
      | some r' =>
        rcases List.mem_cons.1 hx with rfl | hx
        · exact ⟨y, hg⟩
        · exact mapM_each hl x hx

theorem fits_append : ∀ {ts us : List TypeId} {a b : List Value}, fits P ts a = true → fits P us b = true → fits P (ts ++ us) (a ++ b) = true
  | [], us, [], b, _, h => h
  | [], _, _ :: _, _, h, _ => by simp [fits] at h
  | _ :: _, _, [], _, h, _ => by simp [fits] at h
  | t :: ts, us, v :: a, b, h, h2 => by
    simp only [fits, Bool.and_eq_true] at h
    simp only [List.cons_append, fits, h.1, fits_append h.2 h2, Bool.and_self]

theorem trod_fieldsF {fuel d : Nat} {cs : List Value} (ih : ∀ (t : TypeId) (ts : List TypeId) (cs : List Value) (x : DataW K × List MemPlace), flat P d t = some ts → szOf P t = some ts.length → DataW.trod enc P w base spare held fuel t cs = some x → fits P ts cs = true) :
    ∀ (fs : List Field) (o : Nat) (ts : List TypeId), flatF P (flat P d) fs o = some ts → (∀ f ∈ fs, ∃ y, DataW.trod enc P w base spare held fuel f.type ((cs.drop f.offset).take (P.cellsOf f.type)) = some y) → o + ts.length ≤ cs.length → fits P ts ((cs.drop o).take ts.length) = true
  | [], o, ts, h, _, _ => by
    simp only [flatF, Option.some.injEq] at h
    subst h
    rfl
  | f :: fs, o, ts, h, hy, hle => by
    simp only [flatF] at h
    split at h
    · rename_i hf
      obtain ⟨_, ho⟩ := hf
      cases e1 : flat P d f.type with
      | none => rw [e1] at h; cases h
      | some a =>
        rw [e1] at h
        simp only at h
        split at h
        · rename_i hsz
          cases e2 : flatF P (flat P d) fs (o + a.length) with
          | none => rw [e2] at h; cases h
          | some b =>
            rw [e2] at h
            simp only [Option.some.injEq] at h
            subst h
            rw [List.length_append] at hle
            obtain ⟨y, hy0⟩ := hy f (by simp)
            rw [ho, cellsOf_szOf hsz] at hy0
            have h1 := ih f.type a _ y e1 hsz hy0
            have h2 := trod_fieldsF ih fs (o + a.length) b e2 (fun g hg => hy g (by simp [hg])) (by omega)
            have : (cs.drop o).take (a ++ b).length = (cs.drop o).take a.length ++ (cs.drop (o + a.length)).take b.length := by
              rw [List.length_append, List.take_add, List.drop_drop]
            rw [this]
            exact fits_append h1 h2
        · cases h
    · cases h

theorem trod_fits : ∀ (fuel d : Nat) (t : TypeId) (ts : List TypeId) (cs : List Value) (x : DataW K × List MemPlace), flat P d t = some ts → szOf P t = some ts.length → DataW.trod enc P w base spare held fuel t cs = some x → fits P ts cs = true
  | 0, _, _, _, _, _, _, _, h => by simp [DataW.trod] at h
  | _ + 1, 0, _, _, _, _, h, _, _ => by simp [flat] at h
  | fuel + 1, d + 1, t, ts, cs, x, hf, hs, h => by
    simp only [flat] at hf
    unfold DataW.trod at h
    cases e : P.underlying t with
    | none => rw [e] at hf; cases hf
    | some td =>
      rw [e] at hf h
      cases td with
      | bool =>
        simp only [Option.some.injEq] at hf
        subst hf
        split at h <;> first | cases h | skip
        all_goals first | (rename_i hh; cases hh; done) | skip
        all_goals simp_all [fits, fit1]
      | int k =>
        simp only [Option.some.injEq] at hf
        subst hf
        split at h <;> simp_all [fits, fit1]
      | string =>
        simp only [Option.some.injEq] at hf
        subst hf
        split at h <;> simp_all [fits, fit1]
      | struct fs =>
        simp only at hf
        split at hf
        · cases hf
        · simp only at h
          split at h
          · rename_i hlen
            rw [cellsOf_szOf hs] at hlen
            cases hm : fs.toList.mapM fun f => DataW.trod enc P w base spare held fuel f.type ((cs.drop f.offset).take (P.cellsOf f.type)) with
            | none => rw [hm] at h; cases h
            | some xs =>
              have := trod_fieldsF (cs := cs) (fun t ts cs x => trod_fits fuel d t ts cs x) fs.toList 0 ts hf (mapM_each hm) (by omega)
              rw [List.drop_zero, List.take_of_length_le (by omega)] at this
              exact this
          · cases h
      | _ => simp at hf

/-- what stands in a slice of structs that can be read -/
theorem trod_slice {fuel : Nat} {t e : TypeId} {ts : List TypeId} {D : Nat} (ht : P.underlying t = some (.slice e)) (hsz : szOf P e = some ts.length) (hfl : flat P D e = some ts) {b off len cap : Nat} {x : DataW K × List MemPlace}
    (h : DataW.trod enc P w 0 spare held fuel t [.slice (some ⟨b, off, none⟩) len cap] = some x) (hnf : w.noneFrozen x.2) :
    len ≤ cap ∧ (len * ts.length = 0 ∨ ∃ (c : Array Value) (e' : TypeId) (fz : Nat × Nat) (vs : List Value), w.heap[b]? = some (.cells c e' fz) ∧ vs.length = len * ts.length ∧ (∀ i, i < vs.length → c[off + i]? = some (vs.getD i undef)) ∧
      (∀ i, i < len → fits P ts ((vs.drop (i * ts.length)).take ts.length) = true) ∧ ∀ i, off ≤ i → i < off + len * ts.length → ¬ (fz.1 ≤ i ∧ i < fz.2)) := by
  cases fuel with
  | zero => simp [DataW.trod] at h
  | succ fuel =>
    unfold DataW.trod at h
    rw [ht] at h
    simp only [cellsOf_szOf hsz] at h
    split at h
    · rename_i hc
      refine ⟨hc.2.1, ?_⟩
      by_cases h0 : len * ts.length = 0
      · exact .inl h0
      right
      cases hm : (List.range len).mapM fun i => (w.cells? 0 ((⟨b, off, none⟩ : Addr).add (i * ts.length)) ts.length).bind (DataW.trod enc P w 0 spare held fuel e) with
      | none => rw [hm] at h; cases h
      | some elems =>
        rw [hm, Option.bind_some] at h
        have hel : elems.length = len := by have := mapM_len hm; simpa using this
        have each : ∀ i, i < len → ∃ cs y, w.cells? 0 ((⟨b, off, none⟩ : Addr).add (i * ts.length)) ts.length = some cs ∧ DataW.trod enc P w 0 spare held fuel e cs = some y := fun i hi => by
          obtain ⟨y, hy⟩ := mapM_each hm i (by simpa using hi)
          cases hcs : w.cells? 0 ((⟨b, off, none⟩ : Addr).add (i * ts.length)) ts.length with
          | none => rw [hcs] at hy; cases hy
          | some cs => rw [hcs] at hy; exact ⟨cs, y, rfl, hy⟩
        have cell : ∀ i, i < len * ts.length → ∃ v, w.cell? ⟨b, off + i, none⟩ = some v := fun i hi => by
          have hp : 0 < ts.length := Nat.pos_of_ne_zero fun h => h0 (by rw [h, Nat.mul_zero])
          have hq : i / ts.length < len := (Nat.div_lt_iff_lt_mul hp).2 hi
          obtain ⟨cs, y, hcs, _⟩ := each _ hq
          unfold World.cells? at hcs
          rw [if_pos (Nat.zero_le _)] at hcs
          obtain ⟨v, hv⟩ := mapM_each hcs (i % ts.length) (by simpa using Nat.mod_lt _ hp)
          rw [addr_add, addr_add] at hv
          have : off + i / ts.length * ts.length + i % ts.length = off + i := by rw [Nat.add_assoc, Nat.mul_comm, Nat.div_add_mod]
          rw [this] at hv
          exact ⟨v, hv⟩
        obtain ⟨v0, hv0⟩ := cell 0 (by omega)
        unfold World.cell? at hv0
        cases hb : w.heap[b]? with
        | none => simp [hb] at hv0
        | some o =>
          cases o with
          | cells c e' fz =>
            have cell' : ∀ i, i < len * ts.length → ∃ v, c[off + i]? = some v := fun i hi => by
              obtain ⟨v, hv⟩ := cell i hi
              simp only [World.cell?, hb] at hv
              exact ⟨v, by simpa using hv⟩
            obtain ⟨vs, hvs⟩ : ∃ vs : List Value, vs = (List.range (len * ts.length)).map fun i => (c[off + i]?).getD undef := ⟨_, rfl⟩
            have hvl : vs.length = len * ts.length := by simp [hvs]
            have hvg : ∀ i, i < vs.length → c[off + i]? = some (vs.getD i undef) := fun i hi => by
              rw [hvl] at hi
              obtain ⟨v, hv⟩ := cell' i hi
              simp [hvs, hi, hv, List.getD_eq_getElem?_getD]
            refine ⟨c, e', fz, vs, rfl, hvl, hvg, fun i hi => ?_, fun i h1 h2 => ?_⟩
            · obtain ⟨cs, y, hcs, hy⟩ := each i hi
              have hcs' : (vs.drop (i * ts.length)).take ts.length = cs := by
                unfold World.cells? at hcs
                rw [if_pos (Nat.zero_le _)] at hcs
                have hin : i * ts.length + ts.length ≤ len * ts.length := by rw [← Nat.succ_mul]; exact Nat.mul_le_mul_right _ hi
                have hr := mapM_range_of (f := fun j => w.cell? (((⟨b, off, none⟩ : Addr).add (i * ts.length)).add j)) (g := fun j => vs.getD (i * ts.length + j) undef) ts.length (fun j hj => by
                  have h3 := hvg (i * ts.length + j) (by rw [hvl]; omega)
                  rw [addr_add, addr_add, Nat.add_assoc]
                  simp [World.cell?, hb, h3])
                rw [hr] at hcs
                cases hcs
                apply List.ext_getElem?
                intro j
                by_cases hj : j < ts.length
                · rw [List.getElem?_take, if_pos hj, List.getElem?_drop, List.getElem?_map, List.getElem?_range hj, List.getElem?_eq_getElem (by rw [hvl]; omega)]
                  simp only [Option.map_some, List.getD_eq_getElem?_getD]
                  rw [List.getElem?_eq_getElem (by rw [hvl]; omega)]
                  rfl
                · rw [List.getElem?_eq_none (by simp; omega), List.getElem?_eq_none (by simp; omega)]
              rw [hcs']
              exact trod_fits fuel D e ts cs y hfl hsz hy
            · have hmem : MemPlace.cell b i ∈ x.2 := by
                cases hrest : (if spare b then (List.range (cap - len)).mapM fun j => (w.cells? 0 ((⟨b, off, none⟩ : Addr).add ((len + j) * ts.length)) ts.length).bind (DataW.trod enc P w 0 spare held fuel e) else some []) with
                | none => rw [hrest] at h; cases h
                | some rest =>
                  rw [hrest] at h
                  simp only [Option.map_some, Option.some.injEq] at h
                  subst h
                  simp only [List.mem_append]
                  left
                  unfold MemPlace.row
                  rw [List.mem_map]
                  refine ⟨i - off, ?_, by simp only [MemPlace.cell.injEq, true_and]; omega⟩
                  rw [List.mem_range, hel, Nat.add_mul]
                  omega
              have := hnf b i hmem
              intro hh
              simp only [World.frozen?, hb] at this
              simp [hh.1, hh.2] at this
          | _ => simp [hb] at hv0
    · cases h

/-- a heap of one block that was there before -/
def enH (N : Nat) (e : TypeId) (vs : List Value) : AHeap := { nw (AHeap.none N) e vs true with base := N + 1 }
theorem enH_next {N : Nat} {e : TypeId} {vs : List Value} : (enH N e vs).next = N + 1 := rfl
theorem enH_bk {N : Nat} {e : TypeId} {vs : List Value} : bk (enH N e vs) N = some ⟨e, true, vs⟩ := by
  have := blk_bk (Blk.nw_new (H := AHeap.none N) e true vs)
  exact this
theorem enH_get {N m : Nat} {e : TypeId} {vs : List Value} (h : m ≠ N) : (enH N e vs).get m = none := by
  have := nw_get (H := AHeap.none N) e vs true (m := m) h
  rw [none_get] at this
  exact this

def enR (N b off : Nat) : Ren := ⟨fun n => if n = N then b else n, fun n => if n = N then off else 0, fun _ => 0, fun _ => .nilIface, fun _ => rfl⟩

theorem rel_en {N b off : Nat} {e : TypeId} {vs : List Value} {c : Array Value} {fz : Nat × Nat} (hN : P.globals.size ≤ N) (hb : w.heap[b]? = some (.cells c e fz)) (hc : ∀ i, i < vs.length → c[off + i]? = some (vs.getD i undef)) (h0 : 0 < vs.length) (ha : afL vs = true) (hf : ∀ i, off ≤ i → i < off + vs.length → ¬ (fz.1 ≤ i ∧ i < fz.2)) :
    Rel P (enR N b off) (enH N e vs) w := by
  have hget : (enH N e vs).get N = some ⟨.cells #[] e, true, RV.ofList vs⟩ := by
    have : (nw (AHeap.none N) e vs true).get N = some ⟨.cells #[] e, true, RV.ofList vs⟩ := by rw [nw, AHeap.get_new, if_pos (show N = (AHeap.none N).next from rfl)]
    exact this
  have hav : ∀ x ∈ vs, af x = true := by
    intro x hx
    clear hc hf hget h0
    induction vs with
    | nil => cases hx
    | cons y ys ih =>
      simp only [afL, Bool.and_eq_true] at ha
      rcases List.mem_cons.1 hx with rfl | hx
      · exact ha.1
      · exact ih ha.2 hx
  have hgd : ∀ i, i < vs.length → af (vs.getD i undef) = true := fun i hi => hav _ (by simp [List.getD_eq_getElem?_getD, List.getElem?_eq_getElem hi])
  refine ⟨Nat.le_refl _, ⟨Nat.le_succ_of_le hN, fun g hg => ?_⟩, fun m n hm hn _ => ?_, fun n o hn => ?_, fun n o hn => ?_⟩
  · have : g ≠ N := by omega
    exact ⟨if_neg this, if_neg this⟩
  · have e1 : m = N := Decidable.byContradiction fun h => hm (enH_get h)
    have e2 : n = N := Decidable.byContradiction fun h => hn (enH_get h)
    rw [e1, e2]
  · by_cases h : n = N
    · subst h
      rw [hget] at hn
      cases hn
      refine ⟨Nat.lt_succ_self _, ?_⟩
      simp only [sco, RV.n_ofList, RV.get_ofList]
      intro i hi
      exact scb_of_af _ (hgd i hi)
    · rw [enH_get h] at hn; cases hn
  · by_cases h : n = N
    · subst h
      rw [hget] at hn
      cases hn
      refine ⟨_, by simp only [enR, if_pos]; exact hb, ?_⟩
      simp only [Fits]
      refine ⟨c, fz, rfl, fun i hi => ?_, fun h => (by cases h), fun _ => ⟨?_, ?_⟩⟩
      · simp only [RV.n_ofList] at hi
        rw [RV.get_ofList, val_af _ _ (hgd i hi)]
        simp only [enR, if_pos]
        rw [Nat.add_comm]
        exact hc i hi
      · simp only [enR, if_pos, RV.n_ofList, Nat.zero_mul, Nat.add_zero]
        have := hc (vs.length - 1) (by omega)
        rcases Nat.lt_or_ge (off + (vs.length - 1)) c.size with h1 | h1
        · omega
        · rw [Array.getElem?_eq_none h1] at this; cases this
      · simp only [enR, if_pos, RV.n_ofList, Nat.zero_mul, Nat.add_zero]
        exact hf
    · rw [enH_get h] at hn; cases hn

/-- a call that answers true and changes nothing, from a heap that stands for the world -/
theorem rel_calls {f : FuncId} {args : List Value} {H : AHeap} {ρ : Ren} (r : Rel P ρ H w) (hsc : scbL H.next args = true) (hbase : H.base = H.next) (hd : H.dirty = []) (h : CallA P f args H fun out H1 => out = .ok (.bool true) ∧ Mod [] H H1) :
    Calls P f (args.map ρ.val).toArray w (fun e w' => e = .returned (.bool true) ∧ RowKit.Below w.heap.size w w') := by
  obtain ⟨_, H1, hc, rfl, m⟩ := h
  refine (callsIn_wide (n := 0)).1 (hc ρ w r hsc Fence.wide 0 _ wide_wide ?_)
  intro ρ1 w1 s _
  refine ⟨by rw [Ren.val], s.os, s.tape, s.output, s.size, fun b hb => s.old b hb fun n hn hor _ => ?_⟩
  rcases hor with h | h
  · omega
  · rcases m.dirty n h with h | h
    · rw [hd] at h; cases h
    · exact absurd h.1 (by simp)

/-- a call whose answer a run gives -/
theorem callS_ans (hmix : P.follows .mixedOrders = true) {L : FuncId → List Value → Option Value} (hK : Known P L) {fuel : Nat} {f : FuncId} {args : List Value} {v : Value} (ha : args.all af = true) (h : ansB P L fuel f args v = true) (H : AHeap) : CallS P f args H (.ok v) H := by
  intro ρ w r hsc F n R hF hR
  rw [map_af ρ args (fun x hx => List.all_eq_true.1 ha x hx)]
  have hv : af v = true := by
    unfold ansB at h
    split at h
    · exact (sameW_eq h).2
    · cases h
  refine (ans_in hmix hK ha h F n w hF).mono ?_
  rintro e w' ⟨rfl, hb⟩
  have := hR ρ w' (St.below r hb) (scb_of_af _ hv)
  rwa [val_af ρ _ hv] at this
end
end Go.Ax

/- The statements' arguments; sequences of acts. -/
namespace Go.Proofs.Ytiedpcmdimgboaa
open Go.Ax
set_option linter.unusedSimpArgs false
set_option maxRecDepth 10000

theorem lives_true : Go.Ax.ansB Try.prog (Go.Ax.lookK []) 1000 9 [] (.bool true) = true := by kernel_rfl
theorem lives_c (H : AHeap) : Pure 9 [] H (.bool true) := callS_ans mixed (known_nil _) rfl lives_true H

def acsOf (l : List Ac) : List Value := l.flatMap Ac.cells
theorem acsOf_length (l : List Ac) : (acsOf l).length = l.length * 5 := by
  induction l with
  | nil => rfl
  | cons r rs ih => simp only [acsOf, List.flatMap_cons, List.length_append] at ih ⊢; rw [ih]; simp only [Ac.cells, List.length_cons, List.length_nil]; omega

/-- a slice of acts -/
def ArgAt (H : AHeap) (v : Value) (l : List Ac) : Prop :=
  ∃ a c, v = .slice a l.length c ∧ (l ≠ [] → ∃ n s e, a = some ⟨n, 0, s⟩ ∧ n < H.next ∧ bk H n = some ⟨e, true, acsOf l⟩)

theorem acs_get : ∀ (l : List Ac) (k : Nat) (p : Ac), l[k]? = some p → ((acsOf l).drop (k * 5)).take 5 = p.cells
  | [], k, p, h => by simp at h
  | q :: ps, 0, p, h => by
    simp only [List.getElem?_cons_zero, Option.some.injEq] at h
    subst h
    simp [acsOf, Ac.cells]
  | q :: ps, k + 1, p, h => by
    have ih := acs_get ps k p (by simpa using h)
    rw [show acsOf (q :: ps) = q.cells ++ acsOf ps from rfl, show (k + 1) * 5 = q.cells.length + k * 5 by simp [Ac.cells]; omega, List.drop_append, List.drop_eq_nil_of_le (by omega), List.nil_append, Nat.add_sub_cancel_left]
    exact ih

theorem acs_load {l : List Ac} {k : Nat} {p : Ac} {e : TypeId} {o : Bool} (h : l[k]? = some p) : ldB Try.prog 31 (0 + k * 5) (some ⟨e, o, acsOf l⟩) = some p.val := by
  have hk : k < l.length := by
    rcases Nat.lt_or_ge k l.length with h' | h'
    · exact h'
    · rw [List.getElem?_eq_none h'] at h; cases h
  have h1 : aggT Try.prog 31 = some true := by kernel_rfl
  have h2 : szOf Try.prog 31 = some 5 := by kernel_rfl
  simp only [ldB, h1, h2, Option.bind_some, Nat.zero_add, acs_get l k p h]
  rw [if_pos (by rw [acsOf_length]; omega)]
  rfl

theorem acs_ia {len cap n : Nat} {s : Option Nat} {i : Int} {k : Nat} (hi : i = k) (hk : k < len) : aIndexAddr Try.prog 22 (.slice (some ⟨n, 0, s⟩) len cap) (.int .i64 i) = some (.pointer (some ⟨n, 0 + k * 5, none⟩)) := by
  subst hi
  rw [ia_slice (e := 31) (sz := 5) (by kernel_rfl) (by kernel_rfl) (by omega) (by omega)]
  simp

/-- a frame of new blocks, in which all is as it must be -/
structure Live (H X : AHeap) (T : Nat) (x : Wn) (n : Int) : Prop where
  good : Good X T x
  inv : Inv x.abs n
  mod : Mod [] H X
  t : H.next ≤ T
  bl : ∀ m ∈ x.root.blks, H.next ≤ m

theorem Live.step {H X X1 : AHeap} {T : Nat} {x y : Wn} {n m : Int} (l : Live H X T x n) (hok : H.base ≤ H.next) (s : Step X T x X1 y) (hi : Inv y.abs m) : Live H X1 T y m := by
  refine ⟨s.good, hi, l.mod.step s.mod hok (fun k hk => ?_), l.t, fun k hk => ?_⟩
  · rcases List.mem_cons.1 hk with rfl | hk
    · exact .inr l.t
    · exact .inr (l.bl k hk)
  · rcases s.new k hk with h | h
    · exact l.bl k h
    · exact Nat.le_trans l.mod.next h

theorem Live.size {H X : AHeap} {T : Nat} {x : Wn} {n : Int} (l : Live H X T x n) : x.rects.length ≤ 64 := by
  have h := l.inv.cnt
  rw [Atr.ids_length] at h
  have h2 := rects_length x.root x.frame
  show (rects x.root x.frame).length ≤ 64
  rw [h2]
  have : x.root.size = x.abs.root.size := abs_size x.root
  omega
theorem Live.rects {H X : AHeap} {T : Nat} {x : Wn} {n : Int} (_ : Live H X T x n) : x.rects = x.abs.rects := abs_rects x.root x.frame

theorem new_live {H : AHeap} (hok : H.base ≤ H.next) {h w : Int} (hin : inside h w = true) {b : Nat} (hb : H.next = b) : Live H (ext H [⟨65, false, [.int .i64 1]⟩, ⟨69, false, [.iface 63 (.pointer (some ⟨b + 0, 0, none⟩)), .int .i64 h, .int .i64 w, .int .i64 1, .int .i64 1]⟩]) (b + 1) ⟨.leaf (b + 0) 1, h, w, 1, 1⟩ 1 := by
  refine ⟨⟨⟨by rw [bk_at hb (by simp)]; rfl, ?_⟩, by rw [ext_next, hb]; simp, fun n hn => ?_, by simp [Tr.blks], by simp [Tr.blks], (Mod.ext (W := []) hok).ok hok, by simp [Tr.size]⟩, new_inv hin, Mod.ext hok, by omega, fun n hn => ?_⟩
  · show bk _ (b + 0) = _
    rw [bk_at hb (by simp)]; rfl
  · simp only [Tr.blks, List.mem_singleton] at hn
    subst hn
    rw [ext_next, hb]; simp
  · simp only [Tr.blks, List.mem_singleton] at hn
    omega

theorem pick_lt {n k : Int} (h0 : 0 < k) (h1 : k < 1000000) : ∃ j : Nat, pick n k = j ∧ (j : Int) < k := by
  unfold pick
  rw [if_neg (by omega)]
  have h2 := Int.tmod_lt_of_pos n h0
  have h3 : -k < n.tmod k := by
    have := Int.lt_tmod_of_pos n h0
    exact this
  split
  · rw [wrap_sm (n := n.tmod k + k) (by omega) (by omega)]
    exact ⟨(n.tmod k + k).toNat, by omega, by omega⟩
  · exact ⟨(n.tmod k).toNat, by omega, by omega⟩

theorem wrap_succ {k : Nat} (h : k < 1000000) : IntKind.i64.wrap ((k : Int) + 1) = ((k + 1 : Nat) : Int) := by
  have := wrap_sm (n := (k : Int) + 1) (by omega) (by omega)
  rw [show IntKind.i64.wrap ((k : Int) + 1) = _ from this]; omega

end Go.Proofs.Ytiedpcmdimgboaa

/- The walk of WindowResizes. -/
namespace Go.Proofs.Ytiedpcmdimgboaa
open Go.Ax
set_option linter.unusedSimpArgs false
set_option maxRecDepth 10000

/-- a law that answers true and changes nothing -/
abbrev True1 (H : AHeap) (out : Out) (H1 : AHeap) : Prop := out = .ok (.bool true) ∧ Mod [] H H1

set_option maxHeartbeats 4000000 in
theorem resizes_c (h w id by1 : Int) (be : Bool) (v : Value) (l : List Ac) (H : AHeap) (hok : H.base ≤ H.next) (hv : ArgAt H v l) :
    CallA Try.prog 3 [.int .i64 h, .int .i64 w, v, .int .i64 id, .int .i64 by1, .bool be] H (True1 H) := by
  obtain ⟨b, hb⟩ : ∃ b, H.next = b := ⟨_, rfl⟩
  obtain ⟨av, cv, rfl, hv⟩ := hv
  refine callE_fn mixed Try.func3 rfl Try.ntmps3 (Nat.le_of_ble_eq_true rfl) ?_
  simp (maxDischargeDepth := 6) only [ruW, putL, Nat.reduceLeDiff, xF, ruU, entryE, Nat.reduceLT, Nat.reduceAdd, Nat.reduceMul, Nat.reduceEqDiff]
  refine (lives_c (ext H [])).to ?_
  by_cases h60 : (60 : Int) < (l.length : Int)
  · simp (maxDischargeDepth := 6) only [h60, Bool.not_true, decide_true, Try.results3, ruW, putL, Nat.reduceLeDiff, xF, ruU, entryE, Nat.reduceLT, Nat.reduceAdd, Nat.reduceMul, Nat.reduceEqDiff]
    exact ⟨rfl, Mod.refl⟩
  simp (maxDischargeDepth := 6) only [h60, Bool.not_true, decide_false, ruW, putL, Nat.reduceLeDiff, xF, ruU, entryE, Nat.reduceLT, Nat.reduceAdd, Nat.reduceMul, Nat.reduceEqDiff]
  cases hin : inside h w with
  | false =>
    refine (new_no h w (ext H []) hin).to ?_
    simp (maxDischargeDepth := 6) only [Int.reduceEq, ne_eq, not_false_eq_true, decide_true, Try.results3, ruW, putL, Nat.reduceLeDiff, xF, ruU, entryE, Nat.reduceLT, Nat.reduceAdd, Nat.reduceMul, Nat.reduceEqDiff]
    exact ⟨rfl, Mod.refl⟩
  | true =>
  refine (new_ok h w (ext H []) hin).to ?_
  simp (maxDischargeDepth := 6) only [hb, ne_eq, not_true_eq_false, decide_false, ruW, putL, Nat.reduceLeDiff, xF, ruU, entryE, Nat.reduceLT, Nat.reduceAdd, Nat.reduceMul, Nat.reduceEqDiff]
  have hl0 := new_live hok hin hb
  generalize hX : ext H (_ :: _) = X at hl0 ⊢
  refine w_env fun E hE => ?_
  have e2 : E 2 = .slice av l.length cv := by rw [hE]; simp only [ruU, entryE, Nat.reduceLT, Nat.reduceAdd, Nat.reduceMul, Nat.reduceEqDiff]
  have e3 : E 3 = .int .i64 id := by rw [hE]; simp only [ruU, entryE, Nat.reduceLT, Nat.reduceAdd, Nat.reduceMul, Nat.reduceEqDiff]
  have e4 : E 4 = .int .i64 by1 := by rw [hE]; simp only [ruU, entryE, Nat.reduceLT, Nat.reduceAdd, Nat.reduceMul, Nat.reduceEqDiff]
  have e5 : E 5 = .bool be := by rw [hE]; simp only [ruU, entryE, Nat.reduceLT, Nat.reduceAdd, Nat.reduceMul, Nat.reduceEqDiff]
  have e13 : E 13 = .pointer (some ⟨b + 1, 0, none⟩) := by rw [hE]; simp only [ruU, entryE, Nat.reduceLT, Nat.reduceAdd, Nat.reduceMul, Nat.reduceEqDiff]
  have e15 : E 15 = .int .i64 0 := by rw [hE]; simp only [ruU, entryE, Nat.reduceLT, Nat.reduceAdd, Nat.reduceMul, Nat.reduceEqDiff]
  clear hE
  refine blockC_meet (fun E' H' => ∃ x, Live H H' (b + 1) x 200 ∧ E' 3 = .int .i64 id ∧ E' 4 = .int .i64 by1 ∧ E' 5 = .bool be ∧ E' 13 = .pointer (some ⟨b + 1, 0, none⟩)) ?_ ?_
  · refine w_loop (fun (k : Nat) E' H' => ∃ x, Live H H' (b + 1) x (k + 1) ∧ k ≤ l.length ∧ E' 2 = .slice av l.length cv ∧ E' 3 = .int .i64 id ∧ E' 4 = .int .i64 by1 ∧ E' 5 = .bool be ∧ E' 13 = .pointer (some ⟨b + 1, 0, none⟩) ∧ E' 15 = .int .i64 (k : Int)) (fun k => l.length - k) 0 ⟨_, hl0, Nat.zero_le _, e2, e3, e4, e5, e13, e15⟩ ?_
    clear e2 e3 e4 e5 e13 e15
    rintro k E X ⟨x, lv, hk, e2, e3, e4, e5, e13, e15⟩
    rw [show X = ext X [] from rfl]
    by_cases hkl : k = l.length
    · have hc : decide ((k : Int) < (l.length : Int)) = false := by simp [hkl]
      simp (maxDischargeDepth := 6) only [e2, e3, e4, e5, e13, e15, hc, ruW, putL, Nat.reduceLeDiff, xF, ruU, entryE, Nat.reduceLT, Nat.reduceAdd, Nat.reduceMul, Nat.reduceEqDiff]
      refine joinR_normal ⟨x, ⟨lv.good, lv.inv.mono (by omega), lv.mod, lv.t, lv.bl⟩, ?_, ?_, ?_, ?_⟩ <;> simp only [e2, e3, e4, e5, e13, e15, ruU, entryE, Nat.reduceLT, Nat.reduceAdd, Nat.reduceMul, Nat.reduceEqDiff]
    · have hlt : k < l.length := by omega
      have hc : decide ((k : Int) < (l.length : Int)) = true := decide_eq_true (by omega)
      obtain ⟨nA, sA, eA, rfl, hnA, hbA⟩ := hv (by intro h; rw [h] at hlt; simp at hlt)
      obtain ⟨a, ha⟩ : ∃ a, l[k]? = some a := ⟨_, List.getElem?_eq_getElem hlt⟩
      have i1 := acs_ia (n := nA) (s := sA) (cap := cv) (i := (k : Int)) rfl hlt
      have q1 := acs_load (e := eA) (o := true) ha
      have hbX := (lv.mod.bk hnA (by simp)).trans hbA
      have lA := lv.mod.lt hnA
      simp (maxDischargeDepth := 6) only [e2, e3, e4, e5, e13, e15, hc, i1, lA, hbX, q1, ruW, putL, Nat.reduceLeDiff, xF, ruU, entryE, Nat.reduceLT, Nat.reduceAdd, Nat.reduceMul, Nat.reduceEqDiff]
      refine (do_c (b + 1) x a (ext X []) lv.good).mono ?_
      rintro _ X1 ⟨rfl, x', st, hab⟩
      have lv' := lv.step hok st (m := (((k + 1 : Nat) : Int) + 1)) (by rw [hab]; have := act_inv lv.inv (by omega) a; exact this.mono (by omega))
      rw [show X1 = ext X1 [] from rfl]
      simp (maxDischargeDepth := 6) only [e15, wrap_succ (show k < 1000000 by omega), ruW, putL, Nat.reduceLeDiff, xF, ruU, entryE, Nat.reduceLT, Nat.reduceAdd, Nat.reduceMul, Nat.reduceEqDiff]
      refine loopC_next ⟨k + 1, by omega, x', lv', by omega, ?_, ?_, ?_, ?_, ?_, ?_⟩ <;> simp only [e2, e3, e4, e5, e13, e15, ruU, entryE, Nat.reduceLT, Nat.reduceAdd, Nat.reduceMul, Nat.reduceEqDiff]
  · clear e2 e3 e4 e5 e13 e15 hX hl0
    rintro E X ⟨x, lv, e3, e4, e5, e13⟩
    rw [show X = ext X [] from rfl]
    have hsz := lv.size
    obtain ⟨c, hc⟩ : ∃ c, X.next = c := ⟨_, rfl⟩
    have okX := lv.good.ok
    have hcX : X.base ≤ c := hc ▸ okX
    simp (maxDischargeDepth := 6) only [e3, e4, e5, e13, ruW, putL, Nat.reduceLeDiff, xF, ruU, entryE, Nat.reduceLT, Nat.reduceAdd, Nat.reduceMul, Nat.reduceEqDiff]
    refine (rects_c (b + 1) x (ext X []) (by omega) lv.good.wn).to ?_
    have hr0 := rects_ne x.root x.frame
    have hpos : 0 < x.rects.length := List.length_pos_iff.2 hr0
    have hz : decide ((x.rects.length : Int) = 0) = false := decide_eq_false (by omega)
    simp (maxDischargeDepth := 6) only [e3, e4, e5, e13, hc, hz, ruW, putL, Nat.reduceLeDiff, xF, ruU, entryE, Nat.reduceLT, Nat.reduceAdd, Nat.reduceMul, Nat.reduceEqDiff]
    refine (pick_c id x.rects.length (ext X (_ :: _))).to ?_
    obtain ⟨j, hj, hjl⟩ := pick_lt (n := id) (k := x.rects.length) (by omega) (by omega)
    rw [hj]
    obtain ⟨r, hr⟩ := get_ex (l := x.rects) (k := j) (by omega)
    have i1 := rows_ia (n := c + 0) (s := none) (cap := x.rects.length) (len := x.rects.length) (i := (j : Int)) rfl (by omega)
    have q1 := rows_load (o := true) hr
    simp only [Rc.val] at q1
    simp (maxDischargeDepth := 6) only [e3, e4, e5, e13, hc, hcX, i1, q1, ruW, putL, Nat.reduceLeDiff, xF, ruU, entryE, Nat.reduceLT, Nat.reduceAdd, Nat.reduceMul, Nat.reduceEqDiff]
    have hrm : r ∈ x.abs.rects := by rw [← lv.rects]; exact List.mem_of_getElem? hr
    obtain ⟨la1, la2, la3⟩ := resize_law lv.inv hrm by1 be
    have gE : Good (ext X [⟨35, true, rowsOf x.rects⟩, ⟨35, false, r.cells⟩]) (b + 1) x := lv.good.ext
    simp only [Rc.cells] at gE
    refine (resize_d (b + 1) x r.id by1 be _ gE).mono ?_
    rintro _ Y ⟨rfl, y, st, hab⟩
    have lvE : Live H (ext X [⟨35, true, rowsOf x.rects⟩, ⟨35, false, r.cells⟩]) (b + 1) x 200 := ⟨lv.good.ext, lv.inv, lv.mod.trans (Mod.ext okX), lv.t, lv.bl⟩
    simp only [Rc.cells] at lvE
    have lvY := lvE.step hok st (m := 200) (by rw [hab]; exact resize_inv lv.inv _ _ _)
    have hszY := lvY.size
    have hTx : ∀ i, c + i ∉ (b + 1) :: x.root.blks := fun i h => by
      rcases List.mem_cons.1 h with h | h
      · have := lv.good.lt; omega
      · have := lv.good.lts _ h; omega
    have hY0 : bk Y (c + 0) = some ⟨35, true, rowsOf x.rects⟩ := (st.mod.bk (by rw [ext_next, hc]; simp) (hTx 0)).trans (by rw [bk_at hc (by simp)]; rfl)
    have hY1 : bk Y (c + 1) = some ⟨35, false, r.cells⟩ := (st.mod.bk (by rw [ext_next, hc]; simp) (hTx 1)).trans (by rw [bk_at hc (by simp)]; rfl)
    have hYn : c + 2 ≤ Y.next := by have := st.mod.next; rw [ext_next, hc] at this; exact this
    obtain ⟨z, hz⟩ : ∃ z, Y.next = z := ⟨_, rfl⟩
    have l0 : c + 0 < z := by omega
    have l1 : c + 1 < z := by omega
    have okY := lvY.good.ok
    have hzY : Y.base ≤ z := hz ▸ okY
    simp only [Rc.cells] at hY1
    rw [show Y = ext Y [] from rfl]
    simp (maxDischargeDepth := 6) only [e3, e4, e5, e13, hz, l0, l1, hY1, ruW, putL, Nat.reduceLeDiff, xF, ruU, entryE, Nat.reduceLT, Nat.reduceAdd, Nat.reduceMul, Nat.reduceEqDiff]
    refine (rect_c (b + 1) y r.id (ext Y []) (by omega) lvY.good.wn).to ?_
    have hys : y.rects = (x.abs.resize r.id by1 be).2.rects := by rw [← hab]; exact lvY.rects
    rw [hys, la2]
    generalize hnow : (rectOf r.id (x.abs.resize r.id by1 be).2.rects).1 = now at la3 ⊢
    simp (maxDischargeDepth := 6) only [Rc.val, e3, e4, e5, e13, hz, hzY, ruW, putL, Nat.reduceLeDiff, xF, ruU, entryE, Nat.reduceLT, Nat.reduceAdd, Nat.reduceMul, Nat.reduceEqDiff]
    have gZ : WnAt (ext Y [⟨35, false, now.cells⟩]) (b + 1) y := lvY.good.ext.wn
    simp only [Rc.cells] at gZ
    have mEnd : Mod [] H (ext Y [⟨35, false, now.cells⟩, ⟨35, true, rowsOf y.rects⟩]) := lvY.mod.trans (Mod.ext okY)
    simp only [Rc.cells] at mEnd
    by_cases hf : (x.abs.resize r.id by1 be).1 = 0
    · obtain ⟨lb1, lb2, lb3⟩ := la3 hf
      have hlen : ((y.rects.length : Nat) : Int) = (x.rects.length : Int) := by rw [hys, lb3, lv.rects]
      rw [hf]
      cases be with
      | true =>
        have hs1 : IntKind.i64.wrap (now.h - r.h) = by1 := lb1
        have hs2 : now.w = r.w := lb2 false (by decide)
        simp (maxDischargeDepth := 6) only [e3, e4, e5, e13, hz, hzY, l1, hY1, hs1, hs2, ne_eq, not_true_eq_false, decide_false, decide_true, Bool.not_true, ruW, putL, Nat.reduceLeDiff, xF, ruU, entryE, Nat.reduceLT, Nat.reduceAdd, Nat.reduceMul, Nat.reduceEqDiff]
        refine (rects_c (b + 1) y (ext Y (_ :: _)) (by omega) (by rw [← hs2]; exact gZ)).to ?_
        simp (maxDischargeDepth := 6) only [hlen, hs2, decide_true, Try.results3, ruW, putL, Nat.reduceLeDiff, xF, ruU, entryE, Nat.reduceLT, Nat.reduceAdd, Nat.reduceMul, Nat.reduceEqDiff]
        rw [hs2] at mEnd
        exact ⟨rfl, mEnd⟩
      | false =>
        have hs1 : IntKind.i64.wrap (now.w - r.w) = by1 := lb1
        have hs2 : now.h = r.h := lb2 true (by decide)
        simp (maxDischargeDepth := 6) only [e3, e4, e5, e13, hz, hzY, l1, hY1, hs1, hs2, ne_eq, not_true_eq_false, decide_false, decide_true, Bool.not_true, ruW, putL, Nat.reduceLeDiff, xF, ruU, entryE, Nat.reduceLT, Nat.reduceAdd, Nat.reduceMul, Nat.reduceEqDiff]
        refine (rects_c (b + 1) y (ext Y (_ :: _)) (by omega) (by rw [← hs2]; exact gZ)).to ?_
        simp (maxDischargeDepth := 6) only [hlen, hs2, decide_true, Try.results3, ruW, putL, Nat.reduceLeDiff, xF, ruU, entryE, Nat.reduceLT, Nat.reduceAdd, Nat.reduceMul, Nat.reduceEqDiff]
        rw [hs2] at mEnd
        exact ⟨rfl, mEnd⟩
    · have hsame := la1 hf
      have hrr : y.rects = x.rects := by rw [hys, hsame, lv.rects]
      simp (maxDischargeDepth := 6) only [e3, e4, e5, e13, hz, hzY, hf, ne_eq, not_false_eq_true, decide_true, Bool.not_true, ruW, putL, Nat.reduceLeDiff, xF, ruU, entryE, Nat.reduceLT, Nat.reduceAdd, Nat.reduceMul, Nat.reduceEqDiff]
      refine (rects_c (b + 1) y (ext Y (_ :: _)) (by omega) gZ).to ?_
      simp (maxDischargeDepth := 6) only [e3, e4, e5, e13, hz, hzY, ruW, putL, Nat.reduceLeDiff, xF, ruU, entryE, Nat.reduceLT, Nat.reduceAdd, Nat.reduceMul, Nat.reduceEqDiff]
      have ra1 : RowsAt (ext Y [⟨35, false, now.cells⟩, ⟨35, true, rowsOf y.rects⟩]) (.slice (some ⟨z + 1, 0, none⟩) y.rects.length y.rects.length) y.rects := .inr ⟨_, _, _, _, rfl, by rw [bk_at hz (by simp)]; rfl⟩
      have ra2 : RowsAt (ext Y [⟨35, false, now.cells⟩, ⟨35, true, rowsOf y.rects⟩]) (.slice (some ⟨c + 0, 0, none⟩) x.rects.length x.rects.length) x.rects := .inr ⟨_, _, _, _, rfl, by rw [bk_old (by rw [hz]; exact l0)]; exact hY0⟩
      simp only [Rc.cells] at ra1 ra2
      refine (same_c _ _ _ _ _ ra1 ra2 (by omega)).to ?_
      simp (maxDischargeDepth := 6) only [hrr, decide_true, Try.results3, ruW, putL, Nat.reduceLeDiff, xF, ruU, entryE, Nat.reduceLT, Nat.reduceAdd, Nat.reduceMul, Nat.reduceEqDiff]
      rw [hrr] at mEnd
      exact ⟨rfl, mEnd⟩

end Go.Proofs.Ytiedpcmdimgboaa

/- From what a walk shows to the given statements: arguments, one of which is a slice of structs. -/
namespace Go.Proofs.Ytiedpcmdimgboaa
open Go.ChangeShapes Go.WideShapes Go.ChangeAt Go.RowKit Go.Ax
set_option maxRecDepth 10000

section
variable {P : Program} {w : World} {r : Reach} {base : Nat}
theorem ok_int {t : TypeId} {v : Value} (ht : P.underlying t = some (.int .i64)) (h : Value.okWide P w r base t v) : ∃ n, v = .int .i64 n := by
  unfold Value.okWide at h
  rw [ht] at h
  unfold Cell.okWide Cell.ok at h
  cases v <;> simp [ht] at h
  exact ⟨_, by rw [h.1]⟩
theorem ok_bool {t : TypeId} {v : Value} (ht : P.underlying t = some .bool) (h : Value.okWide P w r base t v) : ∃ b, v = .bool b := by
  unfold Value.okWide at h
  rw [ht] at h
  unfold Cell.okWide Cell.ok at h
  cases v <;> simp [ht] at h
  exact ⟨_, rfl⟩
theorem ok_slice {t e : TypeId} {v : Value} (ht : P.underlying t = some (.slice e)) (h : Value.okWide P w r base t v) : v = .slice none 0 0 ∨ ∃ b off len cap, v = .slice (some ⟨b, off, none⟩) len cap := by
  unfold Value.okWide at h
  rw [ht] at h
  unfold Cell.okWide Cell.ok at h
  cases v with
  | slice a len cap =>
    cases a with
    | none =>
      simp only [ht] at h
      left
      cases len <;> cases cap <;> first | rfl | (simp at h)
    | some a =>
      simp only [ht] at h
      have hs := h.2.2.2.1
      obtain ⟨b, off, s⟩ := a
      simp only at hs
      subst hs
      exact .inr ⟨b, off, len, cap, rfl⟩
  | _ => simp [ht] at h
end

theorem trodAll_carry {K : Type} {enc : TypeId × Value → K} {P : Program} (hl : laidOutB P = true) {W W' : World} (hb : Below W.heap.size W W') : ∀ {ts : List TypeId} {vs : List Value} {ds : List (DataW K)} {ps : List MemPlace},
    (ts.all fun t => P.readableRec t && Nat.blt t P.types.size) = true → DataW.TrodAll enc P W 0 (fun _ => true) true ts vs ds ps → (∀ x ∈ ps, x.block < W.heap.size) → DataW.TrodAll enc P W' 0 (fun b => decide (b < W.heap.size)) true ts vs ds ps
  | [], [], [], ps, _, h, _ => h
  | t :: ts, v :: vs, d :: ds, ps, ht, h, hp => by
    obtain ⟨p, q, h1, h2, rfl⟩ := h
    simp only [List.all_cons, Bool.and_eq_true] at ht
    exact ⟨p, q, Below.trod hl ht.1.1 (blt_lt ht.1.2) h1 hb (fun x hx => hp x (by simp [hx])), trodAll_carry hl hb (by simpa using ht.2) h2 (fun x hx => hp x (by simp [hx])), rfl⟩

theorem Try.own : ownKnob Try.prog.godebug = none := by kernel_rfl
theorem Try.laidOut : laidOutB Try.prog = true := by kernel_rfl
theorem fl31 : flat Try.prog 10000 31 = some [3, 3, 3, 3, 4] := by kernel_rfl
theorem u3 : Try.prog.underlying 3 = some (.int .i64) := by kernel_rfl
theorem u22 : Try.prog.underlying 22 = some (.slice 31) := by kernel_rfl

/-- the acts that rows of cells are -/
theorem acs_of : ∀ (n : Nat) (vs : List Value), vs.length = n * 5 → (∀ i, i < n → fits Try.prog [3, 3, 3, 3, 4] ((vs.drop (i * 5)).take 5) = true) → ∃ l : List Ac, l.length = n ∧ acsOf l = vs
  | 0, vs, h, _ => by
    have : vs = [] := List.eq_nil_of_length_eq_zero (by simpa using h)
    subst this
    exact ⟨[], rfl, rfl⟩
  | n + 1, vs, h, hf => by
    have h0 := hf 0 (by omega)
    simp only [Nat.zero_mul, List.drop_zero] at h0
    obtain ⟨l, h1, h2⟩ := acs_of n (vs.drop 5) (by rw [List.length_drop]; omega) (fun i hi => by
      have := hf (i + 1) (by omega)
      rw [List.drop_drop, show 5 + i * 5 = (i + 1) * 5 by omega]
      exact this)
    match vs, h with
    | [], h => simp at h
    | [_], h => simp at h; omega
    | [_, _], h => simp at h; omega
    | [_, _, _], h => simp at h; omega
    | [_, _, _, _], h => simp at h; omega
    | a :: b :: c :: d :: e :: r, h =>
      simp only [List.take_succ_cons, List.take_zero, fits, Bool.and_true, Bool.and_eq_true] at h0
      have hi : ∀ v, fit1 Try.prog 3 v = true → ∃ n, v = .int .i64 n := fun v hv => by
        unfold fit1 at hv
        rw [u3] at hv
        cases v <;> simp at hv
        exact ⟨_, by rw [hv]⟩
      have hb : ∀ v, fit1 Try.prog 4 v = true → ∃ n, v = .bool n := fun v hv => by
        unfold fit1 at hv
        rw [xU4] at hv
        cases v <;> simp at hv
        exact ⟨_, rfl⟩
      obtain ⟨a, rfl⟩ := hi _ h0.1
      obtain ⟨b, rfl⟩ := hi _ h0.2.1
      obtain ⟨c, rfl⟩ := hi _ h0.2.2.1
      obtain ⟨d, rfl⟩ := hi _ h0.2.2.2.1
      obtain ⟨e, rfl⟩ := hb _ h0.2.2.2.2
      refine ⟨⟨a, b, c, d, e⟩ :: l, by simp [h1], ?_⟩
      simp only [List.drop_succ_cons, List.drop_zero] at h2
      simp only [acsOf, List.flatMap_cons, Ac.cells] at h2 ⊢
      rw [h2]
      rfl

/-- a slice of acts that can be read: a heap that stands for the world and holds them -/
theorem entry {K : Type} {enc : TypeId × Value → K} {W : World} {v : Value} {d : DataW K} {p : List MemPlace} {base : Nat} (hok : Value.okWide Try.prog W .any base 22 v) (h : DataW.Trod enc Try.prog W 0 (fun _ => true) true 22 v d p) (hnf : W.noneFrozen p) :
    ∃ (ρ : Ren) (H : AHeap) (u : Value) (l : List Ac), Rel Try.prog ρ H W ∧ H.base = H.next ∧ H.dirty = [] ∧ ρ.val u = v ∧ scb H.next u = true ∧ ArgAt H u l := by
  obtain ⟨N, hN⟩ : ∃ N, Try.prog.globals.size ≤ N := ⟨_, Nat.le_refl _⟩
  rcases ok_slice u22 hok with rfl | ⟨b, off, len, cap, rfl⟩
  · exact ⟨_, _, .slice none 0 0, [], rel_none Try.prog W, rfl, rfl, by rw [Ren.val], rfl, none, 0, rfl, fun h => absurd rfl h⟩
  · obtain ⟨fuel, hf⟩ := h
    obtain ⟨hlc, hh⟩ := trod_slice (ts := [3, 3, 3, 3, 4]) u22 (by kernel_rfl) fl31 hf hnf
    have hval : ∀ N, (enR N b off).val (.slice (some ⟨N, 0, some 0⟩) len cap) = .slice (some ⟨b, off, none⟩) len cap := fun N => by
      simp [Ren.val, enR]
    rcases hh with h0 | ⟨c, e', fz, vs, hb, hvl, hcv, hfit, hfz⟩
    · have hlen : len = 0 := by simp only [List.length_cons, List.length_nil] at h0; omega
      subst hlen
      refine ⟨enR N b off, AHeap.none (N + 1), .slice (some ⟨N, 0, some 0⟩) 0 cap, [], ⟨Nat.le_refl _, ⟨Nat.le_succ_of_le hN, fun g hg => ?_⟩, fun m _ hm => absurd (none_get _ m) hm, fun n o ho => (by rw [none_get] at ho; cases ho), fun n o ho => (by rw [none_get] at ho; cases ho)⟩, rfl, rfl, hval _, blt_of (Nat.lt_succ_self _), _, cap, rfl, fun h => absurd rfl h⟩
      have : g ≠ N := by omega
      exact ⟨if_neg this, if_neg this⟩
    · simp only [List.length_cons, List.length_nil, Nat.reduceAdd] at hvl hfit hfz
      obtain ⟨l, hl, rfl⟩ := acs_of len vs hvl hfit
      by_cases hpos : 0 < (acsOf l).length
      · have haf : afL (acsOf l) = true := by
          clear hvl hfit hfz hcv hpos hl
          induction l with
          | nil => rfl
          | cons a l ih =>
            simp only [acsOf, List.flatMap_cons, Ac.cells, List.cons_append, List.nil_append] at ih ⊢
            simp only [afL, af, ih, Bool.and_self]
        have hr := rel_en (w := W) (e := e') (b := b) (off := off) hN hb hcv hpos haf (fun i h1 h2 => hfz i h1 (by rw [acsOf_length, hl] at h2; exact h2))
        subst hl
        exact ⟨_, _, .slice (some ⟨N, 0, some 0⟩) l.length cap, l, hr, rfl, rfl, hval N, blt_of (Nat.lt_succ_self _), _, cap, rfl, fun _ => ⟨N, some 0, e', rfl, Nat.lt_succ_self _, enH_bk⟩⟩
      · have hl0 : l = [] := List.eq_nil_of_length_eq_zero (by rw [acsOf_length] at hpos; omega)
        subst hl0
        simp only [List.length_nil] at hl
        subst hl
        refine ⟨enR N b off, AHeap.none (N + 1), .slice (some ⟨N, 0, some 0⟩) 0 cap, [], ⟨Nat.le_refl _, ⟨Nat.le_succ_of_le hN, fun g hg => ?_⟩, fun m _ hm => absurd (none_get _ m) hm, fun n o ho => (by rw [none_get] at ho; cases ho), fun n o ho => (by rw [none_get] at ho; cases ho)⟩, rfl, rfl, hval _, blt_of (Nat.lt_succ_self _), _, cap, rfl, fun h => absurd rfl h⟩
        have : g ≠ N := by omega
        exact ⟨if_neg this, if_neg this⟩

/-- a law with such a slice, that a walk shows true -/
theorem law_calls {K : Type} {enc : TypeId × Value → K} {f : FuncId} {W : World} {v : Value} {d : DataW K} {p : List MemPlace} (pre post : List Value) (h1 : pre.all af = true) (h2 : post.all af = true) {base : Nat} (hok : Value.okWide Try.prog W .any base 22 v) (h : DataW.Trod enc Try.prog W 0 (fun _ => true) true 22 v d p) (hnf : W.noneFrozen p)
    (walk : ∀ (u : Value) (l : List Ac) (H : AHeap), H.base ≤ H.next → ArgAt H u l → CallA Try.prog f (pre ++ u :: post) H (True1 H)) :
    Calls Try.prog f (pre ++ v :: post).toArray W (fun e w' => e = .returned (.bool true) ∧ RowKit.Below W.heap.size W w') := by
  obtain ⟨ρ, H, u, l, hr, hb, hd, rfl, hs, ha⟩ := entry hok h hnf
  have e1 : ∀ l : List Value, l.all af = true → l.map ρ.val = l := fun l hl => map_af ρ l (fun x hx => List.all_eq_true.1 hl x hx)
  have s1 : ∀ l : List Value, l.all af = true → scbL H.next l = true := fun l hl => scbL_of_af _ (afL_of fun x hx => List.all_eq_true.1 hl x hx)
  have := rel_calls hr (args := pre ++ u :: post) (scbL_append (s1 _ h1) (by simp only [scbL, hs, s1 _ h2, Bool.and_self])) hb hd (walk u l H (Nat.le_of_eq hb) ha)
  rw [List.map_append, List.map_cons, e1 _ h1, e1 _ h2] at this
  exact this

end Go.Proofs.Ytiedpcmdimgboaa

/- Windows and bars cover each cell of the frame once. -/
namespace Go.Proofs.Ytiedpcmdimgboaa
open Go.Ax
set_option linter.unusedSimpArgs false

/-- whether a cell lies in a rectangle -/
def Rc.hit (r : Rc) (i j : Int) : Int := if r.top ≤ i ∧ i < r.top + r.h ∧ r.left ≤ j ∧ j < r.left + r.w then 1 else 0
def hits : List Rc → Int → Int → Int
  | [], _, _ => 0
  | r :: l, i, j => r.hit i j + hits l i j
theorem hits_append : ∀ (l m : List Rc) (i j : Int), hits (l ++ m) i j = hits l i j + hits m i j
  | [], m, i, j => by simp only [List.nil_append, hits, Int.zero_add]
  | r :: l, m, i, j => by simp only [List.cons_append, hits, hits_append l m i j, Int.add_assoc]
theorem hits_take : ∀ (l : List Rc) (k : Nat) (r : Rc) (i j : Int), l[k]? = some r → hits (l.take (k + 1)) i j = hits (l.take k) i j + r.hit i j := fun l k r i j h => by
  rw [List.take_add_one, h, hits_append]
  simp only [Option.toList_some, hits, Int.add_zero]

/-- a rectangle within another -/
def Rc.sits (r o : Rc) : Prop := o.top ≤ r.top ∧ o.left ≤ r.left ∧ r.top + r.h ≤ o.top + o.h ∧ r.left + r.w ≤ o.left + o.w
theorem Rc.sits.trans {a b c : Rc} (h : a.sits b) (g : b.sits c) : a.sits c := by
  unfold Rc.sits at *
  omega

theorem partA_tt {f : Int} {r : Rc} : partA true f r = { r with h := f } := rfl
theorem partA_ff {f : Int} {r : Rc} : partA false f r = { r with w := f } := rfl
theorem partB_tt {f : Int} {r : Rc} (h0 : 0 ≤ r.top) (h1 : r.top + r.h ≤ 1000) (hf : 0 ≤ f) (hh : f ≤ r.h) : partB true f r = { r with top := r.top + f, h := r.h - f } := by
  simp only [partB, if_true]
  rw [show w64 (r.top + f) = r.top + f from wrap_sm (by omega) (by omega), show w64 (r.h - f) = r.h - f from wrap_sm (by omega) (by omega)]
theorem partB_ff {f : Int} {r : Rc} (h0 : 0 ≤ r.left) (h1 : r.left + r.w ≤ 1000) (hf : 0 ≤ f) (hh : f ≤ r.w) : partB false f r = { r with left := r.left + f + 1, w := r.w - f - 1 } := by
  simp only [partB, Bool.false_eq_true, if_false]
  rw [show w64 (r.left + f) = r.left + f from wrap_sm (by omega) (by omega), show w64 (r.left + f + 1) = r.left + f + 1 from wrap_sm (by omega) (by omega), show w64 (r.w - f) = r.w - f from wrap_sm (by omega) (by omega), show w64 (r.w - f - 1) = r.w - f - 1 from wrap_sm (by omega) (by omega)]

theorem cover : ∀ (t : Tr) (rc : Rc), t.abs.fits rc.dim → 0 ≤ rc.top → 0 ≤ rc.left → rc.top + rc.h ≤ 1000 → rc.left + rc.w ≤ 1000 →
    (∀ i j, hits (rects t rc) i j + hits (barsOf t rc) i j = rc.hit i j) ∧ (∀ r ∈ rects t rc, r.sits rc ∧ 2 ≤ r.h ∧ 4 ≤ r.w) ∧ (∀ r ∈ barsOf t rc, r.sits rc ∧ 2 ≤ r.h ∧ r.w = 1)
  | .leaf n id, rc, hf, h0, h1, h2, h3 => by
    have e1 := hf true
    have e2 := hf false
    simp only [Rc.dim_eq, Rc.size, mins, if_true, Bool.false_eq_true, if_false] at e1 e2
    refine ⟨fun i j => ?_, fun r hr => ?_, fun r hr => ?_⟩
    · simp only [rects, barsOf, hits, Rc.hit, Int.add_zero]
    · simp only [rects, List.mem_singleton] at hr
      subst hr
      refine ⟨⟨Int.le_refl _, Int.le_refl _, Int.le_refl _, Int.le_refl _⟩, e1, e2⟩
    · simp only [barsOf, List.not_mem_nil] at hr
  | .split n true f l r, rc, hf, h0, h1, h2, h3 => by
    obtain ⟨fl, fr⟩ := hf
    have p1 := Atr.fits_lst _ _ fl true
    have p2 := Atr.fits_lst _ _ fr true
    have q1 := (Atr.lst_pos true l.abs).1
    have q2 := (Atr.lst_pos true r.abs).1
    rw [Dim.set_same] at p1 p2
    have hb : bar true = 0 := rfl
    have hd : rc.dim true = rc.h := rfl
    rw [hb, hd] at p2
    have p3 := Atr.fits_lst _ _ fl false
    have q3 := (Atr.lst_pos false l.abs).1
    rw [Dim.set_ne _ _ (by decide)] at p3
    have hd2 : rc.dim false = rc.w := rfl
    have eB := partB_tt (f := f) h0 h2 (by omega) (by omega)
    have dA : (partA true f rc).dim = rc.dim.set true f := partA_dim _ _ _
    have dB : (partB true f rc).dim = rc.dim.set true (rc.dim true - f - bar true) := partB_dim (by omega) (by omega) (by show 0 ≤ rc.h; omega) (by show rc.h ≤ 100000; omega)
    obtain ⟨a1, a2, a3⟩ := cover l (partA true f rc) (by rw [dA]; exact fl) h0 h1 (by show rc.top + f ≤ 1000; omega) h3
    obtain ⟨b1, b2, b3⟩ := cover r (partB true f rc) (by rw [dB]; exact fr) (by rw [eB]; show 0 ≤ rc.top + f; omega) (by rw [eB]; exact h1) (by rw [eB]; show rc.top + f + (rc.h - f) ≤ 1000; omega) (by rw [eB]; exact h3)
    have sA : (partA true f rc).sits rc := by rw [partA_tt]; unfold Rc.sits; dsimp only; omega
    have sB : (partB true f rc).sits rc := by rw [eB]; unfold Rc.sits; dsimp only; omega
    refine ⟨fun i j => ?_, fun q hq => ?_, fun q hq => ?_⟩
    · have ha := a1 i j
      have hb' := b1 i j
      simp only [rects, barsOf, if_true, List.nil_append, hits_append]
      have hs : (partA true f rc).hit i j + (partB true f rc).hit i j = rc.hit i j := by
        rw [partA_tt, eB]
        simp only [Rc.hit]
        split <;> split <;> split <;> omega
      omega
    · simp only [rects, List.mem_append] at hq
      rcases hq with h | h
      · exact ⟨(a2 q h).1.trans sA, (a2 q h).2⟩
      · exact ⟨(b2 q h).1.trans sB, (b2 q h).2⟩
    · simp only [barsOf, if_true, List.nil_append, List.mem_append] at hq
      rcases hq with h | h
      · exact ⟨(a3 q h).1.trans sA, (a3 q h).2⟩
      · exact ⟨(b3 q h).1.trans sB, (b3 q h).2⟩
  | .split n false f l r, rc, hf, h0, h1, h2, h3 => by
    obtain ⟨fl, fr⟩ := hf
    have p1 := Atr.fits_lst _ _ fl false
    have p2 := Atr.fits_lst _ _ fr false
    have q1 := (Atr.lst_pos false l.abs).1
    have q2 := (Atr.lst_pos false r.abs).1
    rw [Dim.set_same] at p1 p2
    have hb : bar false = 1 := rfl
    have hd : rc.dim false = rc.w := rfl
    rw [hb, hd] at p2
    have p3 := Atr.fits_lst _ _ fl true
    have q3 := (Atr.lst_pos true l.abs).1
    rw [Dim.set_ne _ _ (by decide)] at p3
    have hd2 : rc.dim true = rc.h := rfl
    rw [hd2] at p3
    have eB := partB_ff (f := f) h1 h3 (by omega) (by omega)
    have dA : (partA false f rc).dim = rc.dim.set false f := partA_dim _ _ _
    have dB : (partB false f rc).dim = rc.dim.set false (rc.dim false - f - bar false) := partB_dim (by omega) (by omega) (by show 0 ≤ rc.w; omega) (by show rc.w ≤ 100000; omega)
    obtain ⟨a1, a2, a3⟩ := cover l (partA false f rc) (by rw [dA]; exact fl) h0 h1 h2 (by show rc.left + f ≤ 1000; omega)
    obtain ⟨b1, b2, b3⟩ := cover r (partB false f rc) (by rw [dB]; exact fr) (by rw [eB]; exact h0) (by rw [eB]; show 0 ≤ rc.left + f + 1; omega) (by rw [eB]; exact h2) (by rw [eB]; show rc.left + f + 1 + (rc.w - f - 1) ≤ 1000; omega)
    have sA : (partA false f rc).sits rc := by rw [partA_ff]; unfold Rc.sits; dsimp only; omega
    have sB : (partB false f rc).sits rc := by rw [eB]; unfold Rc.sits; dsimp only; omega
    have hw : w64 (rc.left + f) = rc.left + f := wrap_sm (by omega) (by omega)
    refine ⟨fun i j => ?_, fun q hq => ?_, fun q hq => ?_⟩
    · have ha := a1 i j
      have hb' := b1 i j
      simp only [rects, barsOf, Bool.false_eq_true, if_false, hits_append, hits, hw]
      have hs : (partA false f rc).hit i j + (partB false f rc).hit i j + Rc.hit ⟨0, rc.top, rc.left + f, rc.h, 1⟩ i j = rc.hit i j := by
        rw [partA_ff, eB]
        simp only [Rc.hit]
        split <;> split <;> split <;> split <;> omega
      omega
    · simp only [rects, List.mem_append] at hq
      rcases hq with h | h
      · exact ⟨(a2 q h).1.trans sA, (a2 q h).2⟩
      · exact ⟨(b2 q h).1.trans sB, (b2 q h).2⟩
    · simp only [barsOf, Bool.false_eq_true, if_false, List.mem_append, List.mem_singleton, hw] at hq
      rcases hq with h | h | h
      · subst h
        refine ⟨?_, by dsimp only; omega, rfl⟩
        unfold Rc.sits
        dsimp only
        omega
      · exact ⟨(a3 q h).1.trans sA, (a3 q h).2⟩
      · exact ⟨(b3 q h).1.trans sB, (b3 q h).2⟩

end Go.Proofs.Ytiedpcmdimgboaa

/- What mark comes to: the cells of a rectangle, counted. -/
namespace Go.Proofs.Ytiedpcmdimgboaa
open Go.Ax
set_option linter.unusedSimpArgs false
set_option maxRecDepth 10000

/-- a block of counts -/
def cellsOf (f : Nat → Int) (n : Nat) : List Value := (List.range n).map fun k => .int .i64 (f k)
theorem cellsOf_length (f : Nat → Int) (n : Nat) : (cellsOf f n).length = n := by simp [cellsOf]
theorem cellsOf_get {f : Nat → Int} {n k : Nat} (h : k < n) : (cellsOf f n)[k]? = some (.int .i64 (f k)) := by
  simp only [cellsOf, List.getElem?_map, List.getElem?_range h, Option.map_some]
theorem cellsOf_congr {f g : Nat → Int} {n : Nat} (h : ∀ k, k < n → f k = g k) : cellsOf f n = cellsOf g n := by
  unfold cellsOf
  refine List.map_congr_left fun k hk => ?_
  rw [h k (List.mem_range.1 hk)]
theorem putL_len : ∀ (l : List Value) (o : Nat) (vs : List Value), (putL l o vs).length = l.length
  | [], _, _ => rfl
  | _ :: _, 0, [] => rfl
  | _ :: r, 0, _ :: ys => by simp only [putL, List.length_cons, putL_len r 0 ys]
  | _ :: r, k + 1, vs => by simp only [putL, List.length_cons, putL_len r k vs]
theorem cellsOf_put {f : Nat → Int} {n p : Nat} {v : Int} (h : p < n) : putL (cellsOf f n) p [.int .i64 v] = cellsOf (fun k => if k = p then v else f k) n := by
  refine List.ext_getElem? fun j => ?_
  by_cases hj : j < n
  · rw [putL_get _ _ _ _ (by rw [cellsOf_length]; exact hj), cellsOf_get hj, cellsOf_get hj]
    by_cases e : j = p
    · subst e
      rw [if_pos ⟨Nat.le_refl _, by simp⟩, if_pos rfl, Nat.sub_self]
      rfl
    · rw [if_neg (by simp only [List.length_cons, List.length_nil]; omega), if_neg e]
  · rw [List.getElem?_eq_none (by rw [putL_len, cellsOf_length]; omega), List.getElem?_eq_none (by rw [cellsOf_length]; omega)]

/-- whether a cell lies in a rectangle, by its number -/
def inR (w t l a b k : Nat) : Prop := t ≤ k / w ∧ k / w < t + a ∧ l ≤ k % w ∧ k % w < l + b
instance (w t l a b k : Nat) : Decidable (inR w t l a b k) := by unfold inR; infer_instance
def part (w t l a b : Nat) (f : Nat → Int) (p k : Nat) : Int := f k + if inR w t l a b k ∧ k < p then 1 else 0

theorem inR_row {w t l a b k i : Nat} (hw : l + b ≤ w) (h : inR w t l a b k) : k < i * w + (l + b) ↔ k < (i + 1) * w + l := by
  obtain ⟨h1, h2, h3, h4⟩ := h
  have e := Nat.div_add_mod k w
  generalize k / w = q at *
  generalize k % w = r at *
  have e2 : w * q = q * w := Nat.mul_comm _ _
  constructor
  · intro h
    have : (i + 1) * w = i * w + w := Nat.succ_mul i w
    omega
  · intro h
    have h5 : (i + 1) * w = i * w + w := Nat.succ_mul i w
    rcases Nat.lt_or_ge i q with g | g
    · have : (i + 1) * w ≤ q * w := Nat.mul_le_mul_right w g
      omega
    · have : q * w ≤ i * w := Nat.mul_le_mul_right w g
      omega
theorem inR_start {w t l a b k : Nat} (h : inR w t l a b k) : t * w + l ≤ k := by
  obtain ⟨h1, h2, h3, h4⟩ := h
  have e := Nat.div_add_mod k w
  have e2 : w * (k / w) = (k / w) * w := Nat.mul_comm _ _
  have : t * w ≤ (k / w) * w := Nat.mul_le_mul_right w h1
  omega
theorem inR_end {w t l a b k : Nat} (hw : l + b ≤ w) (h : inR w t l a b k) : k < (t + a) * w + l := by
  obtain ⟨h1, h2, h3, h4⟩ := h
  have e := Nat.div_add_mod k w
  have e2 : w * (k / w) = (k / w) * w := Nat.mul_comm _ _
  have h5 : (k / w + 1) * w ≤ (t + a) * w := Nat.mul_le_mul_right w h2
  have h6 : (k / w + 1) * w = k / w * w + w := Nat.succ_mul _ _
  omega
theorem inR_at {w t l a b i j : Nat} (hw : l + b ≤ w) (h1 : t ≤ i) (h2 : i < t + a) (h3 : l ≤ j) (h4 : j < l + b) : inR w t l a b (i * w + j) := by
  have hj : j < w := by omega
  unfold inR
  rw [Nat.mul_comm i w, Nat.mul_add_div (by omega), Nat.mul_add_mod, Nat.div_eq_of_lt hj, Nat.mod_eq_of_lt hj]
  omega

theorem cell_ia {len cap n : Nat} {s : Option Nat} {i : Int} {k : Nat} (hi : i = k) (hk : k < len) : aIndexAddr Try.prog 94 (.slice (some ⟨n, 0, s⟩) len cap) (.int .i64 i) = some (.pointer (some ⟨n, k, none⟩)) := by
  subst hi
  rw [ia_slice (e := 3) (sz := 1) (by kernel_rfl) (by kernel_rfl) (by omega) (by omega)]
  simp
theorem sz3 : szOf Try.prog 3 = some 1 := by kernel_rfl
theorem ag3 : aggT Try.prog 3 = some false := by kernel_rfl
theorem cell_ld {f : Nat → Int} {n k : Nat} {o : Bool} (h : k < n) : ldB Try.prog 3 k (some ⟨3, o, cellsOf f n⟩) = some (.int .i64 (f k)) := by
  rw [ld_one ag3, cellsOf_get h]
theorem cell_st {f : Nat → Int} {n k : Nat} {o : Bool} {v : Int} (h : k < n) (N : Nat) : stB Try.prog 3 N k (.int .i64 v) (some ⟨3, o, cellsOf f n⟩) = some ⟨3, o, cellsOf (fun j => if j = k then v else f j) n⟩ := by
  rw [← cellsOf_put h]
  refine stB_ok sz3 ?_ rfl rfl
  rw [cellsOf_length]
  exact h

set_option maxHeartbeats 1000000 in
theorem mark_c (m h w t l a b : Nat) (id : Int) (f : Nat → Int) (o : Bool) (s : Option Nat) (H : AHeap) (hok : H.base ≤ H.next) (hm : bk H m = some ⟨3, o, cellsOf f (h * w)⟩) (hmlt : m < H.next) (hh : h ≤ 200) (hw : w ≤ 1000) (h1 : t + a ≤ h) (h2 : l + b ≤ w) (h3 : 1 ≤ a) (h4 : 1 ≤ b) (hf : ∀ k, 0 ≤ f k ∧ f k ≤ 100000) :
    CallA Try.prog 50 [.slice (some ⟨m, 0, s⟩) (h * w) (h * w), .int .i64 h, .int .i64 w, Rc.val ⟨id, t, l, a, b⟩] H (fun out H1 => out = .ok (.bool true) ∧ Mod [m] H H1 ∧ bk H1 m = some ⟨3, o, cellsOf (fun k => f k + if inR w t l a b k then 1 else 0) (h * w)⟩) := by
  obtain ⟨c, hc⟩ : ∃ c, H.next = c := ⟨_, rfl⟩
  refine callE_fn mixed Try.func50 rfl Try.ntmps50 (Nat.le_of_ble_eq_true rfl) ?_
  have hbase : H.base ≤ c := hc ▸ hok
  have c1 : decide ((t : Int) < 0) = false := decide_eq_false (by omega)
  have c2 : decide ((l : Int) < 0) = false := decide_eq_false (by omega)
  have c3 : decide ((a : Int) < 1) = false := decide_eq_false (by omega)
  have c4 : decide ((b : Int) < 1) = false := decide_eq_false (by omega)
  have e5 : IntKind.i64.wrap ((h : Int) - (t : Int)) = (h : Int) - (t : Int) := wrap_sm (by omega) (by omega)
  have e6 : IntKind.i64.wrap ((w : Int) - (l : Int)) = (w : Int) - (l : Int) := wrap_sm (by omega) (by omega)
  have c5 : decide ((h : Int) - (t : Int) < (a : Int)) = false := decide_eq_false (by omega)
  have c6 : decide ((w : Int) - (l : Int) < (b : Int)) = false := decide_eq_false (by omega)
  have e7 : IntKind.i64.wrap ((t : Int) + (a : Int)) = ((t + a : Nat) : Int) := by
    rw [show IntKind.i64.wrap ((t : Int) + (a : Int)) = (t : Int) + a from wrap_sm (by omega) (by omega)]; omega
  have e8 : IntKind.i64.wrap ((l : Int) + (b : Int)) = ((l + b : Nat) : Int) := by
    rw [show IntKind.i64.wrap ((l : Int) + (b : Int)) = (l : Int) + b from wrap_sm (by omega) (by omega)]; omega
  simp (maxDischargeDepth := 6) only [Rc.val, Rc.cells, hc, hbase, c1, c2, c3, c4, e5, e6, c5, c6, ruW, putL, Nat.reduceLeDiff, xF, ruU, entryE, Nat.reduceLT, Nat.reduceAdd, Nat.reduceMul, Nat.reduceEqDiff]
  generalize hG : ext H (_ :: _) = G
  have mG : Mod [m] H G := hG ▸ Mod.ext hok
  have hGn : G.next = c + 1 := by rw [← hG, ext_next, hc]; rfl
  have hGm : bk G m = some ⟨3, o, cellsOf f (h * w)⟩ := by rw [← hG, bk_old hmlt]; exact hm
  have hGr : bk G (c + 0) = some ⟨35, false, [.int .i64 id, .int .i64 t, .int .i64 l, .int .i64 a, .int .i64 b]⟩ := by rw [← hG, bk_at hc (by simp)]; rfl
  have hcm : c + 0 ≠ m := by omega
  have hrest : ∀ K, Mod [m] G K → bk K (c + 0) = some ⟨35, false, [.int .i64 id, .int .i64 t, .int .i64 l, .int .i64 a, .int .i64 b]⟩ := fun K mK => (mK.bk (by omega) (by simp only [List.mem_singleton]; exact hcm)).trans hGr
  refine blockC_meet (fun E' H' => Mod [m] G H' ∧ bk H' m = some ⟨3, o, cellsOf (fun k => f k + if inR w t l a b k then 1 else 0) (h * w)⟩) ?_ ?_
  · refine w_loop (fun (i : Nat) E' K => Mod [m] G K ∧ bk K m = some ⟨3, o, cellsOf (part w t l a b f (i * w + l)) (h * w)⟩ ∧ t ≤ i ∧ i ≤ t + a ∧ E' 0 = .slice (some ⟨m, 0, s⟩) (h * w) (h * w) ∧ E' 2 = .int .i64 w ∧ E' 7 = .pointer (some ⟨c + 0, 0, none⟩) ∧ E' 9 = .int .i64 (i : Int)) (fun i => t + a - i) t ⟨Mod.refl, ?_, Nat.le_refl _, by omega, by simp only [ruU, entryE, Nat.reduceLT, Nat.reduceAdd, Nat.reduceMul, Nat.reduceEqDiff], by simp only [ruU, entryE, Nat.reduceLT, Nat.reduceAdd, Nat.reduceMul, Nat.reduceEqDiff], by simp only [ruU, entryE, Nat.reduceLT, Nat.reduceAdd, Nat.reduceMul, Nat.reduceEqDiff], by simp only [ruU, entryE, Nat.reduceLT, Nat.reduceAdd, Nat.reduceMul, Nat.reduceEqDiff]⟩ ?_
    · rw [hGm]
      congr 2
      refine cellsOf_congr fun k _ => ?_
      unfold part
      rw [if_neg (fun h => by have := inR_start h.1; omega), Int.add_zero]
    · rintro i E K ⟨mK, hKm, hi1, hi2, g0, g2, g7, g9⟩
      obtain ⟨v, hv⟩ : ∃ v, K.next = v := ⟨_, rfl⟩
      have hKr := hrest K mK
      have lr : c + 0 < v := by have := mK.next; omega
      rw [show K = ext K [] from rfl]
      by_cases hil : i = t + a
      · have hcn : decide ((i : Int) < ((t + a : Nat) : Int)) = false := decide_eq_false (by omega)
        simp (maxDischargeDepth := 6) only [g0, g2, g7, g9, hv, lr, hKr, e7, hcn, ruW, putL, Nat.reduceLeDiff, xF, ruU, entryE, Nat.reduceLT, Nat.reduceAdd, Nat.reduceMul, Nat.reduceEqDiff]
        refine joinR_normal ⟨mK, ?_⟩
        rw [show bk (ext K []) m = bk K m from rfl, hKm]
        congr 2
        refine cellsOf_congr fun k _ => ?_
        unfold part
        by_cases hin : inR w t l a b k
        · rw [if_pos ⟨hin, by rw [hil]; exact inR_end h2 hin⟩, if_pos hin]
        · rw [if_neg (fun h => hin h.1), if_neg hin]
      · have hcn : decide ((i : Int) < ((t + a : Nat) : Int)) = true := decide_eq_true (by omega)
        simp (maxDischargeDepth := 6) only [g0, g2, g7, g9, hv, lr, hKr, e7, hcn, ruW, putL, Nat.reduceLeDiff, xF, ruU, entryE, Nat.reduceLT, Nat.reduceAdd, Nat.reduceMul, Nat.reduceEqDiff]
        have hiw : i * w ≤ 200 * 1000 := Nat.mul_le_mul (by omega) hw
        have hih : (i + 1) * w ≤ h * w := Nat.mul_le_mul_right w (by omega)
        have hsm : (i + 1) * w = i * w + w := Nat.succ_mul i w
        have e9 : IntKind.i64.wrap ((i : Int) * (w : Int)) = ((i * w : Nat) : Int) := by
          rw [← Int.natCast_mul]
          exact wrap_sm (by omega) (by omega)
        refine w_loop (fun (j : Nat) E' K' => Mod [m] G K' ∧ bk K' m = some ⟨3, o, cellsOf (part w t l a b f (i * w + j)) (h * w)⟩ ∧ l ≤ j ∧ j ≤ l + b ∧ E' 0 = .slice (some ⟨m, 0, s⟩) (h * w) (h * w) ∧ E' 2 = .int .i64 w ∧ E' 7 = .pointer (some ⟨c + 0, 0, none⟩) ∧ E' 9 = .int .i64 (i : Int) ∧ E' 10 = .int .i64 (j : Int)) (fun j => l + b - j) l ⟨mK, hKm, Nat.le_refl _, by omega, by simp only [g0, ruU, entryE, Nat.reduceLT, Nat.reduceAdd, Nat.reduceMul, Nat.reduceEqDiff], by simp only [g2, ruU, entryE, Nat.reduceLT, Nat.reduceAdd, Nat.reduceMul, Nat.reduceEqDiff], by simp only [g7, ruU, entryE, Nat.reduceLT, Nat.reduceAdd, Nat.reduceMul, Nat.reduceEqDiff], by simp only [g9, ruU, entryE, Nat.reduceLT, Nat.reduceAdd, Nat.reduceMul, Nat.reduceEqDiff], by simp only [ruU, entryE, Nat.reduceLT, Nat.reduceAdd, Nat.reduceMul, Nat.reduceEqDiff]⟩ ?_
        clear g0 g2 g7 g9 hv lr hKr hKm mK
        rintro j E K ⟨mK, hKm, hj1, hj2, g0, g2, g7, g9, g10⟩
        obtain ⟨v, hv⟩ : ∃ v, K.next = v := ⟨_, rfl⟩
        have hKr := hrest K mK
        have lr : c + 0 < v := by have := mK.next; omega
        have lm : m < v := by omega
        rw [show K = ext K [] from rfl]
        by_cases hjl : j = l + b
        · have hcn : decide ((j : Int) < ((l + b : Nat) : Int)) = false := decide_eq_false (by omega)
          simp (maxDischargeDepth := 6) only [g0, g2, g7, g9, g10, hv, lr, hKr, e8, hcn, wrap_succ (show i < 1000000 by omega), ruW, putL, Nat.reduceLeDiff, xF, ruU, entryE, Nat.reduceLT, Nat.reduceAdd, Nat.reduceMul, Nat.reduceEqDiff]
          refine loopC_next ⟨i + 1, by omega, mK, ?_, by omega, by omega, ?_, ?_, ?_, ?_⟩ <;> try simp only [g0, g2, g7, g9, ruU, entryE, Nat.reduceLT, Nat.reduceAdd, Nat.reduceMul, Nat.reduceEqDiff]
          rw [show bk (ext K []) m = bk K m from rfl, hKm]
          congr 2
          refine cellsOf_congr fun k _ => ?_
          unfold part
          rw [hjl]
          by_cases hk2 : inR w t l a b k
          · by_cases hk3 : k < i * w + (l + b)
            · rw [if_pos ⟨hk2, hk3⟩, if_pos ⟨hk2, (inR_row h2 hk2).1 hk3⟩]
            · rw [if_neg (fun g => hk3 g.2), if_neg (fun g => hk3 ((inR_row h2 hk2).2 g.2))]
          · rw [if_neg (fun g => hk2 g.1), if_neg (fun g => hk2 g.1)]
        · have hcn : decide ((j : Int) < ((l + b : Nat) : Int)) = true := decide_eq_true (by omega)
          have hp : i * w + j < h * w := by omega
          have e10 : IntKind.i64.wrap (((i * w : Nat) : Int) + (j : Int)) = ((i * w + j : Nat) : Int) := by
            rw [show IntKind.i64.wrap (((i * w : Nat) : Int) + (j : Int)) = ((i * w : Nat) : Int) + (j : Int) from wrap_sm (by omega) (by omega)]
            omega
          have i1 := cell_ia (n := m) (s := s) (cap := h * w) (len := h * w) (i := ((i * w + j : Nat) : Int)) rfl hp
          have q1 := cell_ld (f := part w t l a b f (i * w + j)) (o := o) hp
          have hpp : part w t l a b f (i * w + j) (i * w + j) = f (i * w + j) := by
            unfold part
            rw [if_neg (fun h => by omega), Int.add_zero]
          rw [hpp] at q1
          have e11 : IntKind.i64.wrap (f (i * w + j) + 1) = f (i * w + j) + 1 := wrap_sm (by have := hf (i * w + j); omega) (by have := hf (i * w + j); omega)
          have st := cell_st (f := part w t l a b f (i * w + j)) (o := o) (v := f (i * w + j) + 1) hp
          simp (maxDischargeDepth := 6) only [g0, g2, g7, g9, g10, hv, lr, lm, hKr, hKm, e8, e9, e10, e11, i1, q1, st, hcn, wrap_succ (show j < 1000000 by omega), ruW, putL, Nat.reduceLeDiff, xF, ruU, entryE, Nat.reduceLT, Nat.reduceAdd, Nat.reduceMul, Nat.reduceEqDiff]
          refine loopC_next ⟨j + 1, by omega, mK.trans (Mod.uw (by simp)), ?_, by omega, by omega, ?_, ?_, ?_, ?_, ?_⟩ <;> try simp only [g0, g2, g7, g9, g10, ruU, entryE, Nat.reduceLT, Nat.reduceAdd, Nat.reduceMul, Nat.reduceEqDiff]
          rw [show bk (ext (uw K m (i * w + j) [.int .i64 (f (i * w + j) + 1)]) []) m = bk (uw K m (i * w + j) [.int .i64 (f (i * w + j) + 1)]) m from rfl, bk_uw_eq, hKm]
          simp only [Option.map_some, putB_eq, cellsOf_put hp]
          congr 2
          refine cellsOf_congr fun k _ => ?_
          unfold part
          by_cases hkp : k = i * w + j
          · subst hkp
            rw [if_pos rfl, if_pos ⟨inR_at h2 (by omega) (by omega) (by omega) (by omega), by omega⟩]
          · rw [if_neg hkp]
            by_cases hk2 : inR w t l a b k ∧ k < i * w + j
            · rw [if_pos hk2, if_pos ⟨hk2.1, by omega⟩]
            · rw [if_neg hk2, if_neg (fun g => hk2 ⟨g.1, by omega⟩)]
  · rintro E K ⟨mK, hKm⟩
    rw [show K = ext K [] from rfl]
    simp (maxDischargeDepth := 6) only [Try.results50, ruW, putL, Nat.reduceLeDiff, xF, ruU, entryE, Nat.reduceLT, Nat.reduceAdd, Nat.reduceMul, Nat.reduceEqDiff]
    exact ⟨trivial, mG.trans mK, hKm⟩

end Go.Proofs.Ytiedpcmdimgboaa

/- What tiled comes to. -/
namespace Go.Proofs.Ytiedpcmdimgboaa
open Go.Ax
set_option linter.unusedSimpArgs false
set_option maxRecDepth 10000

theorem hits_bound : ∀ (l : List Rc) (i j : Int), 0 ≤ hits l i j ∧ hits l i j ≤ l.length
  | [], _, _ => ⟨Int.le_refl _, Int.le_refl _⟩
  | r :: l, i, j => by
    have := hits_bound l i j
    simp only [hits, List.length_cons, Rc.hit]
    split <;> omega

/-- a block of counts, by rows and columns -/
def gridOf (l : List Rc) (w n : Nat) : List Value := cellsOf (fun k => hits l ((k / w : Nat) : Int) ((k % w : Nat) : Int)) n

theorem mark_r (m h w : Nat) (r : Rc) (l : List Rc) (o : Bool) (s : Option Nat) (H : AHeap) (hok : H.base ≤ H.next) (hm : bk H m = some ⟨3, o, gridOf l w (h * w)⟩) (hmlt : m < H.next) (hh : h ≤ 200) (hw : w ≤ 1000) (hr : r.sits ⟨0, 0, 0, h, w⟩) (h3 : 1 ≤ r.h) (h4 : 1 ≤ r.w) (hl : l.length ≤ 10000) :
    CallA Try.prog 50 [.slice (some ⟨m, 0, s⟩) (h * w) (h * w), .int .i64 h, .int .i64 w, r.val] H (fun out H1 => out = .ok (.bool true) ∧ Mod [m] H H1 ∧ bk H1 m = some ⟨3, o, gridOf (l ++ [r]) w (h * w)⟩) := by
  obtain ⟨id, t, lf, a, b⟩ := r
  obtain ⟨s1, s2, s3, s4⟩ := hr
  dsimp only at s1 s2 s3 s4 h3 h4
  obtain ⟨t, rfl⟩ := Int.eq_ofNat_of_zero_le s1
  obtain ⟨lf, rfl⟩ := Int.eq_ofNat_of_zero_le s2
  obtain ⟨a, rfl⟩ := Int.eq_ofNat_of_zero_le (by omega : 0 ≤ a)
  obtain ⟨b, rfl⟩ := Int.eq_ofNat_of_zero_le (by omega : 0 ≤ b)
  refine (mark_c m h w t lf a b id _ o s H hok hm hmlt hh hw (by omega) (by omega) (by omega) (by omega) (fun k => by have := hits_bound l ((k / w : Nat) : Int) ((k % w : Nat) : Int); omega)).mono ?_
  rintro _ H1 ⟨rfl, hM, hb⟩
  refine ⟨rfl, hM, ?_⟩
  rw [hb]
  congr 2
  refine cellsOf_congr fun k _ => ?_
  rw [hits_append]
  congr 1
  simp only [hits, Rc.hit, Int.add_zero]
  by_cases g : inR w t lf a b k
  · rw [if_pos g]
    unfold inR at g
    rw [if_pos (by omega)]
  · rw [if_neg g]
    unfold inR at g
    rw [if_neg (by omega)]

theorem rows_ld3 {l : List Rc} {k : Nat} {p : Rc} {o : Bool} (h : l[k]? = some p) : ldB Try.prog 3 (0 + (k * 5 + 3)) (some ⟨35, o, rowsOf l⟩) = some (.int .i64 p.h) := by
  have h1 : aggT Try.prog 3 = some false := by kernel_rfl
  have h0 := congrArg (·[3]?) (rows_get l k p h)
  simp only [List.getElem?_take, List.getElem?_drop, Rc.cells, List.getElem?_cons_zero, List.getElem?_cons_succ, Nat.reduceLT, if_true] at h0
  simp only [ldB, h1, Nat.zero_add, h0]
theorem rows_ld4 {l : List Rc} {k : Nat} {p : Rc} {o : Bool} (h : l[k]? = some p) : ldB Try.prog 3 (0 + (k * 5 + 4)) (some ⟨35, o, rowsOf l⟩) = some (.int .i64 p.w) := by
  have h1 : aggT Try.prog 3 = some false := by kernel_rfl
  have h0 := congrArg (·[4]?) (rows_get l k p h)
  simp only [List.getElem?_take, List.getElem?_drop, Rc.cells, List.getElem?_cons_zero, List.getElem?_cons_succ, Nat.reduceLT, if_true] at h0
  simp only [ldB, h1, Nat.zero_add, h0]

theorem cellsOf_sc (f : Nat → Int) (n N : Nat) : scbL N (cellsOf f n) = true := by
  refine scbL_of_af _ (afL_of fun x hx => ?_)
  obtain ⟨k, _, rfl⟩ := List.mem_map.1 hx
  rfl
theorem zeros_cells : ∀ n : Nat, zerosL [Value.int .i64 0] n = cellsOf (fun _ => 0) n := fun n => by
  have h : ∀ n, zerosL [Value.int .i64 0] n = List.replicate n (.int .i64 0) := fun n => by
    induction n with
    | zero => rfl
    | succ n ih => rw [zerosL, ih]; rfl
  rw [h]
  show _ = (List.range n).map (fun _ => Value.int .i64 0)
  rw [List.map_const', List.length_range]
theorem make_c {b n : Nat} {H : AHeap} {L : List Bl} (hn : n ≤ 200000) (hb : H.next = b) : aMakeSlice Try.prog (ext H L) 94 (.int .i64 (n : Int)) (.int .i64 (n : Int)) = some (.slice (some ⟨b + L.length, 0, some 0⟩) n n, ext H (L ++ [⟨3, false, cellsOf (fun _ => 0) n⟩])) := by
  have u94 : Try.prog.underlying 94 = some (.slice 3) := by kernel_rfl
  have b3 : bytesOf Try.prog 3 = some 8 := by kernel_rfl
  have z3 : zeroOf Try.prog 3 = some (.int .i64 0) := by kernel_rfl
  have hs : small n 8 = true := by
    simp only [small, Bool.and_eq_true, Nat.ble_eq]
    omega
  have hz : (Value.int .i64 0).cells.toList = [.int .i64 0] := rfl
  simp only [aMakeSlice, u94, b3, sz3, z3, Option.bind_eq_bind, Option.bind_some, Int.toNat_natCast, hs, hz, List.length_cons, List.length_nil, zeros_cells]
  rw [if_pos (by simp), new_ext (cellsOf_sc _ _ _), Option.bind_some, ext_next, hb]

set_option maxHeartbeats 2000000 in
theorem tiled_c (T : Nat) (x : Wn) (n : Int) (H : AHeap) (g : Good H T x) (vi : Inv x.abs n) :
    CallA Try.prog 21 [.pointer (some ⟨T, 0, none⟩)] H (True1 H) := by
  obtain ⟨c, hc⟩ : ∃ c, H.next = c := ⟨_, rfl⟩
  have hok := g.ok
  have hbase : H.base ≤ c := hc ▸ hok
  have hin := inside_iff.1 vi.inn
  obtain ⟨h1, h2, w1, w2⟩ := hin
  obtain ⟨h, hh⟩ : ∃ k : Nat, x.h = k := ⟨x.h.toNat, by have : 2 ≤ x.h := h1; omega⟩
  obtain ⟨w, hw⟩ : ∃ k : Nat, x.w = k := ⟨x.w.toNat, by have : 4 ≤ x.w := w1; omega⟩
  replace h1 : 2 ≤ x.h := h1
  replace h2 : x.h ≤ 200 := h2
  replace w1 : 4 ≤ x.w := w1
  replace w2 : x.w ≤ 1000 := w2
  rw [hh] at h1 h2
  rw [hw] at w1 w2
  have hcnt : x.rects.length ≤ 64 := by
    have h := vi.cnt
    rw [← Atr.rects_ids x.abs.root x.abs.frame, List.length_map] at h
    rw [show x.rects = x.abs.root.rects x.abs.frame from abs_rects x.root x.frame]
    exact h
  have hpos : 0 < x.rects.length := List.length_pos_iff.2 (rects_ne x.root x.frame)
  have hfr : x.frame = ⟨0, 0, 0, h, w⟩ := by rw [Wn.frame, hh, hw]
  obtain ⟨cv, cr, cb⟩ := cover x.root x.frame vi.fit (by rw [hfr]; exact Int.le_refl _) (by rw [hfr]; exact Int.le_refl _) (by rw [hfr]; show (0 : Int) + h ≤ 1000; omega) (by rw [hfr]; show (0 : Int) + w ≤ 1000; omega)
  have hbl : x.bars.length ≤ 64 := by
    have h1 := barsOf_len x.root x.frame
    have h2 := vi.tsize
    rw [show x.abs.root = x.root.abs from rfl, ← abs_size] at h2
    show (barsOf x.root x.frame).length ≤ 64
    omega
  have hN : h * w ≤ 200 * 1000 := Nat.mul_le_mul (by omega) (by omega)
  have e1 : IntKind.i64.wrap ((h : Int) * (w : Int)) = ((h * w : Nat) : Int) := by
    rw [← Int.natCast_mul]
    exact wrap_sm (by omega) (by omega)
  have c1 : decide ((h : Int) < 2) = false := decide_eq_false (by omega)
  have c2 : decide ((w : Int) < 4) = false := decide_eq_false (by omega)
  have c3 : decide (200 < (h : Int)) = false := decide_eq_false (by omega)
  have c4 : decide (1000 < (w : Int)) = false := decide_eq_false (by omega)
  have mk := make_c (n := h * w) (H := H) (L := []) (by omega) hc
  simp only [List.length_nil, List.nil_append] at mk
  refine callE_fn mixed Try.func21 rfl Try.ntmps21 (Nat.le_of_ble_eq_true rfl) ?_
  simp (maxDischargeDepth := 6) only [ruW, putL, Nat.reduceLeDiff, xF, ruU, entryE, Nat.reduceLT, Nat.reduceAdd, Nat.reduceMul, Nat.reduceEqDiff]
  refine (size32_c T x (ext H []) g.wn).to ?_
  rw [hh, hw]
  simp (maxDischargeDepth := 6) only [c1, c2, c3, c4, e1, mk, ruW, putL, Nat.reduceLeDiff, xF, ruU, entryE, Nat.reduceLT, Nat.reduceAdd, Nat.reduceMul, Nat.reduceEqDiff]
  refine (rects_c T x (ext H [⟨3, false, cellsOf (fun _ => 0) (h * w)⟩]) (by omega) g.ext.wn).to ?_
  simp (maxDischargeDepth := 6) only [hc, ruW, putL, Nat.reduceLeDiff, xF, ruU, entryE, Nat.reduceLT, Nat.reduceAdd, Nat.reduceMul, Nat.reduceEqDiff]
  generalize hG : ext H (_ :: _) = G
  have mG : Mod [] H G := hG ▸ Mod.ext hok
  have hGn : G.next = c + 2 := by rw [← hG, ext_next, hc]; rfl
  have hG0 : bk G (c + 0) = some ⟨3, false, gridOf [] w (h * w)⟩ := by rw [← hG, bk_at hc (by simp)]; rfl
  have hG1 : bk G (c + 1) = some ⟨35, true, rowsOf x.rects⟩ := by rw [← hG, bk_at hc (by simp)]; rfl
  have okG := mG.ok hok
  refine w_env fun E hE => ?_
  have g0 : E 0 = .pointer (some ⟨T, 0, none⟩) := by rw [hE]; simp only [ruU, entryE, Nat.reduceLT, Nat.reduceAdd, Nat.reduceMul, Nat.reduceEqDiff]
  have g3 : E 3 = .int .i64 h := by rw [hE]; simp only [ruU, entryE, Nat.reduceLT, Nat.reduceAdd, Nat.reduceMul, Nat.reduceEqDiff]
  have g4 : E 4 = .int .i64 w := by rw [hE]; simp only [ruU, entryE, Nat.reduceLT, Nat.reduceAdd, Nat.reduceMul, Nat.reduceEqDiff]
  have g5 : E 5 = .slice (some ⟨c + 0, 0, some 0⟩) (h * w) (h * w) := by rw [hE]; simp only [ruU, entryE, Nat.reduceLT, Nat.reduceAdd, Nat.reduceMul, Nat.reduceEqDiff]
  have g6 : E 6 = .slice (some ⟨c + 1, 0, none⟩) x.rects.length x.rects.length := by rw [hE]; simp only [ruU, entryE, Nat.reduceLT, Nat.reduceAdd, Nat.reduceMul, Nat.reduceEqDiff]
  have g7 : E 7 = .int .i64 ((0 : Nat) : Int) := by rw [hE]; simp only [ruU, entryE, Nat.reduceLT, Nat.reduceAdd, Nat.reduceMul, Nat.reduceEqDiff]; rfl
  clear hE
  have hTc : T < c := hc ▸ g.lt
  have good : ∀ K, Mod [c + 0] G K → Good K T x := fun K mK => g.mod (W := [c + 0]) ((mG.mono (by simp)).trans mK) (by simp only [List.mem_singleton]; omega) (fun n hn => by have := g.lts n hn; simp only [List.mem_singleton]; omega)
  refine blockC_meet (fun E' K => Mod [c + 0] G K ∧ bk K (c + 0) = some ⟨3, false, gridOf x.rects w (h * w)⟩ ∧ E' 0 = .pointer (some ⟨T, 0, none⟩) ∧ E' 3 = .int .i64 h ∧ E' 4 = .int .i64 w ∧ E' 5 = .slice (some ⟨c + 0, 0, some 0⟩) (h * w) (h * w) ∧ E' 6 = .slice (some ⟨c + 1, 0, none⟩) x.rects.length x.rects.length) ?_ ?_
  · refine w_loop (fun (k : Nat) E' K => Mod [c + 0] G K ∧ bk K (c + 0) = some ⟨3, false, gridOf (x.rects.take k) w (h * w)⟩ ∧ k ≤ x.rects.length ∧ E' 0 = .pointer (some ⟨T, 0, none⟩) ∧ E' 3 = .int .i64 h ∧ E' 4 = .int .i64 w ∧ E' 5 = .slice (some ⟨c + 0, 0, some 0⟩) (h * w) (h * w) ∧ E' 6 = .slice (some ⟨c + 1, 0, none⟩) x.rects.length x.rects.length ∧ E' 7 = .int .i64 (k : Int)) (fun k => x.rects.length - k) 0 ⟨Mod.refl, hG0, Nat.zero_le _, g0, g3, g4, g5, g6, g7⟩ ?_
    clear g0 g3 g4 g5 g6 g7
    rintro k E K ⟨mK, hK0, hk, g0, g3, g4, g5, g6, g7⟩
    rw [show K = ext K [] from rfl]
    by_cases hkl : k = x.rects.length
    · have hcn : decide ((k : Int) < (x.rects.length : Int)) = false := by simp [hkl]
      simp (maxDischargeDepth := 6) only [g0, g3, g4, g5, g6, g7, hcn, ruW, putL, Nat.reduceLeDiff, xF, ruU, entryE, Nat.reduceLT, Nat.reduceAdd, Nat.reduceMul, Nat.reduceEqDiff]
      refine joinR_normal ⟨mK, ?_, ?_, ?_, ?_, ?_, ?_⟩
      · rw [hkl, List.take_length] at hK0; exact hK0
      all_goals simp only [g0, g3, g4, g5, g6, g7, ruU, entryE, Nat.reduceLT, Nat.reduceAdd, Nat.reduceMul, Nat.reduceEqDiff]
    · have hlt : k < x.rects.length := by omega
      have hcn : decide ((k : Int) < (x.rects.length : Int)) = true := decide_eq_true (by omega)
      obtain ⟨v, hv⟩ : ∃ v, K.next = v := ⟨_, rfl⟩
      have hvn : c + 2 ≤ v := by have := mK.next; omega
      have l0 : c + 0 < v := by omega
      have l1 : c + 1 < v := by omega
      have hK1 : bk K (c + 1) = _ := (mK.bk (by omega) (by simp)).trans hG1
      obtain ⟨r, hr⟩ := get_ex hlt
      have j1 := rows_ia (n := c + 1) (s := none) (cap := x.rects.length) (len := x.rects.length) (i := (k : Int)) rfl hlt
      have q3 := rows_ld3 (o := true) hr
      have q4 := rows_ld4 (o := true) hr
      have qv := rows_load (o := true) hr
      obtain ⟨r1, r2, r3⟩ := cr r (List.mem_of_getElem? hr)
      rw [hfr] at r1
      have d1 : decide (r.h < 2) = false := decide_eq_false (by omega)
      have d2 : decide (r.w < 4) = false := decide_eq_false (by omega)
      simp (maxDischargeDepth := 6) only [g0, g3, g4, g5, g6, g7, hcn, hv, l0, l1, hK1, j1, q3, q4, qv, d1, d2, ruW, putL, Nat.reduceLeDiff, xF, ruU, entryE, Nat.reduceLT, Nat.reduceAdd, Nat.reduceMul, Nat.reduceEqDiff]
      refine (mark_r (c + 0) h w r (x.rects.take k) false (some 0) (ext K []) (mK.ok okG) hK0 (by show c + 0 < K.next; omega) (by omega) (by omega) r1 (by omega) (by omega) (by rw [List.length_take]; omega)).mono ?_
      rintro _ K1 ⟨rfl, m1, b1⟩
      rw [show K1 = ext K1 [] from rfl]
      simp (maxDischargeDepth := 6) only [g0, g3, g4, g5, g6, g7, wrap_succ (show k < 1000000 by omega), Bool.not_true, ruW, putL, Nat.reduceLeDiff, xF, ruU, entryE, Nat.reduceLT, Nat.reduceAdd, Nat.reduceMul, Nat.reduceEqDiff]
      refine loopC_next ⟨k + 1, by omega, mK.trans m1, ?_, by omega, ?_, ?_, ?_, ?_, ?_, ?_⟩ <;> try simp only [g0, g3, g4, g5, g6, g7, ruU, entryE, Nat.reduceLT, Nat.reduceAdd, Nat.reduceMul, Nat.reduceEqDiff]
      rw [List.take_add_one, hr]
      exact b1
  · clear g0 g3 g4 g5 g6 g7
    rintro E K ⟨mK, hK0, g0, g3, g4, g5, g6⟩
    rw [show K = ext K [] from rfl]
    obtain ⟨z, hz⟩ : ∃ z, K.next = z := ⟨_, rfl⟩
    have hzn : c + 2 ≤ z := by have := mK.next; omega
    simp (maxDischargeDepth := 6) only [g0, g3, g4, g5, g6, ruW, putL, Nat.reduceLeDiff, xF, ruU, entryE, Nat.reduceLT, Nat.reduceAdd, Nat.reduceMul, Nat.reduceEqDiff]
    refine (Bars_c T x (ext K []) g.sz (good K mK).wn).to ?_
    obtain ⟨a1, ha1⟩ := rowsV_sl z x.bars
    rw [show (ext K []).next = z from hz, ha1, show ext (ext K []) (rowsM x.bars) = ext K (rowsM x.bars) from rfl]
    generalize hG2 : ext K (rowsM x.bars) = G2
    have m2 : Mod [] K G2 := hG2 ▸ Mod.ext (mK.ok okG)
    have mGG : Mod [c + 0] G G2 := mK.trans (m2.mono (by simp))
    have hG20 : bk G2 (c + 0) = some ⟨3, false, gridOf (x.rects ++ []) w (h * w)⟩ := by
      rw [List.append_nil]
      exact (m2.bk (by omega) (by simp)).trans hK0
    have okG2 := m2.ok (mK.ok okG)
    rw [show G2 = ext G2 [] from rfl]
    simp (maxDischargeDepth := 6) only [g0, g3, g4, g5, g6, ruW, putL, Nat.reduceLeDiff, xF, ruU, entryE, Nat.reduceLT, Nat.reduceAdd, Nat.reduceMul, Nat.reduceEqDiff]
    refine w_env fun E2 hE => ?_
    have f3 : E2 3 = .int .i64 h := by rw [hE]; simp only [g3, ruU, entryE, Nat.reduceLT, Nat.reduceAdd, Nat.reduceMul, Nat.reduceEqDiff]
    have f4 : E2 4 = .int .i64 w := by rw [hE]; simp only [g4, ruU, entryE, Nat.reduceLT, Nat.reduceAdd, Nat.reduceMul, Nat.reduceEqDiff]
    have f5 : E2 5 = .slice (some ⟨c + 0, 0, some 0⟩) (h * w) (h * w) := by rw [hE]; simp only [g5, ruU, entryE, Nat.reduceLT, Nat.reduceAdd, Nat.reduceMul, Nat.reduceEqDiff]
    have f6 : E2 6 = .slice (some ⟨c + 1, 0, none⟩) x.rects.length x.rects.length := by rw [hE]; simp only [g6, ruU, entryE, Nat.reduceLT, Nat.reduceAdd, Nat.reduceMul, Nat.reduceEqDiff]
    have f8 : E2 8 = .slice a1 x.bars.length x.bars.length := by rw [hE]; simp only [ruU, entryE, Nat.reduceLT, Nat.reduceAdd, Nat.reduceMul, Nat.reduceEqDiff]
    have f9 : E2 9 = .int .i64 ((0 : Nat) : Int) := by rw [hE]; simp only [ruU, entryE, Nat.reduceLT, Nat.reduceAdd, Nat.reduceMul, Nat.reduceEqDiff]; rfl
    clear hE
    refine blockC_meet (fun E' K => Mod [c + 0] G2 K ∧ bk K (c + 0) = some ⟨3, false, gridOf (x.rects ++ x.bars) w (h * w)⟩ ∧ E' 5 = .slice (some ⟨c + 0, 0, some 0⟩) (h * w) (h * w) ∧ E' 6 = .slice (some ⟨c + 1, 0, none⟩) x.rects.length x.rects.length) ?_ ?_
    · refine w_loop (fun (k : Nat) E' K => Mod [c + 0] G2 K ∧ bk K (c + 0) = some ⟨3, false, gridOf (x.rects ++ x.bars.take k) w (h * w)⟩ ∧ k ≤ x.bars.length ∧ E' 3 = .int .i64 h ∧ E' 4 = .int .i64 w ∧ E' 5 = .slice (some ⟨c + 0, 0, some 0⟩) (h * w) (h * w) ∧ E' 6 = .slice (some ⟨c + 1, 0, none⟩) x.rects.length x.rects.length ∧ E' 8 = .slice a1 x.bars.length x.bars.length ∧ E' 9 = .int .i64 (k : Int)) (fun k => x.bars.length - k) 0 ⟨Mod.refl, hG20, Nat.zero_le _, f3, f4, f5, f6, f8, f9⟩ ?_
      clear f3 f4 f5 f6 f8 f9
      rintro k E K' ⟨mK', hK0', hk, g3, g4, g5, g6, g8, g9⟩
      rw [show K' = ext K' [] from rfl]
      by_cases hkl : k = x.bars.length
      · have hcn : decide ((k : Int) < (x.bars.length : Int)) = false := by simp [hkl]
        simp (maxDischargeDepth := 6) only [g3, g4, g5, g6, g8, g9, hcn, ruW, putL, Nat.reduceLeDiff, xF, ruU, entryE, Nat.reduceLT, Nat.reduceAdd, Nat.reduceMul, Nat.reduceEqDiff]
        refine joinR_normal ⟨mK', ?_, ?_, ?_⟩
        · rw [hkl, List.take_length] at hK0'; exact hK0'
        all_goals simp only [g3, g4, g5, g6, g8, g9, ruU, entryE, Nat.reduceLT, Nat.reduceAdd, Nat.reduceMul, Nat.reduceEqDiff]
      · have hlt : k < x.bars.length := by omega
        have hcn : decide ((k : Int) < (x.bars.length : Int)) = true := decide_eq_true (by omega)
        have hne : x.bars ≠ [] := by intro e; rw [e] at hlt; simp at hlt
        rw [rowsV, if_neg hne] at ha1
        injection ha1 with ha1
        subst ha1
        rw [rowsM, if_neg hne] at hG2
        have hG2n : G2.next = z + 1 := by rw [← hG2, ext_next, hz]; rfl
        have hG2z : bk G2 (z + 0) = some ⟨35, true, rowsOf x.bars⟩ := by rw [← hG2, bk_at hz (by simp)]; rfl
        obtain ⟨v, hv⟩ : ∃ v, K'.next = v := ⟨_, rfl⟩
        have hvn : z + 1 ≤ v := by have := mK'.next; omega
        have l0 : c + 0 < v := by omega
        have l1 : z + 0 < v := by omega
        have hKz : bk K' (z + 0) = _ := (mK'.bk (by omega) (by simp only [List.mem_singleton]; omega)).trans hG2z
        obtain ⟨r, hr⟩ := get_ex hlt
        have j1 := rows_ia (n := z + 0) (s := none) (cap := x.bars.length) (len := x.bars.length) (i := (k : Int)) rfl hlt
        have q4 := rows_ld4 (o := true) hr
        have qv := rows_load (o := true) hr
        obtain ⟨r1, r2, r3⟩ := cb r (List.mem_of_getElem? hr)
        rw [hfr] at r1
        have d2 : decide (¬ r.w = 1) = false := by rw [r3]; rfl
        rw [show (z : Nat) = z + 0 from rfl] at g8
        simp (maxDischargeDepth := 6) only [g3, g4, g5, g6, g8, g9, hcn, hv, l0, l1, hKz, j1, q4, qv, d2, ruW, putL, Nat.reduceLeDiff, xF, ruU, entryE, Nat.reduceLT, Nat.reduceAdd, Nat.reduceMul, Nat.reduceEqDiff]
        refine (mark_r (c + 0) h w r (x.rects ++ x.bars.take k) false (some 0) (ext K' []) (mK'.ok okG2) hK0' (by show c + 0 < K'.next; omega) (by omega) (by omega) r1 (by omega) (by omega) (by rw [List.length_append, List.length_take]; omega)).mono ?_
        rintro _ K1 ⟨rfl, m1, b1⟩
        rw [show K1 = ext K1 [] from rfl]
        simp (maxDischargeDepth := 6) only [g3, g4, g5, g6, g8, g9, wrap_succ (show k < 1000000 by omega), Bool.not_true, ruW, putL, Nat.reduceLeDiff, xF, ruU, entryE, Nat.reduceLT, Nat.reduceAdd, Nat.reduceMul, Nat.reduceEqDiff]
        refine loopC_next ⟨k + 1, by omega, mK'.trans m1, ?_, by omega, ?_, ?_, ?_, ?_, ?_, ?_⟩ <;> try simp only [g3, g4, g5, g6, g8, g9, ruU, entryE, Nat.reduceLT, Nat.reduceAdd, Nat.reduceMul, Nat.reduceEqDiff]
        · rw [List.take_add_one, hr]
          rw [List.append_assoc] at b1
          exact b1
        · rfl
    · clear f3 f4 f5 f6 f8 f9 g0 g3 g4 g5 g6
      rintro E K' ⟨mK', hK0', g5, g6⟩
      rw [show K' = ext K' [] from rfl]
      have mH : Mod [] H K' := mG.step (mGG.trans mK') hok (fun n hn => .inr (by simp only [List.mem_singleton] at hn; omega))
      have l0 : c + 0 < K'.next := by have := mK'.next; have := m2.next; omega
      obtain ⟨v, hv⟩ : ∃ v, K'.next = v := ⟨_, rfl⟩
      rw [hv] at l0
      simp (maxDischargeDepth := 6) only [g5, g6, ruW, putL, Nat.reduceLeDiff, xF, ruU, entryE, Nat.reduceLT, Nat.reduceAdd, Nat.reduceMul, Nat.reduceEqDiff]
      refine w_env fun E2 hE => ?_
      have f5 : E2 5 = .slice (some ⟨c + 0, 0, some 0⟩) (h * w) (h * w) := by rw [hE]; simp only [g5, ruU, entryE, Nat.reduceLT, Nat.reduceAdd, Nat.reduceMul, Nat.reduceEqDiff]
      have f6 : E2 6 = .slice (some ⟨c + 1, 0, none⟩) x.rects.length x.rects.length := by rw [hE]; simp only [g6, ruU, entryE, Nat.reduceLT, Nat.reduceAdd, Nat.reduceMul, Nat.reduceEqDiff]
      have f10 : E2 10 = .int .i64 ((0 : Nat) : Int) := by rw [hE]; simp only [ruU, entryE, Nat.reduceLT, Nat.reduceAdd, Nat.reduceMul, Nat.reduceEqDiff]; rfl
      clear hE
      refine blockC_meet (fun E' K => K = K' ∧ E' 6 = .slice (some ⟨c + 1, 0, none⟩) x.rects.length x.rects.length) ?_ ?_
      · refine w_loop (fun (k : Nat) E' K => K = K' ∧ k ≤ h * w ∧ E' 5 = .slice (some ⟨c + 0, 0, some 0⟩) (h * w) (h * w) ∧ E' 6 = .slice (some ⟨c + 1, 0, none⟩) x.rects.length x.rects.length ∧ E' 10 = .int .i64 (k : Int)) (fun k => h * w - k) 0 ⟨rfl, Nat.zero_le _, f5, f6, f10⟩ ?_
        clear f5 f6 f10 g5 g6
        rintro k E K3 ⟨hK3, hk, g5, g6, g10⟩
        rw [hK3, show K' = ext K' [] from rfl]
        by_cases hkl : k = h * w
        · have hcn : decide ((k : Int) < ((h * w : Nat) : Int)) = false := decide_eq_false (by omega)
          simp (maxDischargeDepth := 6) only [g5, g6, g10, hcn, ruW, putL, Nat.reduceLeDiff, xF, ruU, entryE, Nat.reduceLT, Nat.reduceAdd, Nat.reduceMul, Nat.reduceEqDiff]
          refine joinR_normal ⟨rfl, ?_⟩
          simp only [g6, ruU, entryE, Nat.reduceLT, Nat.reduceAdd, Nat.reduceMul, Nat.reduceEqDiff]
        · have hlt : k < h * w := by omega
          have hcn : decide ((k : Int) < ((h * w : Nat) : Int)) = true := decide_eq_true (by omega)
          have i1 := cell_ia (n := c + 0) (s := some 0) (cap := h * w) (len := h * w) (i := (k : Int)) rfl hlt
          have q1 := cell_ld (f := fun k => hits (x.rects ++ x.bars) ((k / w : Nat) : Int) ((k % w : Nat) : Int)) (o := false) hlt
          have hone : hits (x.rects ++ x.bars) ((k / w : Nat) : Int) ((k % w : Nat) : Int) = 1 := by
            rw [hits_append]
            have a1 : k / w < h := Nat.div_lt_of_lt_mul (by rw [Nat.mul_comm]; exact hlt)
            have a2 : k % w < w := Nat.mod_lt _ (by omega)
            refine (cv _ _).trans ?_
            rw [hfr]
            generalize k / w = q at a1 ⊢
            generalize k % w = r at a2 ⊢
            unfold Rc.hit
            rw [if_pos]
            show (0 : Int) ≤ q ∧ (q : Int) < 0 + h ∧ (0 : Int) ≤ r ∧ (r : Int) < 0 + w
            omega
          rw [hone] at q1
          have hK0'' : bk K' (c + 0) = some ⟨3, false, cellsOf (fun k => hits (x.rects ++ x.bars) ((k / w : Nat) : Int) ((k % w : Nat) : Int)) (h * w)⟩ := hK0'
          simp (maxDischargeDepth := 6) only [g5, g6, g10, hcn, hv, l0, hK0'', i1, q1, ne_eq, not_true_eq_false, decide_false, wrap_succ (show k < 1000000 by omega), ruW, putL, Nat.reduceLeDiff, xF, ruU, entryE, Nat.reduceLT, Nat.reduceAdd, Nat.reduceMul, Nat.reduceEqDiff]
          refine loopC_next ⟨k + 1, by omega, rfl, by omega, ?_, ?_, ?_⟩ <;> simp only [g5, g6, g10, ruU, entryE, Nat.reduceLT, Nat.reduceAdd, Nat.reduceMul, Nat.reduceEqDiff]
      · clear f5 f6 f10 g5 g6
        rintro E K3 ⟨hK3, g6⟩
        rw [hK3, show K' = ext K' [] from rfl]
        have p1 : decide (0 < (x.rects.length : Int)) = true := decide_eq_true (by omega)
        have p2 : decide ((x.rects.length : Int) ≤ 64) = true := decide_eq_true (by omega)
        simp (maxDischargeDepth := 6) only [g6, p1, p2, Try.results21, ruW, putL, Nat.reduceLeDiff, xF, ruU, entryE, Nat.reduceLT, Nat.reduceAdd, Nat.reduceMul, Nat.reduceEqDiff]
        exact ⟨rfl, mH⟩

end Go.Proofs.Ytiedpcmdimgboaa

/- Frames without blocks: what Split does. -/
namespace Go.Proofs.Ytiedpcmdimgboaa
open Go.Ax
set_option linter.unusedSimpArgs false

namespace Atr
theorem set_set : ∀ (t : Atr) (d : List Bool) (s n m : Atr), sub t d = some s → set (set t d n) d m = set t d m
  | t, [], s, n, m, _ => by rw [set_nil, set_nil]
  | .split be f l r, false :: d, s, n, m, h => by simp only [set, set_set l d s n m h]
  | .split be f l r, true :: d, s, n, m, h => by simp only [set, set_set r d s n m h]
  | .leaf _, _ :: _, _, _, _, h => by rw [sub_leaf] at h; cases h
theorem set_self : ∀ (t : Atr) (d : List Bool) (s : Atr), sub t d = some s → set t d s = t
  | t, [], s, h => by rw [sub_nil] at h; cases h; rw [set_nil]
  | .split be f l r, false :: d, s, h => by simp only [set, set_self l d s h]
  | .split be f l r, true :: d, s, h => by simp only [set, set_self r d s h]
  | .leaf _, _ :: _, _, h => by rw [sub_leaf] at h; cases h
theorem find_not (id : Int) : ∀ t : Atr, id ∉ t.ids → find id t = none
  | .leaf i, h => by
    simp only [ids, List.mem_singleton] at h
    simp only [find, if_neg (Ne.symm h)]
  | .split _ _ l r, h => by
    simp only [ids, List.mem_append, not_or] at h
    simp only [find, find_not id l h.1, find_not id r h.2]
theorem find_new (id : Int) : ∀ (t : Atr) (d : List Bool) (s n : Atr) (e : List Bool), sub t d = some s → id ∉ t.ids → find id n = some e → find id (set t d n) = some (d ++ e)
  | t, [], s, n, e, _, _, h => by rw [set_nil, h]; rfl
  | .split be f l r, false :: d, s, n, e, hs, hi, h => by
    simp only [ids, List.mem_append, not_or] at hi
    simp only [set, find, find_new id l d s n e hs hi.1 h]
    rfl
  | .split be f l r, true :: d, s, n, e, hs, hi, h => by
    simp only [ids, List.mem_append, not_or] at hi
    simp only [set, find, find_not id l hi.1, find_new id r d s n e hs hi.2 h]
    rfl
  | .leaf _, _ :: _, _, _, _, h, _, _ => by rw [sub_leaf] at h; cases h
end Atr

theorem rectOf_uniq : ∀ {l : List Rc} {x : Rc}, (l.map Rc.id).Nodup → x ∈ l → rectOf x.id l = (x, true)
  | [], _, _, h => by cases h
  | y :: l, x, hn, h => by
    simp only [List.map_cons, List.nodup_cons, List.mem_map, not_exists, not_and] at hn
    unfold rectOf
    rcases List.mem_cons.1 h with rfl | h
    · simp [List.find?_cons, hasId]
    · have hne : ¬ y.id = x.id := fun e => hn.1 x h e.symm
      have := rectOf_uniq hn.2 h
      unfold rectOf at this
      simp only [List.find?_cons, hasId, hne, decide_false]
      exact this

theorem rects_nodup {s : Ast} {n : Int} (v : Inv s n) : (s.rects.map Rc.id).Nodup := by
  rw [show s.rects = s.root.rects s.frame from rfl, Atr.rects_ids]; exact v.nd

theorem ixOf_mid {pre post : List Rc} {x : Rc} (h : ∀ y ∈ pre, y.id ≠ x.id) : ixOf x.id (pre ++ x :: post) = some pre.length := by
  induction pre with
  | nil => simp [ixOf, List.findIdx?_cons]
  | cons y pre ih =>
    have h1 := h y (by simp)
    have ih := ih (fun z hz => h z (by simp [hz]))
    unfold ixOf at ih ⊢
    simp only [List.cons_append, List.findIdx?_cons, h1, decide_false, Bool.false_eq_true, if_false, ih, Option.map_some, List.length_cons]

/-- what Split does: the rows around the window -/
theorem split_law {s : Ast} {n : Int} (v : Inv s n) (hn : n ≤ 100000) {r : Rc} (h : r ∈ s.rects) (be : Bool) (k : Int) :
    ((s.split r.id be k).2.1 ≠ 0 ∧ (s.split r.id be k).1 = 0 ∧ (s.split r.id be k).2.2.rects = s.rects) ∨
    ∃ pre post a b, (s.split r.id be k).2.1 = 0 ∧ s.rects = pre ++ r :: post ∧ (s.split r.id be k).2.2.rects = pre ++ a :: b :: post ∧ a.id = r.id ∧ b.id = (s.split r.id be k).1 ∧ (s.split r.id be k).1 ∉ s.rects.map Rc.id ∧
      w64 (a.size be + b.size be) + bar be = r.size be ∧ (k > 0 → b.size be = k) ∧ (s.split r.id be k).2.2.sel = s.sel ∧ ((s.split r.id be k).2.2.delete (s.split r.id be k).1).1 = 0 ∧ ((s.split r.id be k).2.2.delete (s.split r.id be k).1).2.rects = s.rects ∧ ((s.split r.id be k).2.2.delete (s.split r.id be k).1).2.sel = s.sel := by
  obtain ⟨d, hd, hr⟩ := row_find v h
  unfold Ast.split
  rw [hd]
  dsimp only
  split
  · exact .inl ⟨by simp, rfl, rfl⟩
  split
  · exact .inl ⟨by simp, rfl, rfl⟩
  split
  · exact .inl ⟨by simp, rfl, rfl⟩
  rename_i hc hk hr0
  right
  simp only [not_or, Int.not_lt] at hr0
  obtain ⟨h1, h2, h3⟩ := hr0
  have hs := Atr.find_sub r.id s.root d hd
  obtain ⟨f0, l0⟩ := Atr.at_fits s.root d _ s.frame hs v.fit (fun b => by have := v.size b; omega)
  obtain ⟨pre, post, e1, e2⟩ := Atr.rects_ctx _ _ _ s.frame hs
  have hl := v.lst
  have hlast : w64 (s.last + 1) = s.last + 1 := wrap_sm (by omega) (by omega)
  rw [hlast]
  have hsN : s.splitN d be k = if k = 0 then w64 ((s.splitW d be).tdiv 2) else k := rfl
  have hbar : 0 ≤ bar be ∧ bar be ≤ 1 := by cases be <;> decide
  have hmin : 2 ≤ mins be := by cases be <;> decide
  have hb := l0 be
  have hvs := v.size be
  have hp := Atr.dims_pos f0 be
  have hW : s.splitW d be = (s.root.rectAt s.frame d).size be - bar be := wrap_sm (by omega) (by omega)
  generalize hD : s.root.rectAt s.frame d = D at *
  generalize hm : s.splitN d be k = m at *
  rw [hW] at h1 h3
  rw [show s.splitW d be = D.size be - bar be from hW]
  have hwm : w64 (D.size be - bar be - m) = D.size be - bar be - m := wrap_sm (by omega) (by omega)
  rw [hwm] at h3 ⊢
  generalize hf : D.size be - bar be - m = f at *
  have hnew : s.last + 1 ∉ s.root.ids := fun h => by have := v.rng _ h; omega
  have hB : (partB be f D).size be = D.size be - f - bar be := by
    have := congrFun (partB_dim (be := be) (f := f) (r := D) (by omega) (by omega) (by omega) (by omega)) be
    rw [Dim.set_same] at this
    exact this
  have hrD : r.size be = D.size be := by rw [hr]; cases be <;> rfl
  refine ⟨pre, post, { partA be f D with id := r.id }, { partB be f D with id := s.last + 1 }, rfl, ?_, ?_, rfl, rfl, ?_, ?_, ?_, rfl, ?_⟩
  · show s.root.rects s.frame = _
    rw [e1]
    simp only [Atr.rects, List.singleton_append]
    rw [← hr]
  · show Atr.rects (s.root.set d _) s.frame = _
    rw [e2]
    simp only [Atr.rects, List.cons_append, List.nil_append]
  · rw [show s.rects = s.root.rects s.frame from rfl, Atr.rects_ids]
    exact hnew
  · show w64 (Rc.size { partA be f D with id := r.id } be + Rc.size { partB be f D with id := s.last + 1 } be) + bar be = r.size be
    rw [show Rc.size { partA be f D with id := r.id } be = (partA be f D).size be by cases be <;> rfl, show Rc.size { partB be f D with id := s.last + 1 } be = (partB be f D).size be by cases be <;> rfl, Atr.partA_same, hB, hrD, wrap_sm (by omega) (by omega)]
    omega
  · intro hk0
    show Rc.size { partB be f D with id := s.last + 1 } be = k
    rw [show Rc.size { partB be f D with id := s.last + 1 } be = (partB be f D).size be by cases be <;> rfl, hB]
    rw [if_neg (by omega)] at hsN
    omega
  · have hfn : Atr.find (s.last + 1) (s.root.set d (.split be f (.leaf r.id) (.leaf (s.last + 1)))) = some (d ++ [true]) := by
      refine Atr.find_new (s.last + 1) s.root d _ _ [true] hs hnew ?_
      have hne : ¬ r.id = s.last + 1 := fun e => hnew (by
        obtain ⟨p1, p2, q1, _⟩ := Atr.ctx _ _ _ hs
        rw [← e, q1]; simp [Atr.ids])
      simp only [Atr.find, if_neg hne, if_true]
    unfold Ast.delete
    dsimp only
    rw [hfn]
    dsimp only
    rw [if_neg (by simp)]
    rw [List.dropLast_concat, Atr.sub_set _ _ _ _ hs]
    dsimp only
    rw [List.getLast?_concat]
    have hsl : ¬ s.sel = s.last + 1 := fun e => hnew (e ▸ v.sel)
    refine ⟨rfl, ?_, ?_⟩
    · show Atr.rects (Atr.set _ _ _) s.frame = _
      rw [Atr.set_set _ _ _ _ _ hs]
      show Atr.rects (s.root.set d ((Atr.leaf r.id).resize be _ _)) s.frame = _
      rw [show ∀ o n, (Atr.leaf r.id).resize be o n = .leaf r.id from fun _ _ => rfl, Atr.set_self _ _ _ hs]
      rfl
    · show (if s.sel = s.last + 1 then _ else s.sel) = s.sel
      rw [if_neg hsl]

end Go.Proofs.Ytiedpcmdimgboaa

/- Frames without blocks: the order of windows. -/
namespace Go.Proofs.Ytiedpcmdimgboaa
open Go.Ax
set_option linter.unusedSimpArgs false

theorem ixOf_get : ∀ {l : List Rc} {i : Nat} {x : Rc}, (l.map Rc.id).Nodup → l[i]? = some x → ixOf x.id l = some i
  | [], i, x, _, h => by simp at h
  | y :: l, 0, x, hn, h => by
    simp only [List.getElem?_cons_zero, Option.some.injEq] at h
    subst h
    simp [ixOf, List.findIdx?_cons]
  | y :: l, i + 1, x, hn, h => by
    simp only [List.map_cons, List.nodup_cons, List.mem_map, not_exists, not_and] at hn
    simp only [List.getElem?_cons_succ] at h
    have hne : ¬ y.id = x.id := fun e => hn.1 x (List.mem_of_getElem? h) e.symm
    have := ixOf_get hn.2 h
    unfold ixOf at this ⊢
    simp only [List.findIdx?_cons, hne, decide_false, Bool.false_eq_true, if_false, this, Option.map_some]

/-- Next and Previous, from row to row -/
theorem near_next {l : List Rc} {i : Nat} {x y : Rc} (hn : (l.map Rc.id).Nodup) (hx : l[i]? = some x) (hy : l[(i + 1) % l.length]? = some y) : nearA l x.id 1 = (y.id, true) := by
  unfold nearA
  rw [ixOf_get hn hx]
  have : ((i : Int) + 1 + (l.length : Int)).toNat % l.length = (i + 1) % l.length := by
    rw [show ((i : Int) + 1 + (l.length : Int)).toNat = i + 1 + l.length by omega, Nat.add_mod_right]
  dsimp only
  rw [this, hy]
  rfl
theorem near_prev {l : List Rc} {i : Nat} {x y : Rc} (hn : (l.map Rc.id).Nodup) (hx : l[i]? = some x) (hy : l[(i + 1) % l.length]? = some y) : nearA l y.id (-1) = (x.id, true) := by
  unfold nearA
  rw [ixOf_get hn hy]
  have hi : i < l.length := by
    rcases Nat.lt_or_ge i l.length with h | h
    · exact h
    · rw [List.getElem?_eq_none h] at hx; cases hx
  have : ((((i + 1) % l.length : Nat) : Int) + -1 + (l.length : Int)).toNat % l.length = i := by
    by_cases h : i + 1 < l.length
    · rw [Nat.mod_eq_of_lt h, show (((i + 1 : Nat) : Int) + -1 + (l.length : Int)).toNat = i + l.length by omega, Nat.add_mod_right, Nat.mod_eq_of_lt hi]
    · rw [show i + 1 = l.length by omega, Nat.mod_self, show (((0 : Nat) : Int) + -1 + (l.length : Int)).toNat = i by omega, Nat.mod_eq_of_lt hi]
  dsimp only
  rw [this, hx]
  rfl

/-- what Only leaves -/
theorem only_law {s : Ast} {n : Int} (v : Inv s n) {r : Rc} (h : r ∈ s.rects) : s.only r.id = (0, { s with root := .leaf r.id, sel := r.id }) := by
  obtain ⟨d, hd, _⟩ := row_find v h
  unfold Ast.only
  rw [hd]

end Go.Proofs.Ytiedpcmdimgboaa

/- The walk of WindowTiles. -/
namespace Go.Proofs.Ytiedpcmdimgboaa
open Go.Ax
set_option linter.unusedSimpArgs false
set_option maxRecDepth 10000

theorem ptr_nil2 {H : AHeap} : aBin Try.prog H .eql 24 (.pointer none) (.pointer none) = some (.bool true) := by
  simp only [aBin, aBinAddr]
  rfl

set_option maxHeartbeats 4000000 in
theorem tiles_c (h w : Int) (v : Value) (l : List Ac) (H : AHeap) (hok : H.base ≤ H.next) (hv : ArgAt H v l) :
    CallA Try.prog 5 [.int .i64 h, .int .i64 w, v] H (True1 H) := by
  obtain ⟨b, hb⟩ : ∃ b, H.next = b := ⟨_, rfl⟩
  obtain ⟨av, cv, rfl, hv⟩ := hv
  refine callE_fn mixed Try.func5 rfl Try.ntmps5 (Nat.le_of_ble_eq_true rfl) ?_
  simp (maxDischargeDepth := 6) only [ruW, putL, Nat.reduceLeDiff, xF, ruU, entryE, Nat.reduceLT, Nat.reduceAdd, Nat.reduceMul, Nat.reduceEqDiff]
  refine (lives_c (ext H [])).to ?_
  by_cases h60 : (120 : Int) < (l.length : Int)
  · simp (maxDischargeDepth := 6) only [h60, Bool.not_true, decide_true, Try.results5, ruW, putL, Nat.reduceLeDiff, xF, ruU, entryE, Nat.reduceLT, Nat.reduceAdd, Nat.reduceMul, Nat.reduceEqDiff]
    exact ⟨rfl, Mod.refl⟩
  by_cases h61 : (60 : Int) < h
  · simp (maxDischargeDepth := 6) only [h60, h61, Bool.not_true, decide_true, decide_false, Try.results5, ruW, putL, Nat.reduceLeDiff, xF, ruU, entryE, Nat.reduceLT, Nat.reduceAdd, Nat.reduceMul, Nat.reduceEqDiff]
    exact ⟨rfl, Mod.refl⟩
  by_cases h62 : (200 : Int) < w
  · simp (maxDischargeDepth := 6) only [h60, h61, h62, Bool.not_true, decide_true, decide_false, Try.results5, ruW, putL, Nat.reduceLeDiff, xF, ruU, entryE, Nat.reduceLT, Nat.reduceAdd, Nat.reduceMul, Nat.reduceEqDiff]
    exact ⟨rfl, Mod.refl⟩
  simp (maxDischargeDepth := 6) only [h60, h61, h62, Bool.not_true, decide_false, ruW, putL, Nat.reduceLeDiff, xF, ruU, entryE, Nat.reduceLT, Nat.reduceAdd, Nat.reduceMul, Nat.reduceEqDiff]
  cases hin : inside h w with
  | false =>
    refine (new_no h w (ext H []) hin).to ?_
    simp (maxDischargeDepth := 6) only [Int.reduceEq, ne_eq, not_false_eq_true, decide_true, ptr_nil2, Try.results5, ruW, putL, Nat.reduceLeDiff, xF, ruU, entryE, Nat.reduceLT, Nat.reduceAdd, Nat.reduceMul, Nat.reduceEqDiff]
    exact ⟨rfl, Mod.refl⟩
  | true =>
  refine (new_ok h w (ext H []) hin).to ?_
  simp (maxDischargeDepth := 6) only [hb, ne_eq, not_true_eq_false, decide_false, ruW, putL, Nat.reduceLeDiff, xF, ruU, entryE, Nat.reduceLT, Nat.reduceAdd, Nat.reduceMul, Nat.reduceEqDiff]
  have hl0 := new_live hok hin hb
  generalize hX : ext H (_ :: _) = X at hl0 ⊢
  refine w_env fun E hE => ?_
  have e2 : E 2 = .slice av l.length cv := by rw [hE]; simp only [ruU, entryE, Nat.reduceLT, Nat.reduceAdd, Nat.reduceMul, Nat.reduceEqDiff]
  have e7 : E 7 = .pointer (some ⟨b + 1, 0, none⟩) := by rw [hE]; simp only [ruU, entryE, Nat.reduceLT, Nat.reduceAdd, Nat.reduceMul, Nat.reduceEqDiff]
  have e9 : E 9 = .int .i64 0 := by rw [hE]; simp only [ruU, entryE, Nat.reduceLT, Nat.reduceAdd, Nat.reduceMul, Nat.reduceEqDiff]
  clear hE
  refine blockC_meet (fun E' H' => Mod [] H H') ?_ ?_
  · refine w_loop (fun (k : Nat) E' H' => ∃ x, Live H H' (b + 1) x (k + 1) ∧ k ≤ l.length ∧ E' 2 = .slice av l.length cv ∧ E' 7 = .pointer (some ⟨b + 1, 0, none⟩) ∧ E' 9 = .int .i64 (k : Int)) (fun k => l.length - k) 0 ⟨_, hl0, Nat.zero_le _, e2, e7, e9⟩ ?_
    clear e2 e7 e9
    rintro k E X ⟨x0, lv, hk, e2, e7, e9⟩
    rw [show X = ext X [] from rfl]
    by_cases hkl : k = l.length
    · have hc : decide ((k : Int) < (l.length : Int)) = false := by simp [hkl]
      simp (maxDischargeDepth := 6) only [e2, e7, e9, hc, ruW, putL, Nat.reduceLeDiff, xF, ruU, entryE, Nat.reduceLT, Nat.reduceAdd, Nat.reduceMul, Nat.reduceEqDiff]
      exact joinR_normal lv.mod
    · have hlt : k < l.length := by omega
      have hc : decide ((k : Int) < (l.length : Int)) = true := decide_eq_true (by omega)
      obtain ⟨nA, sA, eA, rfl, hnA, hbA⟩ := hv (by intro h; rw [h] at hlt; simp at hlt)
      obtain ⟨a, ha⟩ : ∃ a, l[k]? = some a := ⟨_, List.getElem?_eq_getElem hlt⟩
      have i1 := acs_ia (n := nA) (s := sA) (cap := cv) (i := (k : Int)) rfl hlt
      have q1 := acs_load (e := eA) (o := true) ha
      have hbX := (lv.mod.bk hnA (by simp)).trans hbA
      have lA := lv.mod.lt hnA
      simp (maxDischargeDepth := 6) only [e2, e7, e9, hc, i1, lA, hbX, q1, ruW, putL, Nat.reduceLeDiff, xF, ruU, entryE, Nat.reduceLT, Nat.reduceAdd, Nat.reduceMul, Nat.reduceEqDiff]
      refine (do_c (b + 1) x0 a (ext X []) lv.good).mono ?_
      rintro _ X1 ⟨rfl, x, st, hab⟩
      have lv1 := lv.step hok st (m := (((k + 1 : Nat) : Int) + 1)) (by rw [hab]; have := act_inv lv.inv (by omega) a; exact this.mono (by omega))
      rw [show X1 = ext X1 [] from rfl]
      simp (maxDischargeDepth := 6) only [e2, e7, e9, ruW, putL, Nat.reduceLeDiff, xF, ruU, entryE, Nat.reduceLT, Nat.reduceAdd, Nat.reduceMul, Nat.reduceEqDiff]
      refine (tiled_c (b + 1) x _ (ext X1 []) lv1.good lv1.inv).mono ?_
      rintro _ Y ⟨rfl, mY⟩
      have lv2 : Live H Y (b + 1) x (((k + 1 : Nat) : Int) + 1) := ⟨lv1.good.mod mY (by simp) (by simp), lv1.inv, lv1.mod.trans mY, lv1.t, lv1.bl⟩
      have okY := lv2.good.ok
      have hsz := lv2.size
      have hnd : (x.rects.map Rc.id).Nodup := by rw [lv2.rects]; exact rects_nodup lv2.inv
      obtain ⟨c, hc0⟩ : ∃ c, Y.next = c := ⟨_, rfl⟩
      rw [show Y = ext Y [] from rfl]
      simp (maxDischargeDepth := 6) only [e2, e7, e9, Bool.not_true, ruW, putL, Nat.reduceLeDiff, xF, ruU, entryE, Nat.reduceLT, Nat.reduceAdd, Nat.reduceMul, Nat.reduceEqDiff]
      refine (rects_c (b + 1) x (ext Y []) (by omega) lv2.good.wn).to ?_
      simp (maxDischargeDepth := 6) only [e2, e7, e9, hc0, ruW, putL, Nat.reduceLeDiff, xF, ruU, entryE, Nat.reduceLT, Nat.reduceAdd, Nat.reduceMul, Nat.reduceEqDiff]
      generalize hG : ext Y (_ :: _) = G
      have mG : Mod [] Y G := hG ▸ Mod.ext okY
      have hGn : G.next = c + 1 := by rw [← hG, ext_next, hc0]; rfl
      have hG0 : bk G (c + 0) = some ⟨35, true, rowsOf x.rects⟩ := by rw [← hG, bk_at hc0 (by simp)]; rfl
      have lvG : Live H G (b + 1) x (((k + 1 : Nat) : Int) + 1) := ⟨lv2.good.mod mG (by simp) (by simp), lv2.inv, lv2.mod.trans mG, lv2.t, lv2.bl⟩
      have okG := lvG.good.ok
      obtain ⟨g, hg⟩ : ∃ g, G.next = g := ⟨_, rfl⟩
      have lc0 : c + 0 < g := by omega
      have hsel : ∃ r ∈ x.rects, r.id = x.sel := by
        have h := lv2.inv.sel
        rw [← Atr.rects_ids x.abs.root x.abs.frame] at h
        obtain ⟨r, hr, he⟩ := List.mem_map.1 h
        exact ⟨r, by rw [lv2.rects]; exact hr, he⟩
      refine w_env fun E2 hE => ?_
      have f2 : E2 2 = .slice (some ⟨nA, 0, sA⟩) l.length cv := by rw [hE]; simp only [e2, ruU, entryE, Nat.reduceLT, Nat.reduceAdd, Nat.reduceMul, Nat.reduceEqDiff]
      have f7 : E2 7 = .pointer (some ⟨b + 1, 0, none⟩) := by rw [hE]; simp only [e7, ruU, entryE, Nat.reduceLT, Nat.reduceAdd, Nat.reduceMul, Nat.reduceEqDiff]
      have f9 : E2 9 = .int .i64 (k : Int) := by rw [hE]; simp only [e9, ruU, entryE, Nat.reduceLT, Nat.reduceAdd, Nat.reduceMul, Nat.reduceEqDiff]
      have f10 : E2 10 = .slice (some ⟨c + 0, 0, none⟩) x.rects.length x.rects.length := by rw [hE]; simp only [ruU, entryE, Nat.reduceLT, Nat.reduceAdd, Nat.reduceMul, Nat.reduceEqDiff]
      have f11 : E2 11 = .bool false := by rw [hE]; simp only [ruU, entryE, Nat.reduceLT, Nat.reduceAdd, Nat.reduceMul, Nat.reduceEqDiff]
      have f12 : E2 12 = .int .i64 ((0 : Nat) : Int) := by rw [hE]; simp only [ruU, entryE, Nat.reduceLT, Nat.reduceAdd, Nat.reduceMul, Nat.reduceEqDiff]; rfl
      clear hE e2 e7 e9
      refine blockC_meet (fun E' H' => H' = G ∧ E' 2 = .slice (some ⟨nA, 0, sA⟩) l.length cv ∧ E' 7 = .pointer (some ⟨b + 1, 0, none⟩) ∧ E' 9 = .int .i64 (k : Int) ∧ E' 11 = .bool true) ?_ ?_
      · refine w_loop (fun (i : Nat) E' H' => H' = G ∧ i ≤ x.rects.length ∧ E' 2 = .slice (some ⟨nA, 0, sA⟩) l.length cv ∧ E' 7 = .pointer (some ⟨b + 1, 0, none⟩) ∧ E' 9 = .int .i64 (k : Int) ∧ E' 10 = .slice (some ⟨c + 0, 0, none⟩) x.rects.length x.rects.length ∧ E' 12 = .int .i64 (i : Int) ∧ ∃ fl, E' 11 = .bool fl ∧ (fl = true ∨ ∀ r ∈ x.rects.take i, r.id ≠ x.sel)) (fun i => x.rects.length - i) 0 ⟨rfl, Nat.zero_le _, f2, f7, f9, f10, f12, false, f11, .inr (by simp)⟩ ?_
        clear f2 f7 f9 f10 f11 f12
        rintro i E K ⟨hK, hi, e2, e7, e9, e10, e12, fl, e11, hfl⟩
        rw [hK, show G = ext G [] from rfl]
        by_cases hil : i = x.rects.length
        · have hcn : decide ((i : Int) < (x.rects.length : Int)) = false := by simp [hil]
          simp (maxDischargeDepth := 6) only [e2, e7, e9, e10, e11, e12, hcn, ruW, putL, Nat.reduceLeDiff, xF, ruU, entryE, Nat.reduceLT, Nat.reduceAdd, Nat.reduceMul, Nat.reduceEqDiff]
          have hft : fl = true := by
            rcases hfl with h | h
            · exact h
            · rw [hil, List.take_length] at h
              obtain ⟨r, hr, he⟩ := hsel
              exact absurd he (h r hr)
          refine joinR_normal ⟨rfl, ?_, ?_, ?_, ?_⟩ <;> simp only [e2, e7, e9, e11, hft, ruU, entryE, Nat.reduceLT, Nat.reduceAdd, Nat.reduceMul, Nat.reduceEqDiff]
        · have hlt2 : i < x.rects.length := by omega
          have hcn : decide ((i : Int) < (x.rects.length : Int)) = true := decide_eq_true (by omega)
          obtain ⟨q, hq⟩ := get_ex hlt2
          have j1 := rows_ia (n := c + 0) (s := none) (cap := x.rects.length) (len := x.rects.length) (i := (i : Int)) rfl hlt2
          have j2 := rows_load0 (o := true) hq
          simp (maxDischargeDepth := 6) only [e2, e7, e9, e10, e11, e12, hcn, hg, lc0, hG0, j1, j2, ruW, putL, Nat.reduceLeDiff, xF, ruU, entryE, Nat.reduceLT, Nat.reduceAdd, Nat.reduceMul, Nat.reduceEqDiff]
          refine w_drawB [] [(1, 61)] (by kernel_rfl) rfl (by kernel_rfl) fun ops anc hA hGd => ?_
          simp only [all2_cons] at hGd
          have gT : ∀ m ∈ (b + 1) :: x.root.blks, G.get m ≠ none := fun m hm => by
            rcases List.mem_cons.1 hm with rfl | h
            · exact bk_ne (H := G) lvG.good.wn.1
            · exact lvG.good.wn.2.ne m h
          cases fl with
          | true =>
            simp (maxDischargeDepth := 6) only [e2, e7, e9, e10, e11, e12, hg, lc0, hG0, j1, j2, hGd, put_at, ruD, ruW, putL, Nat.reduceLeDiff, xF, ruU, entryE, Nat.reduceLT, Nat.reduceAdd, Nat.reduceMul, Nat.reduceEqDiff, ruW, putL, Nat.reduceLeDiff, xF, ruU, entryE, Nat.reduceLT, Nat.reduceAdd, Nat.reduceMul, Nat.reduceEqDiff]
            refine w_env fun E3 hE => ?_
            have f2 : E3 2 = .slice (some ⟨nA, 0, sA⟩) l.length cv := by rw [hE]; simp only [e2, ruU, entryE, Nat.reduceLT, Nat.reduceAdd, Nat.reduceMul, Nat.reduceEqDiff]
            have f7 : E3 7 = .pointer (some ⟨b + 1, 0, none⟩) := by rw [hE]; simp only [e7, ruU, entryE, Nat.reduceLT, Nat.reduceAdd, Nat.reduceMul, Nat.reduceEqDiff]
            have f9 : E3 9 = .int .i64 (k : Int) := by rw [hE]; simp only [e9, ruU, entryE, Nat.reduceLT, Nat.reduceAdd, Nat.reduceMul, Nat.reduceEqDiff]
            have f10 : E3 10 = .slice (some ⟨c + 0, 0, none⟩) x.rects.length x.rects.length := by rw [hE]; simp only [e10, ruU, entryE, Nat.reduceLT, Nat.reduceAdd, Nat.reduceMul, Nat.reduceEqDiff]
            have f11 : E3 11 = .bool true := by rw [hE]; simp only [ruU, entryE, Nat.reduceLT, Nat.reduceAdd, Nat.reduceMul, Nat.reduceEqDiff]
            have f12 : E3 12 = .int .i64 (i : Int) := by rw [hE]; simp only [e12, ruU, entryE, Nat.reduceLT, Nat.reduceAdd, Nat.reduceMul, Nat.reduceEqDiff]
            have f13 : E3 13 = .int .i64 ((0 : Nat) : Int) := by rw [hE]; simp only [ruU, entryE, Nat.reduceLT, Nat.reduceAdd, Nat.reduceMul, Nat.reduceEqDiff]; rfl
            clear hE e2 e7 e9 e10 e11 e12
            refine w_loop (fun (j : Nat) E' H' => H' = G ∧ j ≤ i ∧ E' 2 = .slice (some ⟨nA, 0, sA⟩) l.length cv ∧ E' 7 = .pointer (some ⟨b + 1, 0, none⟩) ∧ E' 9 = .int .i64 (k : Int) ∧ E' 10 = .slice (some ⟨c + 0, 0, none⟩) x.rects.length x.rects.length ∧ E' 11 = .bool true ∧ E' 12 = .int .i64 (i : Int) ∧ E' 13 = .int .i64 (j : Int)) (fun j => i - j) 0 ⟨rfl, Nat.zero_le _, f2, f7, f9, f10, f11, f12, f13⟩ ?_
            clear f2 f7 f9 f10 f11 f12 f13
            rintro j E K ⟨hK, hj, e2, e7, e9, e10, e11, e12, e13⟩
            rw [hK, show G = ext G [] from rfl]
            by_cases hji : j = i
            · have hcj : decide ((j : Int) < (i : Int)) = false := decide_eq_false (by omega)
              simp (maxDischargeDepth := 6) only [e2, e7, e9, e10, e11, e12, e13, hcj, wrap_succ (show i < 1000000 by omega), ruW, putL, Nat.reduceLeDiff, xF, ruU, entryE, Nat.reduceLT, Nat.reduceAdd, Nat.reduceMul, Nat.reduceEqDiff]
              refine loopC_next ⟨i + 1, by omega, rfl, by omega, ?_, ?_, ?_, ?_, ?_, true, ?_, .inl rfl⟩ <;> simp only [e2, e7, e9, e10, e11, e12, ruU, entryE, Nat.reduceLT, Nat.reduceAdd, Nat.reduceMul, Nat.reduceEqDiff]
            · have hjl : j < x.rects.length := by omega
              have hcj : decide ((j : Int) < (i : Int)) = true := decide_eq_true (by omega)
              obtain ⟨q', hq'⟩ := get_ex hjl
              have jj1 := rows_ia (n := c + 0) (s := none) (cap := x.rects.length) (len := x.rects.length) (i := (j : Int)) rfl hjl
              have jj2 := rows_load0 (o := true) hq'
              have hne : decide (q'.id = q.id) = false := decide_eq_false fun e => by
                have a1 := ixOf_get hnd hq
                have a2 := ixOf_get hnd hq'
                rw [e, a1] at a2
                exact hji (Option.some.inj a2).symm
              simp (maxDischargeDepth := 6) only [e2, e7, e9, e10, e11, e12, e13, hcj, ruW, putL, Nat.reduceLeDiff, xF, ruU, entryE, Nat.reduceLT, Nat.reduceAdd, Nat.reduceMul, Nat.reduceEqDiff]
              refine w_drawB [] [] (by kernel_rfl) rfl rfl fun ops anc hA hGd => ?_
              simp (maxDischargeDepth := 6) only [e2, e7, e9, e10, e11, e12, e13, hg, lc0, hG0, j1, j2, jj1, jj2, hne, wrap_succ (show j < 1000000 by omega), ruD, ruW, putL, Nat.reduceLeDiff, xF, ruU, entryE, Nat.reduceLT, Nat.reduceAdd, Nat.reduceMul, Nat.reduceEqDiff, ruW, putL, Nat.reduceLeDiff, xF, ruU, entryE, Nat.reduceLT, Nat.reduceAdd, Nat.reduceMul, Nat.reduceEqDiff]
              refine loopC_next ⟨j + 1, by omega, rfl, by omega, ?_, ?_, ?_, ?_, ?_, ?_, ?_⟩ <;> simp only [e2, e7, e9, e10, e11, e12, e13, ruU, entryE, Nat.reduceLT, Nat.reduceAdd, Nat.reduceMul, Nat.reduceEqDiff]
          | false =>
            simp (maxDischargeDepth := 6) only [e2, e7, e9, e10, e11, e12, hg, lc0, hG0, j1, j2, hGd, put_at, ruD, ruW, putL, Nat.reduceLeDiff, xF, ruU, entryE, Nat.reduceLT, Nat.reduceAdd, Nat.reduceMul, Nat.reduceEqDiff, ruW, putL, Nat.reduceLeDiff, xF, ruU, entryE, Nat.reduceLT, Nat.reduceAdd, Nat.reduceMul, Nat.reduceEqDiff]
            refine genV_quiet (v := .int .i64 x.sel) ((b + 1) :: x.root.blks) (by simp (maxDischargeDepth := 6) only [ruU, entryE, Nat.reduceLT, Nat.reduceAdd, Nat.reduceMul, Nat.reduceEqDiff]) (by kernel_rfl) (by decide) gT (fun G' _ hg' => ?_) (by simp (maxDischargeDepth := 6) only [ruD, ruW, putL, Nat.reduceLeDiff, xF, ruU, entryE, Nat.reduceLT, Nat.reduceAdd, Nat.reduceMul, Nat.reduceEqDiff, ruW, putL, Nat.reduceLeDiff, xF, ruU, entryE, Nat.reduceLT, Nat.reduceAdd, Nat.reduceMul, Nat.reduceEqDiff]) ?_
            · simp only [ruU, entryE, Nat.reduceLT, Nat.reduceAdd, Nat.reduceMul, Nat.reduceEqDiff]
              exact selected_c (b + 1) x G' ⟨(bk_get (hg' (b + 1) (by simp))).trans lvG.good.wn.1, lvG.good.wn.2.of fun m hm => hg' m (by simp [hm])⟩
            simp (maxDischargeDepth := 6) only [e2, e7, e9, e10, e11, e12, hg, lc0, hG0, j1, j2, hGd, put_at, ruD, ruW, putL, Nat.reduceLeDiff, xF, ruU, entryE, Nat.reduceLT, Nat.reduceAdd, Nat.reduceMul, Nat.reduceEqDiff, ruW, putL, Nat.reduceLeDiff, xF, ruU, entryE, Nat.reduceLT, Nat.reduceAdd, Nat.reduceMul, Nat.reduceEqDiff]
            refine w_env fun E3 hE => ?_
            have f2 : E3 2 = .slice (some ⟨nA, 0, sA⟩) l.length cv := by rw [hE]; simp only [e2, ruU, entryE, Nat.reduceLT, Nat.reduceAdd, Nat.reduceMul, Nat.reduceEqDiff]
            have f7 : E3 7 = .pointer (some ⟨b + 1, 0, none⟩) := by rw [hE]; simp only [e7, ruU, entryE, Nat.reduceLT, Nat.reduceAdd, Nat.reduceMul, Nat.reduceEqDiff]
            have f9 : E3 9 = .int .i64 (k : Int) := by rw [hE]; simp only [e9, ruU, entryE, Nat.reduceLT, Nat.reduceAdd, Nat.reduceMul, Nat.reduceEqDiff]
            have f10 : E3 10 = .slice (some ⟨c + 0, 0, none⟩) x.rects.length x.rects.length := by rw [hE]; simp only [e10, ruU, entryE, Nat.reduceLT, Nat.reduceAdd, Nat.reduceMul, Nat.reduceEqDiff]
            have f11 : E3 11 = .bool (decide (q.id = x.sel)) := by rw [hE]; simp only [ruU, entryE, Nat.reduceLT, Nat.reduceAdd, Nat.reduceMul, Nat.reduceEqDiff]
            have f12 : E3 12 = .int .i64 (i : Int) := by rw [hE]; simp only [e12, ruU, entryE, Nat.reduceLT, Nat.reduceAdd, Nat.reduceMul, Nat.reduceEqDiff]
            have f13 : E3 13 = .int .i64 ((0 : Nat) : Int) := by rw [hE]; simp only [ruU, entryE, Nat.reduceLT, Nat.reduceAdd, Nat.reduceMul, Nat.reduceEqDiff]; rfl
            clear hE e2 e7 e9 e10 e11 e12
            refine w_loop (fun (j : Nat) E' H' => H' = G ∧ j ≤ i ∧ E' 2 = .slice (some ⟨nA, 0, sA⟩) l.length cv ∧ E' 7 = .pointer (some ⟨b + 1, 0, none⟩) ∧ E' 9 = .int .i64 (k : Int) ∧ E' 10 = .slice (some ⟨c + 0, 0, none⟩) x.rects.length x.rects.length ∧ E' 11 = .bool (decide (q.id = x.sel)) ∧ E' 12 = .int .i64 (i : Int) ∧ E' 13 = .int .i64 (j : Int)) (fun j => i - j) 0 ⟨rfl, Nat.zero_le _, f2, f7, f9, f10, f11, f12, f13⟩ ?_
            clear f2 f7 f9 f10 f11 f12 f13
            rintro j E K ⟨hK, hj, e2, e7, e9, e10, e11, e12, e13⟩
            rw [hK, show G = ext G [] from rfl]
            by_cases hji : j = i
            · have hcj : decide ((j : Int) < (i : Int)) = false := decide_eq_false (by omega)
              simp (maxDischargeDepth := 6) only [e2, e7, e9, e10, e11, e12, e13, hcj, wrap_succ (show i < 1000000 by omega), ruW, putL, Nat.reduceLeDiff, xF, ruU, entryE, Nat.reduceLT, Nat.reduceAdd, Nat.reduceMul, Nat.reduceEqDiff]
              refine loopC_next ⟨i + 1, by omega, rfl, by omega, ?_, ?_, ?_, ?_, ?_, decide (q.id = x.sel), ?_, ?_⟩ <;> try simp only [e2, e7, e9, e10, e11, e12, ruU, entryE, Nat.reduceLT, Nat.reduceAdd, Nat.reduceMul, Nat.reduceEqDiff]
              by_cases hqs : q.id = x.sel
              · exact .inl (decide_eq_true hqs)
              · refine .inr fun r hr => ?_
                rw [List.take_add_one, hq] at hr
                rcases List.mem_append.1 hr with h | h
                · rcases hfl with g | g
                  · cases g
                  · exact g r h
                · simp only [Option.toList_some, List.mem_singleton] at h
                  rw [h]
                  exact hqs
            · have hjl : j < x.rects.length := by omega
              have hcj : decide ((j : Int) < (i : Int)) = true := decide_eq_true (by omega)
              obtain ⟨q', hq'⟩ := get_ex hjl
              have jj1 := rows_ia (n := c + 0) (s := none) (cap := x.rects.length) (len := x.rects.length) (i := (j : Int)) rfl hjl
              have jj2 := rows_load0 (o := true) hq'
              have hne : decide (q'.id = q.id) = false := decide_eq_false fun e => by
                have a1 := ixOf_get hnd hq
                have a2 := ixOf_get hnd hq'
                rw [e, a1] at a2
                exact hji (Option.some.inj a2).symm
              simp (maxDischargeDepth := 6) only [e2, e7, e9, e10, e11, e12, e13, hcj, ruW, putL, Nat.reduceLeDiff, xF, ruU, entryE, Nat.reduceLT, Nat.reduceAdd, Nat.reduceMul, Nat.reduceEqDiff]
              refine w_drawB [] [] (by kernel_rfl) rfl rfl fun ops anc hA hGd => ?_
              simp (maxDischargeDepth := 6) only [e2, e7, e9, e10, e11, e12, e13, hg, lc0, hG0, j1, j2, jj1, jj2, hne, wrap_succ (show j < 1000000 by omega), ruD, ruW, putL, Nat.reduceLeDiff, xF, ruU, entryE, Nat.reduceLT, Nat.reduceAdd, Nat.reduceMul, Nat.reduceEqDiff, ruW, putL, Nat.reduceLeDiff, xF, ruU, entryE, Nat.reduceLT, Nat.reduceAdd, Nat.reduceMul, Nat.reduceEqDiff]
              refine loopC_next ⟨j + 1, by omega, rfl, by omega, ?_, ?_, ?_, ?_, ?_, ?_, ?_⟩ <;> simp only [e2, e7, e9, e10, e11, e12, e13, ruU, entryE, Nat.reduceLT, Nat.reduceAdd, Nat.reduceMul, Nat.reduceEqDiff]
      · clear f2 f7 f9 f10 f11 f12
        rintro E K ⟨hK, e2, e7, e9, e11⟩
        rw [hK, show G = ext G [] from rfl]
        simp (maxDischargeDepth := 6) only [e2, e7, e9, e11, Bool.not_true, wrap_succ (show k < 1000000 by omega), ruW, putL, Nat.reduceLeDiff, xF, ruU, entryE, Nat.reduceLT, Nat.reduceAdd, Nat.reduceMul, Nat.reduceEqDiff]
        refine loopC_next ⟨k + 1, by omega, x, lvG, by omega, ?_, ?_, ?_⟩ <;> simp only [e2, e7, e9, ruU, entryE, Nat.reduceLT, Nat.reduceAdd, Nat.reduceMul, Nat.reduceEqDiff]
  · rintro E K mK
    rw [show K = ext K [] from rfl]
    simp (maxDischargeDepth := 6) only [Try.results5, ruW, putL, Nat.reduceLeDiff, xF, ruU, entryE, Nat.reduceLT, Nat.reduceAdd, Nat.reduceMul, Nat.reduceEqDiff]
    exact ⟨rfl, mK⟩

end Go.Proofs.Ytiedpcmdimgboaa
