/- Parts of the proof, one behind the other. -/
import Derived.Test.YtiedpcmdimgboaaM5
import Derived.Test.YtiedpcmdimgboaaM2
import Derived.Below
import Derived.Test.YtiedpcmdimgboaaM4
import Derived.WideShapes
import Derived.ChangeSlices
import Derived.ChangeAnyMap
import Derived.Test.YtiedpcmdimgboaaRows
import Derived.ProofKit
import Derived.Carry
import Derived.OpenShut
set_option linter.all false

/- Frames without blocks: rectangles of windows; what Resize does to them. -/
namespace Go.Proofs.Ytiedpcmdimgboaa
open Go.Ax
set_option linter.unusedSimpArgs false

namespace Atr
theorem rects_ids : ∀ (t : Atr) (rc : Rc), (t.rects rc).map Rc.id = t.ids
  | .leaf i, rc => rfl
  | .split be f l r, rc => by simp only [rects, ids, List.map_append, rects_ids l, rects_ids r]
theorem rects_len (t : Atr) (rc : Rc) : (t.rects rc).length = t.size + 1 := by
  have := congrArg List.length (rects_ids t rc)
  rw [List.length_map, ids_length] at this
  exact this

theorem rects_ctx : ∀ (t : Atr) (e : List Bool) (s : Atr) (rc : Rc), sub t e = some s → ∃ pre post, t.rects rc = pre ++ (s.rects (rectAt t rc e) ++ post) ∧ ∀ n, (set t e n).rects rc = pre ++ (n.rects (rectAt t rc e) ++ post)
  | t, [], s, rc, h => by
    rw [sub_nil] at h
    cases h
    rw [rectAt_nil]
    exact ⟨[], [], by simp, fun n => by rw [set_nil]; simp⟩
  | .split b f l r, false :: e, s, rc, h => by
    obtain ⟨pre, post, h1, h2⟩ := rects_ctx l e s (partA b f rc) h
    refine ⟨pre, post ++ r.rects (partB b f rc), by simp only [rects, h1, List.append_assoc]; rfl, fun n => by simp only [set, rects, h2, List.append_assoc]; rfl⟩
  | .split b f l r, true :: e, s, rc, h => by
    obtain ⟨pre, post, h1, h2⟩ := rects_ctx r e s (partB b f rc) h
    refine ⟨l.rects (partA b f rc) ++ pre, post, by simp only [rects, h1, List.append_assoc]; rfl, fun n => by simp only [set, rects, h2, List.append_assoc]; rfl⟩
  | .leaf _, _ :: _, _, _, h => by rw [sub_leaf] at h; cases h

theorem rect_find (id : Int) : ∀ (t : Atr) (rc : Rc) (d : List Bool), find id t = some d → (t.rects rc).find? (hasId id) = some { rectAt t rc d with id := id }
  | .leaf i, rc, d, h => by
    simp only [find] at h
    split at h
    · rename_i e
      simp only [Option.some.injEq] at h; subst h; subst e
      simp [rects, rectAt_nil, hasId]
    · cases h
  | .split be f l r, rc, d, h => by
    simp only [find] at h
    split at h
    · rename_i e he
      simp only [Option.some.injEq] at h; subst h
      simp only [rects, List.find?_append, rect_find id l (partA be f rc) e he]
      rfl
    · rename_i hl
      split at h
      · rename_i e he
        simp only [Option.some.injEq] at h; subst h
        have hn : (l.rects (partA be f rc)).find? (hasId id) = none := by
          rw [List.find?_eq_none]
          intro x hx hh
          simp only [hasId, decide_eq_true_eq] at hh
          have := find_none id l hl
          rw [← rects_ids l (partA be f rc)] at this
          exact this (List.mem_map.2 ⟨x, hx, hh⟩)
        simp only [rects, List.find?_append, hn, rect_find id r (partB be f rc) e he]
        rfl
      · cases h

theorem rectOf_find {t : Atr} {rc : Rc} {id : Int} {d : List Bool} (h : find id t = some d) : rectOf id (t.rects rc) = ({ rectAt t rc d with id := id }, true) := by
  rw [rectOf, rect_find _ _ _ _ h]

theorem rectAt_append : ∀ (t : Atr) (rc : Rc) (d e : List Bool) (s : Atr), sub t d = some s → rectAt t rc (d ++ e) = rectAt s (rectAt t rc d) e
  | t, rc, [], e, s, h => by rw [sub_nil] at h; cases h; rw [rectAt_nil]; rfl
  | .split be f l r, rc, false :: d, e, s, h => rectAt_append l (partA be f rc) d e s h
  | .split be f l r, rc, true :: d, e, s, h => rectAt_append r (partB be f rc) d e s h
  | .leaf _, _, _ :: _, _, _, h => by rw [sub_leaf] at h; cases h
theorem rectAt_set : ∀ (t : Atr) (rc : Rc) (d : List Bool) (s n : Atr), sub t d = some s → rectAt (set t d n) rc d = rectAt t rc d
  | t, rc, [], s, n, h => by rw [rectAt_nil, rectAt_nil]
  | .split be f l r, rc, false :: d, s, n, h => rectAt_set l (partA be f rc) d s n h
  | .split be f l r, rc, true :: d, s, n, h => rectAt_set r (partB be f rc) d s n h
  | .leaf _, _, _ :: _, _, _, h => by rw [sub_leaf] at h; cases h
theorem sub_set : ∀ (t : Atr) (d : List Bool) (s n : Atr), sub t d = some s → sub (set t d n) d = some n
  | t, [], s, n, h => by rw [set_nil, sub_nil]
  | .split be f l r, false :: d, s, n, h => sub_set l d s n h
  | .split be f l r, true :: d, s, n, h => sub_set r d s n h
  | .leaf _, _ :: _, _, _, h => by rw [sub_leaf] at h; cases h
theorem find_set (id : Int) : ∀ (t : Atr) (d : List Bool) (s n : Atr), sub t d = some s → find id n = find id s → find id (set t d n) = find id t
  | t, [], s, n, h, hn => by rw [sub_nil] at h; cases h; rw [set_nil]; exact hn
  | .split be f l r, false :: d, s, n, h, hn => by simp only [set, find, find_set id l d s n h hn]
  | .split be f l r, true :: d, s, n, h, hn => by simp only [set, find, find_set id r d s n h hn]
  | .leaf _, _ :: _, _, _, h, _ => by rw [sub_leaf] at h; cases h
theorem find_resize (id : Int) (be : Bool) : ∀ (t : Atr) (old now : Int), find id (t.resize be old now) = find id t
  | .leaf _, _, _ => rfl
  | .split bb f l r, old, now => by
    simp only [resize]
    split <;> simp only [find, find_resize id be l, find_resize id be r]

def noBe (be : Bool) : Atr → List Bool → Prop
  | _, [] => True
  | .split b _ l _, false :: d => b ≠ be ∧ noBe be l d
  | .split b _ _ r, true :: d => b ≠ be ∧ noBe be r d
  | .leaf _, _ :: _ => True

theorem partA_size {b c : Bool} {f : Int} {rc : Rc} (h : c ≠ b) : (partA b f rc).size c = rc.size c := by cases b <;> cases c <;> first | exact absurd rfl h | rfl
theorem partB_size {b c : Bool} {f : Int} {rc : Rc} (h : c ≠ b) : (partB b f rc).size c = rc.size c := by cases b <;> cases c <;> first | exact absurd rfl h | rfl
theorem partA_same {b : Bool} {f : Int} {rc : Rc} : (partA b f rc).size b = f := by cases b <;> rfl
theorem partB_same {b : Bool} {f : Int} {rc rc' : Rc} (h : rc.size b = rc'.size b) : (partB b f rc).size b = (partB b f rc').size b := by
  cases b <;> simp only [partB, Rc.size, if_true, Bool.false_eq_true, if_false] at h ⊢ <;> rw [h]

theorem path_same (be : Bool) : ∀ (t : Atr) (d : List Bool) (rc rc' : Rc) (old now : Int), noBe be t d → (∀ c, c ≠ be → rc.size c = rc'.size c) →
    (rectAt t rc d).size be = rc.size be ∧ (rectAt (t.resize be old now) rc' d).size be = rc'.size be ∧ ∀ c, c ≠ be → (rectAt (t.resize be old now) rc' d).size c = (rectAt t rc d).size c
  | t, [], rc, rc', _, _, _, h => by
    rw [rectAt_nil, rectAt_nil]
    exact ⟨rfl, rfl, fun c hc => (h c hc).symm⟩
  | .leaf i, x :: d, rc, rc', _, _, _, h => by
    cases x <;> exact ⟨rfl, rfl, fun c hc => (h c hc).symm⟩
  | .split b f l r, false :: d, rc, rc', old, now, hn, h => by
    obtain ⟨hb, hn⟩ := hn
    have := path_same be l d (partA b f rc) (partA b f rc') old now hn (fun c hc => by
      by_cases e : c = b
      · subst e; rw [partA_same, partA_same]
      · rw [partA_size e, partA_size e]; exact h c hc)
    rw [partA_size (Ne.symm hb), partA_size (Ne.symm hb)] at this
    simp only [resize, if_neg hb]
    exact this
  | .split b f l r, true :: d, rc, rc', old, now, hn, h => by
    obtain ⟨hb, hn⟩ := hn
    have := path_same be r d (partB b f rc) (partB b f rc') old now hn (fun c hc => by
      by_cases e : c = b
      · subst e; exact partB_same (h c hc)
      · rw [partB_size e, partB_size e]; exact h c hc)
    rw [partB_size (Ne.symm hb), partB_size (Ne.symm hb)] at this
    simp only [resize, if_neg hb]
    exact this

theorem noBe_of (be : Bool) : ∀ (t : Atr) (d : List Bool), (∀ j b f l r, sub t (d.take j) = some (.split b f l r) → j < d.length → b ≠ be) → noBe be t d
  | t, [], _ => by cases t <;> trivial
  | .leaf _, x :: d, _ => by cases x <;> trivial
  | .split b f l r, false :: d, h => ⟨h 0 b f l r rfl (by simp), noBe_of be l d fun j b' f' l' r' hs hj => h (j + 1) b' f' l' r' hs (by simpa using hj)⟩
  | .split b f l r, true :: d, h => ⟨h 0 b f l r rfl (by simp), noBe_of be r d fun j b' f' l' r' hs hj => h (j + 1) b' f' l' r' hs (by simpa using hj)⟩
end Atr

theorem upTo_max {t : Atr} {d : List Bool} {be : Bool} : ∀ {n k : Nat}, Ast.upTo t d be n = some k → ∀ j, k < j → j < n → ∀ b f l r, t.sub (d.take j) = some (.split b f l r) → b ≠ be
  | 0, _, h => by simp [Ast.upTo] at h
  | n + 1, k, h => by
    intro j hk hj b f l r hs
    unfold Ast.upTo at h
    by_cases hjn : j = n
    · subst hjn
      rw [hs] at h
      simp only at h
      split at h
      · simp only [Option.some.injEq] at h; omega
      · assumption
    · split at h
      · split at h
        · simp only [Option.some.injEq] at h; omega
        · exact upTo_max h j hk (by omega) b f l r hs
      · exact upTo_max h j hk (by omega) b f l r hs

theorem row_find {s : Ast} {n : Int} (v : Inv s n) {r : Rc} (h : r ∈ s.rects) : ∃ d, s.root.find r.id = some d ∧ r = { s.root.rectAt s.frame d with id := r.id } := by
  have hm : r.id ∈ s.root.ids := by rw [← Atr.rects_ids s.root s.frame]; exact List.mem_map.2 ⟨r, h, rfl⟩
  cases hf : s.root.find r.id with
  | none => exact absurd hm (Atr.find_none _ _ hf)
  | some d =>
    refine ⟨d, rfl, ?_⟩
    obtain ⟨pre, post, h1, _⟩ := Atr.rects_ctx s.root d _ s.frame (Atr.find_sub _ _ _ hf)
    simp only [Atr.rects] at h1
    have hids := Atr.rects_ids s.root s.frame
    rw [h1] at hids
    have hnd := v.nd
    rw [← hids] at hnd
    rw [show s.rects = s.root.rects s.frame from rfl, h1] at h
    simp only [List.map_append, List.map_cons, List.map_nil, List.nodup_append, List.mem_append, List.mem_singleton, List.mem_map] at hnd h
    rcases h with h | h | h
    · exact absurd rfl (hnd.2.2 r.id ⟨r, h, rfl⟩ r.id (.inl rfl))
    · exact h
    · exact absurd rfl (hnd.2.1.2.2 r.id rfl r.id ⟨r, h, rfl⟩)

theorem resize_law {s : Ast} {n : Int} (v : Inv s n) {r : Rc} (h : r ∈ s.rects) (k : Int) (be : Bool) :
    ((s.resize r.id k be).1 ≠ 0 → (s.resize r.id k be).2 = s) ∧ (rectOf r.id (s.resize r.id k be).2.rects).2 = true ∧
    ((s.resize r.id k be).1 = 0 → w64 ((rectOf r.id (s.resize r.id k be).2.rects).1.size be - r.size be) = k ∧ (∀ c, c ≠ be → (rectOf r.id (s.resize r.id k be).2.rects).1.size c = r.size c) ∧ (s.resize r.id k be).2.rects.length = s.rects.length) := by
  obtain ⟨d, hd, hr⟩ := row_find v h
  have hbase : (rectOf r.id s.rects).2 = true := by
    rw [rectOf, show s.rects = s.root.rects s.frame from rfl, Atr.rect_find _ _ _ _ hd]
  have triv : ∀ e : Int, e ≠ 0 → ((e, s).1 ≠ 0 → (e, s).2 = s) ∧ (rectOf r.id (e, s).2.rects).2 = true ∧ ((e, s).1 = 0 → w64 ((rectOf r.id (e, s).2.rects).1.size be - r.size be) = k ∧ (∀ c, c ≠ be → (rectOf r.id (e, s).2.rects).1.size c = r.size c) ∧ (e, s).2.rects.length = s.rects.length) :=
    fun e he => ⟨fun _ => rfl, hbase, fun h => absurd h he⟩
  unfold Ast.resize
  rw [hd]
  dsimp only
  split
  · exact triv 9 (by decide)
  rename_i m hm
  split
  · exact triv 3 (by decide)
  rename_i hk
  obtain ⟨hmd, f, l, rr, hs⟩ := upTo_some hm
  rw [hs]
  dsimp only
  obtain ⟨lr, hlr⟩ : ∃ lr, d[m]? = some lr := ⟨_, List.getElem?_eq_getElem hmd⟩
  rw [hlr]
  generalize hby : (if some lr = some false then k else w64 (0 - k)) = by2
  split
  · exact triv 3 (by decide)
  rename_i hc
  simp only [not_or, Int.not_lt] at hc hk
  refine ⟨fun h => absurd rfl h, ?_⟩
  obtain ⟨f0, l0⟩ := Atr.at_fits s.root (d.take m) _ s.frame hs v.fit (fun b => by have := v.size b; omega)
  generalize hN : Atr.split be (w64 (f + by2)) (l.resize be f (w64 (f + by2))) (rr.resize be (w64 (w64 ((s.root.rectAt s.frame (d.take m)).size be - f) - bar be)) (w64 (w64 (w64 ((s.root.rectAt s.frame (d.take m)).size be - f) - bar be) - by2))) = N
  have hfd := Atr.find_set r.id s.root (d.take m) _ N hs (by rw [← hN]; simp only [Atr.find, Atr.find_resize])
  rw [hd] at hfd
  have hlen : (Atr.rects (s.root.set (d.take m) N) s.frame).length = s.rects.length := by
    obtain ⟨pre, post, e1, e2⟩ := Atr.rects_ctx s.root (d.take m) _ s.frame hs
    show (Atr.rects _ s.frame).length = (s.root.rects s.frame).length
    rw [e2, e1, ← hN]
    simp only [List.length_append, Atr.rects_len, Atr.size, Atr.size_resize]
  show (rectOf r.id (Atr.rects (s.root.set (d.take m) N) s.frame)).2 = true ∧ ((0 : Int) = 0 → w64 ((rectOf r.id (Atr.rects (s.root.set (d.take m) N) s.frame)).1.size be - r.size be) = k ∧ (∀ c, c ≠ be → (rectOf r.id (Atr.rects (s.root.set (d.take m) N) s.frame)).1.size c = r.size c) ∧ (Atr.rects (s.root.set (d.take m) N) s.frame).length = s.rects.length)
  rw [Atr.rectOf_find hfd]
  refine ⟨rfl, fun _ => ?_⟩
  generalize hD : s.root.rectAt s.frame (d.take m) = D at *
  have hdd : d.take m ++ (lr :: d.drop (m + 1)) = d := by
    have h1 := List.drop_eq_getElem_cons hmd
    have h2 : d[m] = lr := by rw [List.getElem?_eq_getElem hmd] at hlr; exact Option.some.inj hlr
    rw [h2] at h1
    rw [← h1, List.take_append_drop]
  have hrest : (d.drop (m + 1)).length = d.length - (m + 1) := List.length_drop
  generalize hre : d.drop (m + 1) = rest at hdd hrest
  have e1 : s.root.rectAt s.frame d = Atr.rectAt (.split be f l rr) D (lr :: rest) := by rw [← hdd, Atr.rectAt_append _ _ _ _ _ hs, hD]
  have e2 : (s.root.set (d.take m) N).rectAt s.frame d = Atr.rectAt N D (lr :: rest) := by
    conv => lhs; rw [← hdd]
    have := Atr.rectAt_append (s.root.set (d.take m) N) s.frame (d.take m) (lr :: rest) N (Atr.sub_set _ _ _ _ hs)
    rw [hdd] at this ⊢
    rw [this, Atr.rectAt_set _ _ _ _ _ hs, hD]
  have hmax := upTo_max hm
  have hno : Atr.noBe be (if lr then rr else l) rest := by
    refine Atr.noBe_of be _ rest fun j b f' l' r' hsub hj => ?_
    refine hmax (m + 1 + j) (by omega) (by omega) b f' l' r' ?_
    have : d.take (m + 1 + j) = d.take m ++ (lr :: rest.take j) := by
      conv => lhs; rw [← hdd]
      rw [List.take_append, List.length_take, Nat.min_eq_left (by omega), List.take_of_length_le (by rw [List.length_take]; omega), show m + 1 + j - m = j + 1 by omega, List.take_succ_cons]
    rw [this, Atr.sub_append, hs]
    cases lr <;> exact hsub
  have hvs := v.size be
  have hb0 := l0 be
  have hlb := Atr.fits_lst l _ f0.1 be
  have hrb := Atr.fits_lst rr _ f0.2 be
  rw [Dim.set_same] at hlb hrb
  rw [Rc.dim_eq] at hrb
  have pl := (Atr.lst_pos be l).1
  have pr := (Atr.lst_pos be rr).1
  have hbar : 0 ≤ bar be ∧ bar be ≤ 1 := by cases be <;> decide
  have hby2 : by2 = if lr then -k else k := by
    rw [← hby]
    cases lr
    · rfl
    · simp only [reduceCtorEq, if_false, if_true, Option.some.injEq, Bool.true_eq_false]
      rw [wrap_sm (n := 0 - k) (by omega) (by omega)]; omega
  have w1 : w64 (f + by2) = f + by2 := by
    refine wrap_sm ?_ ?_ <;> (rw [hby2]; cases lr <;> simp only [if_true, Bool.false_eq_true, if_false] <;> omega)
  have w2 : w64 (w64 (D.size be - f) - bar be) = D.size be - f - bar be := by rw [wrap_sm (n := D.size be - f) (by omega) (by omega), wrap_sm (by omega) (by omega)]
  have w3 : w64 (D.size be - f - bar be - by2) = D.size be - f - bar be - by2 := by
    refine wrap_sm ?_ ?_ <;> (rw [hby2]; cases lr <;> simp only [if_true, Bool.false_eq_true, if_false] <;> omega)
  have hls : l.size < 1000000 := by
    obtain ⟨pre, post, e1, _⟩ := Atr.ctx _ _ _ hs
    have ts := v.tsize
    have := congrArg List.length e1
    simp only [Atr.ids, List.length_append, Atr.ids_length] at this
    omega
  have hc1 := hc.1
  rw [w1, Atr.least_eq be l hls] at hc1
  rw [w1, w2, w3] at hN
  have hrs : ∀ c, r.size c = (Atr.rectAt (.split be f l rr) D (lr :: rest)).size c := fun c => by
    rw [← e1]; conv => lhs; rw [hr]
    cases c <;> rfl
  rw [e2]
  show w64 ((Atr.rectAt N D (lr :: rest)).size be - r.size be) = k ∧ (∀ c, c ≠ be → (Atr.rectAt N D (lr :: rest)).size c = r.size c) ∧ _
  have hNs : (Atr.rectAt N D (lr :: rest)).size be = r.size be + k ∧ ∀ c, c ≠ be → (Atr.rectAt N D (lr :: rest)).size c = r.size c := by
    subst hN
    cases lr with
    | false =>
      have := Atr.path_same be l rest (partA be f D) (partA be (f + by2) D) f (f + by2) hno (fun c hc => by rw [Atr.partA_size hc, Atr.partA_size hc])
      rw [Atr.partA_same, Atr.partA_same] at this
      refine ⟨?_, fun c hc => ?_⟩
      · rw [hrs]
        show (Atr.rectAt _ (partA be (f + by2) D) rest).size be = (Atr.rectAt l (partA be f D) rest).size be + k
        rw [this.1, this.2.1, hby2]; rfl
      · rw [hrs]; exact this.2.2 c hc
    | true =>
      have hB : ∀ x : Int, 0 ≤ x → x ≤ 100000 → (partB be x D).size be = D.size be - x - bar be := fun x h1 h2 => by
        have := congrFun (partB_dim (be := be) (f := x) (r := D) h1 h2 (by omega) (by omega)) be
        rw [Dim.set_same] at this
        exact this
      simp only [if_true] at hby2
      have := Atr.path_same be rr rest (partB be f D) (partB be (f + by2) D) (D.size be - f - bar be) (D.size be - f - bar be - by2) hno (fun c hc => by rw [Atr.partB_size hc, Atr.partB_size hc])
      rw [hB f (by omega) (by omega), hB (f + by2) (by omega) (by omega)] at this
      refine ⟨?_, fun c hc => ?_⟩
      · rw [hrs]
        show (Atr.rectAt _ (partB be (f + by2) D) rest).size be = (Atr.rectAt rr (partB be f D) rest).size be + k
        rw [this.1, this.2.1]; omega
      · rw [hrs]; exact this.2.2 c hc
  refine ⟨?_, hNs.2, hlen⟩
  rw [hNs.1, show r.size be + k - r.size be = k by omega]
  exact wrap_sm (by omega) (by omega)

end Go.Proofs.Ytiedpcmdimgboaa

/- The executor at work: a call that it walks to 'true' answers true, and keeps all that was. -/
namespace Go.Ax

def Ren.same : Ren := ⟨fun n => n, fun _ => 0, fun _ => 0, fun _ => .nilIface, fun _ => rfl⟩

theorem rel_none (P : Program) (w : World) : Rel P Ren.same (AHeap.none P.globals.size) w :=
  ⟨Nat.le_refl _, ⟨Nat.le_refl _, fun _ _ => ⟨rfl, rfl⟩⟩, fun m _ h => absurd (none_get _ m) h, fun n o h => (by rw [none_get] at h; cases h), fun n o h => (by rw [none_get] at h; cases h)⟩

theorem wide_wide : WideF Fence.wide := ⟨fun _ => trivial, rfl⟩

theorem call_in {P : Program} (hmix : P.follows .mixedOrders = true) {K : FuncId → List Value → Option Value} (hK : Known P K) {fuel : Nat} {f : FuncId} {args : List Value} {v : Value} {H H1 : AHeap} {ρ : Ren} {w : World} (r : Rel P ρ H w)
    (h : call P K fuel f args H = some (.ok v, H1)) (hsc : scbL H.next args = true) {F : Fence} {n : Nat} (hF : WideF F) : CallsIn F n P f (args.map ρ.val).toArray w (fun e w' => ∃ ρ1, e = .returned (ρ1.val v) ∧ St P ρ H w ρ1 H1 w') :=
  enterF_run (exec_sound hmix hK fuel).1 r h hsc hF (fun ρ1 w1 s _ => ⟨ρ1, rfl, s⟩)

theorem sameV_eq {u v : Value} (h : sameV u v = true) : u = v ∧ af v = true := by
  unfold sameV at h
  split at h
  · simp only [Bool.and_eq_true, decide_eq_true_eq] at h
    obtain ⟨rfl, rfl⟩ := h
    exact ⟨rfl, rfl⟩
  · simp only [beq_iff_eq] at h
    subst h
    exact ⟨rfl, rfl⟩
  · cases h

theorem sameL_eq : ∀ {u v : List Value}, sameL u v = true → u = v ∧ ∀ x ∈ v, af x = true
  | [], [], _ => ⟨rfl, fun _ h => by cases h⟩
  | a :: r, b :: q, h => by
    simp only [sameL, Bool.and_eq_true] at h
    obtain ⟨h1, h2⟩ := sameV_eq h.1
    obtain ⟨h3, h4⟩ := sameL_eq h.2
    refine ⟨by rw [h1, h3], fun x hx => ?_⟩
    rcases List.mem_cons.1 hx with rfl | hx
    · exact h2
    · exact h4 x hx
  | [], _ :: _, h => by cases h
  | _ :: _, [], h => by cases h

theorem afL_of : ∀ {l : List Value}, (∀ x ∈ l, af x = true) → afL l = true
  | [], _ => rfl
  | x :: l, h => by rw [afL, h x (List.mem_cons_self ..), afL_of fun y hy => h y (List.mem_cons_of_mem _ hy)]; rfl

theorem sameW_eq {u v : Value} (h : sameW u v = true) : u = v ∧ af v = true := by
  unfold sameW at h
  split at h
  · rename_i a b
    obtain ⟨h1, h2⟩ := sameL_eq h
    obtain ⟨a⟩ := a
    obtain ⟨b⟩ := b
    simp only at h1 h2
    subst h1
    exact ⟨rfl, by rw [af, afA]; exact afL_of h2⟩
  · rename_i a b
    obtain ⟨h1, h2⟩ := sameL_eq h
    obtain ⟨a⟩ := a
    obtain ⟨b⟩ := b
    simp only at h1 h2
    subst h1
    exact ⟨rfl, by rw [af, afA]; exact afL_of h2⟩
  · exact sameV_eq h

theorem sameM_eq : ∀ {u v : List Value}, sameM u v = true → u = v ∧ ∀ x ∈ v, af x = true
  | [], [], _ => ⟨rfl, fun _ h => by cases h⟩
  | a :: r, b :: q, h => by
    simp only [sameM, Bool.and_eq_true] at h
    obtain ⟨h1, h2⟩ := sameW_eq h.1
    obtain ⟨h3, h4⟩ := sameM_eq h.2
    refine ⟨by rw [h1, h3], fun x hx => ?_⟩
    rcases List.mem_cons.1 hx with rfl | hx
    · exact h2
    · exact h4 x hx
  | [], _ :: _, h => by cases h
  | _ :: _, [], h => by cases h

theorem ans_in {P : Program} (hmix : P.follows .mixedOrders = true) {K : FuncId → List Value → Option Value} (hK : Known P K) {fuel : Nat} {f : FuncId} {args : List Value} {v : Value} (ha : args.all af = true) (h : ansB P K fuel f args v = true) (F : Fence) (n : Nat) (w : World) (hF : WideF F) :
    CallsIn F n P f args.toArray w (fun e w' => e = .returned v ∧ RowKit.Below w.heap.size w w') := by
  unfold ansB at h
  split at h
  · rename_i u H1 hc
    obtain ⟨rfl, hv⟩ := sameW_eq h
    have := call_in hmix hK (rel_none P w) hc (scbL_of_af _ (afL_of fun x hx => List.all_eq_true.1 ha x hx)) (F := F) (n := n) hF
    rw [map_af _ args (fun x hx => List.all_eq_true.1 ha x hx)] at this
    refine this.mono ?_
    rintro e w' ⟨ρ1, rfl, s⟩
    exact ⟨by rw [val_af ρ1 _ hv], s.os, s.tape, s.output, s.size, fun b hb => s.old b hb fun n _ _ hg => absurd (none_get _ n) hg⟩
  · cases h

theorem known_nil (P : Program) : Known P (lookK []) := fun f args v h => by cases h

theorem known_cons {P : Program} (hmix : P.follows .mixedOrders = true) {L : List (FuncId × List Value × Value)} (hK : Known P (lookK L)) (fuel : Nat) {f : FuncId} {args : List Value} {v : Value} (ha : args.all af = true) (h : ansB P (lookK L) fuel f args v = true) :
    Known P (lookK ((f, args, v) :: L)) := by
  intro g bs u hu
  unfold lookK at hu
  split at hu
  · rename_i hc
    simp only [Bool.and_eq_true] at hc
    have h1 : f = g := Nat.eq_of_beq_eq_true hc.1
    obtain ⟨h2, _⟩ := sameM_eq hc.2
    subst h1 h2
    simp only [Option.some.injEq] at hu
    subst hu
    have hv : af v = true := by
      unfold ansB at h
      split at h
      · exact (sameW_eq h).2
      · cases h
    exact ⟨fun x hx => List.all_eq_true.1 ha x hx, hv, fun F n w hF => ans_in hmix hK ha h F n w hF⟩
  · exact hK g bs u hu

theorem true_calls {P : Program} (hmix : P.follows .mixedOrders = true) {K : FuncId → List Value → Option Value} (hK : Known P K) {fuel : Nat} {f : FuncId} (h : ansB P K fuel f [] (.bool true) = true) (w : World) :
    Calls P f #[] w (fun e w' => e = .returned (.bool true) ∧ RowKit.Below w.heap.size w w') :=
  (callsIn_wide (n := 0)).1 (ans_in hmix hK rfl h Fence.wide 0 w wide_wide)

end Go.Ax

/- A call's arguments, one of which is a slice of structs of numbers, truth values and strings: an abstract heap that holds its cells. -/
namespace Go.Ax
open Go.ChangeShapes
section
variable {P : Program} {K : Type} {enc : TypeId × Value → K} {w : World} {base : Nat} {spare : Nat → Bool} {held : Bool}

theorem mapM_each {α β : Type} {g : α → Option β} : ∀ {l : List α} {r : List β}, l.mapM g = some r → ∀ x ∈ l, ∃ y, g x = some y
  | [], _, _, x, hx => by cases hx
  | a :: l, r, h, x, hx => by
    rw [List.mapM_cons] at h
    cases hg : g a with
    | none => rw [hg] at h; cases h
    | some y =>
      rw [hg] at h
      cases hl : l.mapM g with
      | none => simp [hl] at h
      | some r' =>
        rcases List.mem_cons.1 hx with rfl | hx
        · exact ⟨y, hg⟩
        · exact mapM_each hl x hx

theorem fits_append : ∀ {ts us : List TypeId} {a b : List Value}, fits P ts a = true → fits P us b = true → fits P (ts ++ us) (a ++ b) = true
  | [], us, [], b, _, h => h
  | [], _, _ :: _, _, h, _ => by simp [fits] at h
  | _ :: _, _, [], _, h, _ => by simp [fits] at h
  | t :: ts, us, v :: a, b, h, h2 => by
    simp only [fits, Bool.and_eq_true] at h
    simp only [List.cons_append, fits, h.1, fits_append h.2 h2, Bool.and_self]

theorem trod_fieldsF {fuel d : Nat} {cs : List Value} (ih : ∀ (t : TypeId) (ts : List TypeId) (cs : List Value) (x : DataW K × List MemPlace), flat P d t = some ts → szOf P t = some ts.length → DataW.trod enc P w base spare held fuel t cs = some x → fits P ts cs = true) :
    ∀ (fs : List Field) (o : Nat) (ts : List TypeId), flatF P (flat P d) fs o = some ts → (∀ f ∈ fs, ∃ y, DataW.trod enc P w base spare held fuel f.type ((cs.drop f.offset).take (P.cellsOf f.type)) = some y) → o + ts.length ≤ cs.length → fits P ts ((cs.drop o).take ts.length) = true
  | [], o, ts, h, _, _ => by
    simp only [flatF, Option.some.injEq] at h
    subst h
    rfl
  | f :: fs, o, ts, h, hy, hle => by
    simp only [flatF] at h
    split at h
    · rename_i hf
      obtain ⟨_, ho⟩ := hf
      cases e1 : flat P d f.type with
      | none => rw [e1] at h; cases h
      | some a =>
        rw [e1] at h
        simp only at h
        split at h
        · rename_i hsz
          cases e2 : flatF P (flat P d) fs (o + a.length) with
          | none => rw [e2] at h; cases h
          | some b =>
            rw [e2] at h
            simp only [Option.some.injEq] at h
            subst h
            rw [List.length_append] at hle
            obtain ⟨y, hy0⟩ := hy f (by simp)
            rw [ho, cellsOf_szOf hsz] at hy0
            have h1 := ih f.type a _ y e1 hsz hy0
            have h2 := trod_fieldsF ih fs (o + a.length) b e2 (fun g hg => hy g (by simp [hg])) (by omega)
            have : (cs.drop o).take (a ++ b).length = (cs.drop o).take a.length ++ (cs.drop (o + a.length)).take b.length := by
              rw [List.length_append, List.take_add, List.drop_drop]
            rw [this]
            exact fits_append h1 h2
        · cases h
    · cases h

theorem trod_fits : ∀ (fuel d : Nat) (t : TypeId) (ts : List TypeId) (cs : List Value) (x : DataW K × List MemPlace), flat P d t = some ts → szOf P t = some ts.length → DataW.trod enc P w base spare held fuel t cs = some x → fits P ts cs = true
  | 0, _, _, _, _, _, _, _, h => by simp [DataW.trod] at h
  | _ + 1, 0, _, _, _, _, h, _, _ => by simp [flat] at h
  | fuel + 1, d + 1, t, ts, cs, x, hf, hs, h => by
    simp only [flat] at hf
    unfold DataW.trod at h
    cases e : P.underlying t with
    | none => rw [e] at hf; cases hf
    | some td =>
      rw [e] at hf h
      cases td with
      | bool =>
        simp only [Option.some.injEq] at hf
        subst hf
        split at h <;> first | cases h | skip
        all_goals first | (rename_i hh; cases hh; done) | skip
        all_goals simp_all [fits, fit1]
      | int k =>
        simp only [Option.some.injEq] at hf
        subst hf
        split at h <;> simp_all [fits, fit1]
      | string =>
        simp only [Option.some.injEq] at hf
        subst hf
        split at h <;> simp_all [fits, fit1]
      | struct fs =>
        simp only at hf
        split at hf
        · cases hf
        · simp only at h
          split at h
          · rename_i hlen
            rw [cellsOf_szOf hs] at hlen
            cases hm : fs.toList.mapM fun f => DataW.trod enc P w base spare held fuel f.type ((cs.drop f.offset).take (P.cellsOf f.type)) with
            | none => rw [hm] at h; cases h
            | some xs =>
              have := trod_fieldsF (cs := cs) (fun t ts cs x => trod_fits fuel d t ts cs x) fs.toList 0 ts hf (mapM_each hm) (by omega)
              rw [List.drop_zero, List.take_of_length_le (by omega)] at this
              exact this
          · cases h
      | _ => simp at hf

theorem trod_slice {fuel : Nat} {t e : TypeId} {ts : List TypeId} {D : Nat} (ht : P.underlying t = some (.slice e)) (hsz : szOf P e = some ts.length) (hfl : flat P D e = some ts) {b off len cap : Nat} {x : DataW K × List MemPlace}
    (h : DataW.trod enc P w 0 spare held fuel t [.slice (some ⟨b, off, none⟩) len cap] = some x) (hnf : w.noneFrozen x.2) :
    len ≤ cap ∧ (len * ts.length = 0 ∨ ∃ (c : Array Value) (e' : TypeId) (fz : Nat × Nat) (vs : List Value), w.heap[b]? = some (.cells c e' fz) ∧ vs.length = len * ts.length ∧ (∀ i, i < vs.length → c[off + i]? = some (vs.getD i undef)) ∧
      (∀ i, i < len → fits P ts ((vs.drop (i * ts.length)).take ts.length) = true) ∧ ∀ i, off ≤ i → i < off + len * ts.length → ¬ (fz.1 ≤ i ∧ i < fz.2)) := by
  cases fuel with
  | zero => simp [DataW.trod] at h
  | succ fuel =>
    unfold DataW.trod at h
    rw [ht] at h
    simp only [cellsOf_szOf hsz] at h
    split at h
    · rename_i hc
      refine ⟨hc.2.1, ?_⟩
      by_cases h0 : len * ts.length = 0
      · exact .inl h0
      right
      cases hm : (List.range len).mapM fun i => (w.cells? 0 ((⟨b, off, none⟩ : Addr).add (i * ts.length)) ts.length).bind (DataW.trod enc P w 0 spare held fuel e) with
      | none => rw [hm] at h; cases h
      | some elems =>
        rw [hm, Option.bind_some] at h
        have hel : elems.length = len := by have := mapM_len hm; simpa using this
        have each : ∀ i, i < len → ∃ cs y, w.cells? 0 ((⟨b, off, none⟩ : Addr).add (i * ts.length)) ts.length = some cs ∧ DataW.trod enc P w 0 spare held fuel e cs = some y := fun i hi => by
          obtain ⟨y, hy⟩ := mapM_each hm i (by simpa using hi)
          cases hcs : w.cells? 0 ((⟨b, off, none⟩ : Addr).add (i * ts.length)) ts.length with
          | none => rw [hcs] at hy; cases hy
          | some cs => rw [hcs] at hy; exact ⟨cs, y, rfl, hy⟩
        have cell : ∀ i, i < len * ts.length → ∃ v, w.cell? ⟨b, off + i, none⟩ = some v := fun i hi => by
          have hp : 0 < ts.length := Nat.pos_of_ne_zero fun h => h0 (by rw [h, Nat.mul_zero])
          have hq : i / ts.length < len := (Nat.div_lt_iff_lt_mul hp).2 hi
          obtain ⟨cs, y, hcs, _⟩ := each _ hq
          unfold World.cells? at hcs
          rw [if_pos (Nat.zero_le _)] at hcs
          obtain ⟨v, hv⟩ := mapM_each hcs (i % ts.length) (by simpa using Nat.mod_lt _ hp)
          rw [addr_add, addr_add] at hv
          have : off + i / ts.length * ts.length + i % ts.length = off + i := by rw [Nat.add_assoc, Nat.mul_comm, Nat.div_add_mod]
          rw [this] at hv
          exact ⟨v, hv⟩
        obtain ⟨v0, hv0⟩ := cell 0 (by omega)
        unfold World.cell? at hv0
        cases hb : w.heap[b]? with
        | none => simp [hb] at hv0
        | some o =>
          cases o with
          | cells c e' fz =>
            have cell' : ∀ i, i < len * ts.length → ∃ v, c[off + i]? = some v := fun i hi => by
              obtain ⟨v, hv⟩ := cell i hi
              simp only [World.cell?, hb] at hv
              exact ⟨v, by simpa using hv⟩
            obtain ⟨vs, hvs⟩ : ∃ vs : List Value, vs = (List.range (len * ts.length)).map fun i => (c[off + i]?).getD undef := ⟨_, rfl⟩
            have hvl : vs.length = len * ts.length := by simp [hvs]
            have hvg : ∀ i, i < vs.length → c[off + i]? = some (vs.getD i undef) := fun i hi => by
              rw [hvl] at hi
              obtain ⟨v, hv⟩ := cell' i hi
              simp [hvs, hi, hv, List.getD_eq_getElem?_getD]
            refine ⟨c, e', fz, vs, rfl, hvl, hvg, fun i hi => ?_, fun i h1 h2 => ?_⟩
            · obtain ⟨cs, y, hcs, hy⟩ := each i hi
              have hcs' : (vs.drop (i * ts.length)).take ts.length = cs := by
                unfold World.cells? at hcs
                rw [if_pos (Nat.zero_le _)] at hcs
                have hin : i * ts.length + ts.length ≤ len * ts.length := by rw [← Nat.succ_mul]; exact Nat.mul_le_mul_right _ hi
                have hr := mapM_range_of (f := fun j => w.cell? (((⟨b, off, none⟩ : Addr).add (i * ts.length)).add j)) (g := fun j => vs.getD (i * ts.length + j) undef) ts.length (fun j hj => by
                  have h3 := hvg (i * ts.length + j) (by rw [hvl]; omega)
                  rw [addr_add, addr_add, Nat.add_assoc]
                  simp [World.cell?, hb, h3])
                rw [hr] at hcs
                cases hcs
                apply List.ext_getElem?
                intro j
                by_cases hj : j < ts.length
                · rw [List.getElem?_take, if_pos hj, List.getElem?_drop, List.getElem?_map, List.getElem?_range hj, List.getElem?_eq_getElem (by rw [hvl]; omega)]
                  simp only [Option.map_some, List.getD_eq_getElem?_getD]
                  rw [List.getElem?_eq_getElem (by rw [hvl]; omega)]
                  rfl
                · rw [List.getElem?_eq_none (by simp; omega), List.getElem?_eq_none (by simp; omega)]
              rw [hcs']
              exact trod_fits fuel D e ts cs y hfl hsz hy
            · have hmem : MemPlace.cell b i ∈ x.2 := by
                cases hrest : (if spare b then (List.range (cap - len)).mapM fun j => (w.cells? 0 ((⟨b, off, none⟩ : Addr).add ((len + j) * ts.length)) ts.length).bind (DataW.trod enc P w 0 spare held fuel e) else some []) with
                | none => rw [hrest] at h; cases h
                | some rest =>
                  rw [hrest] at h
                  simp only [Option.map_some, Option.some.injEq] at h
                  subst h
                  simp only [List.mem_append]
                  left
                  unfold MemPlace.row
                  rw [List.mem_map]
                  refine ⟨i - off, ?_, by simp only [MemPlace.cell.injEq, true_and]; omega⟩
                  rw [List.mem_range, hel, Nat.add_mul]
                  omega
              have := hnf b i hmem
              intro hh
              simp only [World.frozen?, hb] at this
              simp [hh.1, hh.2] at this
          | _ => simp [hb] at hv0
    · cases h

def enH (N : Nat) (e : TypeId) (vs : List Value) : AHeap := { nw (AHeap.none N) e vs true with base := N + 1 }
theorem enH_next {N : Nat} {e : TypeId} {vs : List Value} : (enH N e vs).next = N + 1 := rfl
theorem enH_bk {N : Nat} {e : TypeId} {vs : List Value} : bk (enH N e vs) N = some ⟨e, true, vs⟩ := by
  have := blk_bk (Blk.nw_new (H := AHeap.none N) e true vs)
  exact this
theorem enH_get {N m : Nat} {e : TypeId} {vs : List Value} (h : m ≠ N) : (enH N e vs).get m = none := by
  have := nw_get (H := AHeap.none N) e vs true (m := m) h
  rw [none_get] at this
  exact this

def enR (N b off : Nat) : Ren := ⟨fun n => if n = N then b else n, fun n => if n = N then off else 0, fun _ => 0, fun _ => .nilIface, fun _ => rfl⟩

theorem rel_en {N b off : Nat} {e : TypeId} {vs : List Value} {c : Array Value} {fz : Nat × Nat} (hN : P.globals.size ≤ N) (hb : w.heap[b]? = some (.cells c e fz)) (hc : ∀ i, i < vs.length → c[off + i]? = some (vs.getD i undef)) (h0 : 0 < vs.length) (ha : afL vs = true) (hf : ∀ i, off ≤ i → i < off + vs.length → ¬ (fz.1 ≤ i ∧ i < fz.2)) :
    Rel P (enR N b off) (enH N e vs) w := by
  have hget : (enH N e vs).get N = some ⟨.cells #[] e, true, RV.ofList vs⟩ := by
    have : (nw (AHeap.none N) e vs true).get N = some ⟨.cells #[] e, true, RV.ofList vs⟩ := by rw [nw, AHeap.get_new, if_pos (show N = (AHeap.none N).next from rfl)]
    exact this
  have hav : ∀ x ∈ vs, af x = true := by
    intro x hx
    clear hc hf hget h0
    induction vs with
    | nil => cases hx
    | cons y ys ih =>
      simp only [afL, Bool.and_eq_true] at ha
      rcases List.mem_cons.1 hx with rfl | hx
      · exact ha.1
      · exact ih ha.2 hx
  have hgd : ∀ i, i < vs.length → af (vs.getD i undef) = true := fun i hi => hav _ (by simp [List.getD_eq_getElem?_getD, List.getElem?_eq_getElem hi])
  refine ⟨Nat.le_refl _, ⟨Nat.le_succ_of_le hN, fun g hg => ?_⟩, fun m n hm hn _ => ?_, fun n o hn => ?_, fun n o hn => ?_⟩
  · have : g ≠ N := by omega
    exact ⟨if_neg this, if_neg this⟩
  · have e1 : m = N := Decidable.byContradiction fun h => hm (enH_get h)
    have e2 : n = N := Decidable.byContradiction fun h => hn (enH_get h)
    rw [e1, e2]
  · by_cases h : n = N
    · subst h
      rw [hget] at hn
      cases hn
      refine ⟨Nat.lt_succ_self _, ?_⟩
      simp only [sco, RV.n_ofList, RV.get_ofList]
      intro i hi
      exact scb_of_af _ (hgd i hi)
    · rw [enH_get h] at hn; cases hn
  · by_cases h : n = N
    · subst h
      rw [hget] at hn
      cases hn
      refine ⟨_, by simp only [enR, if_pos]; exact hb, ?_⟩
      simp only [Fits]
      refine ⟨c, fz, rfl, fun i hi => ?_, fun h => (by cases h), fun _ => ⟨?_, ?_⟩⟩
      · simp only [RV.n_ofList] at hi
        rw [RV.get_ofList, val_af _ _ (hgd i hi)]
        simp only [enR, if_pos]
        rw [Nat.add_comm]
        exact hc i hi
      · simp only [enR, if_pos, RV.n_ofList, Nat.zero_mul, Nat.add_zero]
        have := hc (vs.length - 1) (by omega)
        rcases Nat.lt_or_ge (off + (vs.length - 1)) c.size with h1 | h1
        · omega
        · rw [Array.getElem?_eq_none h1] at this; cases this
      · simp only [enR, if_pos, RV.n_ofList, Nat.zero_mul, Nat.add_zero]
        exact hf
    · rw [enH_get h] at hn; cases hn

theorem rel_calls {f : FuncId} {args : List Value} {H : AHeap} {ρ : Ren} (r : Rel P ρ H w) (hsc : scbL H.next args = true) (hbase : H.base = H.next) (hd : H.dirty = []) (h : CallA P f args H fun out H1 => out = .ok (.bool true) ∧ Mod [] H H1) :
    Calls P f (args.map ρ.val).toArray w (fun e w' => e = .returned (.bool true) ∧ RowKit.Below w.heap.size w w') := by
  obtain ⟨_, H1, hc, rfl, m⟩ := h
  refine (callsIn_wide (n := 0)).1 (hc ρ w r hsc Fence.wide 0 _ wide_wide ?_)
  intro ρ1 w1 s _
  refine ⟨by rw [Ren.val], s.os, s.tape, s.output, s.size, fun b hb => s.old b hb fun n hn hor _ => ?_⟩
  rcases hor with h | h
  · omega
  · rcases m.dirty n h with h | h
    · rw [hd] at h; cases h
    · exact absurd h.1 (by simp)

theorem callS_ans (hmix : P.follows .mixedOrders = true) {L : FuncId → List Value → Option Value} (hK : Known P L) {fuel : Nat} {f : FuncId} {args : List Value} {v : Value} (ha : args.all af = true) (h : ansB P L fuel f args v = true) (H : AHeap) : CallS P f args H (.ok v) H := by
  intro ρ w r hsc F n R hF hR
  rw [map_af ρ args (fun x hx => List.all_eq_true.1 ha x hx)]
  have hv : af v = true := by
    unfold ansB at h
    split at h
    · exact (sameW_eq h).2
    · cases h
  refine (ans_in hmix hK ha h F n w hF).mono ?_
  rintro e w' ⟨rfl, hb⟩
  have := hR ρ w' (St.below r hb) (scb_of_af _ hv)
  rwa [val_af ρ _ hv] at this
end
end Go.Ax

/- The statements' arguments; sequences of acts. -/
namespace Go.Proofs.Ytiedpcmdimgboaa
open Go.Ax
set_option linter.unusedSimpArgs false
set_option maxRecDepth 10000

abbrev True1 (H : AHeap) (out : Out) (H1 : AHeap) : Prop := out = .ok (.bool true) ∧ Mod [] H H1

theorem lives_true : Go.Ax.ansB Try.prog (Go.Ax.lookK []) 1000 9 [] (.bool true) = true := by kernel_rfl
theorem lives_c (H : AHeap) : Pure 9 [] H (.bool true) := callS_ans mixed (known_nil _) rfl lives_true H

def acsOf (l : List Ac) : List Value := l.flatMap Ac.cells
theorem acsOf_length (l : List Ac) : (acsOf l).length = l.length * 5 := by
  induction l with
  | nil => rfl
  | cons r rs ih => simp only [acsOf, List.flatMap_cons, List.length_append] at ih ⊢; rw [ih]; simp only [Ac.cells, List.length_cons, List.length_nil]; omega

def ArgAt (H : AHeap) (v : Value) (l : List Ac) : Prop :=
  ∃ a c, v = .slice a l.length c ∧ (l ≠ [] → ∃ n s e, a = some ⟨n, 0, s⟩ ∧ n < H.next ∧ bk H n = some ⟨e, true, acsOf l⟩)

theorem acs_get : ∀ (l : List Ac) (k : Nat) (p : Ac), l[k]? = some p → ((acsOf l).drop (k * 5)).take 5 = p.cells
  | [], k, p, h => by simp at h
  | q :: ps, 0, p, h => by
    simp only [List.getElem?_cons_zero, Option.some.injEq] at h
    subst h
    simp [acsOf, Ac.cells]
  | q :: ps, k + 1, p, h => by
    have ih := acs_get ps k p (by simpa using h)
    rw [show acsOf (q :: ps) = q.cells ++ acsOf ps from rfl, show (k + 1) * 5 = q.cells.length + k * 5 by simp [Ac.cells]; omega, List.drop_append, List.drop_eq_nil_of_le (by omega), List.nil_append, Nat.add_sub_cancel_left]
    exact ih

theorem acs_load {l : List Ac} {k : Nat} {p : Ac} {e : TypeId} {o : Bool} (h : l[k]? = some p) : ldB Try.prog 31 (0 + k * 5) (some ⟨e, o, acsOf l⟩) = some p.val := by
  have hk : k < l.length := by
    rcases Nat.lt_or_ge k l.length with h' | h'
    · exact h'
    · rw [List.getElem?_eq_none h'] at h; cases h
  have h1 : aggT Try.prog 31 = some true := by kernel_rfl
  have h2 : szOf Try.prog 31 = some 5 := by kernel_rfl
  simp only [ldB, h1, h2, Option.bind_some, Nat.zero_add, acs_get l k p h]
  rw [if_pos (by rw [acsOf_length]; omega)]
  rfl

theorem acs_ia {len cap n : Nat} {s : Option Nat} {i : Int} {k : Nat} (hi : i = k) (hk : k < len) : aIndexAddr Try.prog 22 (.slice (some ⟨n, 0, s⟩) len cap) (.int .i64 i) = some (.pointer (some ⟨n, 0 + k * 5, none⟩)) := by
  subst hi
  rw [ia_slice (e := 31) (sz := 5) (by kernel_rfl) (by kernel_rfl) (by omega) (by omega)]
  simp

structure Live (H X : AHeap) (T : Nat) (x : Wn) (n : Int) : Prop where
  good : Good X T x
  inv : Inv x.abs n
  mod : Mod [] H X
  t : H.next ≤ T
  bl : ∀ m ∈ x.root.blks, H.next ≤ m

theorem Live.step {H X X1 : AHeap} {T : Nat} {x y : Wn} {n m : Int} (l : Live H X T x n) (hok : H.base ≤ H.next) (s : Step X T x X1 y) (hi : Inv y.abs m) : Live H X1 T y m := by
  refine ⟨s.good, hi, l.mod.step s.mod hok (fun k hk => ?_), l.t, fun k hk => ?_⟩
  · rcases List.mem_cons.1 hk with rfl | hk
    · exact .inr l.t
    · exact .inr (l.bl k hk)
  · rcases s.new k hk with h | h
    · exact l.bl k h
    · exact Nat.le_trans l.mod.next h

theorem Live.size {H X : AHeap} {T : Nat} {x : Wn} {n : Int} (l : Live H X T x n) : x.rects.length ≤ 64 := by
  have h := l.inv.cnt
  rw [Atr.ids_length] at h
  have h2 := rects_length x.root x.frame
  show (rects x.root x.frame).length ≤ 64
  rw [h2]
  have : x.root.size = x.abs.root.size := abs_size x.root
  omega
theorem Live.rects {H X : AHeap} {T : Nat} {x : Wn} {n : Int} (_ : Live H X T x n) : x.rects = x.abs.rects := abs_rects x.root x.frame

theorem new_live {H : AHeap} (hok : H.base ≤ H.next) {h w : Int} (hin : inside h w = true) {b : Nat} (hb : H.next = b) : Live H (ext H [⟨65, false, [.int .i64 1]⟩, ⟨69, false, [.iface 63 (.pointer (some ⟨b + 0, 0, none⟩)), .int .i64 h, .int .i64 w, .int .i64 1, .int .i64 1]⟩]) (b + 1) ⟨.leaf (b + 0) 1, h, w, 1, 1⟩ 1 := by
  refine ⟨⟨⟨by rw [bk_at hb (by simp)]; rfl, ?_⟩, by rw [ext_next, hb]; simp, fun n hn => ?_, by simp [Tr.blks], by simp [Tr.blks], (Mod.ext (W := []) hok).ok hok, by simp [Tr.size]⟩, new_inv hin, Mod.ext hok, by omega, fun n hn => ?_⟩
  · show bk _ (b + 0) = _
    rw [bk_at hb (by simp)]; rfl
  · simp only [Tr.blks, List.mem_singleton] at hn
    subst hn
    rw [ext_next, hb]; simp
  · simp only [Tr.blks, List.mem_singleton] at hn
    omega

theorem pick_lt {n k : Int} (h0 : 0 < k) (h1 : k < 1000000) : ∃ j : Nat, pick n k = j ∧ (j : Int) < k := by
  unfold pick
  rw [if_neg (by omega)]
  have h2 := Int.tmod_lt_of_pos n h0
  have h3 : -k < n.tmod k := by
    have := Int.lt_tmod_of_pos n h0
    exact this
  split
  · rw [wrap_sm (n := n.tmod k + k) (by omega) (by omega)]
    exact ⟨(n.tmod k + k).toNat, by omega, by omega⟩
  · exact ⟨(n.tmod k).toNat, by omega, by omega⟩

theorem wrap_succ {k : Nat} (h : k < 1000000) : IntKind.i64.wrap ((k : Int) + 1) = ((k + 1 : Nat) : Int) := by
  have := wrap_sm (n := (k : Int) + 1) (by omega) (by omega)
  rw [show IntKind.i64.wrap ((k : Int) + 1) = _ from this]; omega

end Go.Proofs.Ytiedpcmdimgboaa

/- From what a walk shows to the given statements: arguments, one of which is a slice of structs. -/
namespace Go.Proofs.Ytiedpcmdimgboaa
open Go.ChangeShapes Go.WideShapes Go.ChangeAt Go.RowKit Go.Ax
set_option maxRecDepth 10000

section
variable {P : Program} {w : World} {r : Reach} {base : Nat}
theorem ok_int {t : TypeId} {v : Value} (ht : P.underlying t = some (.int .i64)) (h : Value.okWide P w r base t v) : ∃ n, v = .int .i64 n := by
  unfold Value.okWide at h
  rw [ht] at h
  unfold Cell.okWide Cell.ok at h
  cases v <;> simp [ht] at h
  exact ⟨_, by rw [h.1]⟩
theorem ok_bool {t : TypeId} {v : Value} (ht : P.underlying t = some .bool) (h : Value.okWide P w r base t v) : ∃ b, v = .bool b := by
  unfold Value.okWide at h
  rw [ht] at h
  unfold Cell.okWide Cell.ok at h
  cases v <;> simp [ht] at h
  exact ⟨_, rfl⟩
theorem ok_slice {t e : TypeId} {v : Value} (ht : P.underlying t = some (.slice e)) (h : Value.okWide P w r base t v) : v = .slice none 0 0 ∨ ∃ b off len cap, v = .slice (some ⟨b, off, none⟩) len cap := by
  unfold Value.okWide at h
  rw [ht] at h
  unfold Cell.okWide Cell.ok at h
  cases v with
  | slice a len cap =>
    cases a with
    | none =>
      simp only [ht] at h
      left
      cases len <;> cases cap <;> first | rfl | (simp at h)
    | some a =>
      simp only [ht] at h
      have hs := h.2.2.2.1
      obtain ⟨b, off, s⟩ := a
      simp only at hs
      subst hs
      exact .inr ⟨b, off, len, cap, rfl⟩
  | _ => simp [ht] at h
end

theorem trodAll_carry {K : Type} {enc : TypeId × Value → K} {P : Program} (hl : laidOutB P = true) {W W' : World} (hb : Below W.heap.size W W') : ∀ {ts : List TypeId} {vs : List Value} {ds : List (DataW K)} {ps : List MemPlace},
    (ts.all fun t => P.readableRec t && Nat.blt t P.types.size) = true → DataW.TrodAll enc P W 0 (fun _ => true) true ts vs ds ps → (∀ x ∈ ps, x.block < W.heap.size) → DataW.TrodAll enc P W' 0 (fun b => decide (b < W.heap.size)) true ts vs ds ps
  | [], [], [], ps, _, h, _ => h
  | t :: ts, v :: vs, d :: ds, ps, ht, h, hp => by
    obtain ⟨p, q, h1, h2, rfl⟩ := h
    simp only [List.all_cons, Bool.and_eq_true] at ht
    exact ⟨p, q, Below.trod hl ht.1.1 (blt_lt ht.1.2) h1 hb (fun x hx => hp x (by simp [hx])), trodAll_carry hl hb (by simpa using ht.2) h2 (fun x hx => hp x (by simp [hx])), rfl⟩

theorem Try.own : ownKnob Try.prog.godebug = none := by kernel_rfl
theorem Try.laidOut : laidOutB Try.prog = true := by kernel_rfl
theorem fl31 : flat Try.prog 10000 31 = some [3, 3, 3, 3, 4] := by kernel_rfl
theorem u3 : Try.prog.underlying 3 = some (.int .i64) := by kernel_rfl
theorem u22 : Try.prog.underlying 22 = some (.slice 31) := by kernel_rfl

theorem acs_of : ∀ (n : Nat) (vs : List Value), vs.length = n * 5 → (∀ i, i < n → fits Try.prog [3, 3, 3, 3, 4] ((vs.drop (i * 5)).take 5) = true) → ∃ l : List Ac, l.length = n ∧ acsOf l = vs
  | 0, vs, h, _ => by
    have : vs = [] := List.eq_nil_of_length_eq_zero (by simpa using h)
    subst this
    exact ⟨[], rfl, rfl⟩
  | n + 1, vs, h, hf => by
    have h0 := hf 0 (by omega)
    simp only [Nat.zero_mul, List.drop_zero] at h0
    obtain ⟨l, h1, h2⟩ := acs_of n (vs.drop 5) (by rw [List.length_drop]; omega) (fun i hi => by
      have := hf (i + 1) (by omega)
      rw [List.drop_drop, show 5 + i * 5 = (i + 1) * 5 by omega]
      exact this)
    match vs, h with
    | [], h => simp at h
    | [_], h => simp at h; omega
    | [_, _], h => simp at h; omega
    | [_, _, _], h => simp at h; omega
    | [_, _, _, _], h => simp at h; omega
    | a :: b :: c :: d :: e :: r, h =>
      simp only [List.take_succ_cons, List.take_zero, fits, Bool.and_true, Bool.and_eq_true] at h0
      have hi : ∀ v, fit1 Try.prog 3 v = true → ∃ n, v = .int .i64 n := fun v hv => by
        unfold fit1 at hv
        rw [u3] at hv
        cases v <;> simp at hv
        exact ⟨_, by rw [hv]⟩
      have hb : ∀ v, fit1 Try.prog 4 v = true → ∃ n, v = .bool n := fun v hv => by
        unfold fit1 at hv
        rw [xU4] at hv
        cases v <;> simp at hv
        exact ⟨_, rfl⟩
      obtain ⟨a, rfl⟩ := hi _ h0.1
      obtain ⟨b, rfl⟩ := hi _ h0.2.1
      obtain ⟨c, rfl⟩ := hi _ h0.2.2.1
      obtain ⟨d, rfl⟩ := hi _ h0.2.2.2.1
      obtain ⟨e, rfl⟩ := hb _ h0.2.2.2.2
      refine ⟨⟨a, b, c, d, e⟩ :: l, by simp [h1], ?_⟩
      simp only [List.drop_succ_cons, List.drop_zero] at h2
      simp only [acsOf, List.flatMap_cons, Ac.cells] at h2 ⊢
      rw [h2]
      rfl

theorem entry {K : Type} {enc : TypeId × Value → K} {W : World} {v : Value} {d : DataW K} {p : List MemPlace} {base : Nat} (hok : Value.okWide Try.prog W .any base 22 v) (h : DataW.Trod enc Try.prog W 0 (fun _ => true) true 22 v d p) (hnf : W.noneFrozen p) :
    ∃ (ρ : Ren) (H : AHeap) (u : Value) (l : List Ac), Rel Try.prog ρ H W ∧ H.base = H.next ∧ H.dirty = [] ∧ ρ.val u = v ∧ scb H.next u = true ∧ ArgAt H u l := by
  obtain ⟨N, hN⟩ : ∃ N, Try.prog.globals.size ≤ N := ⟨_, Nat.le_refl _⟩
  rcases ok_slice u22 hok with rfl | ⟨b, off, len, cap, rfl⟩
  · exact ⟨_, _, .slice none 0 0, [], rel_none Try.prog W, rfl, rfl, by rw [Ren.val], rfl, none, 0, rfl, fun h => absurd rfl h⟩
  · obtain ⟨fuel, hf⟩ := h
    obtain ⟨hlc, hh⟩ := trod_slice (ts := [3, 3, 3, 3, 4]) u22 (by kernel_rfl) fl31 hf hnf
    have hval : ∀ N, (enR N b off).val (.slice (some ⟨N, 0, some 0⟩) len cap) = .slice (some ⟨b, off, none⟩) len cap := fun N => by
      simp [Ren.val, enR]
    rcases hh with h0 | ⟨c, e', fz, vs, hb, hvl, hcv, hfit, hfz⟩
    · have hlen : len = 0 := by simp only [List.length_cons, List.length_nil] at h0; omega
      subst hlen
      refine ⟨enR N b off, AHeap.none (N + 1), .slice (some ⟨N, 0, some 0⟩) 0 cap, [], ⟨Nat.le_refl _, ⟨Nat.le_succ_of_le hN, fun g hg => ?_⟩, fun m _ hm => absurd (none_get _ m) hm, fun n o ho => (by rw [none_get] at ho; cases ho), fun n o ho => (by rw [none_get] at ho; cases ho)⟩, rfl, rfl, hval _, blt_of (Nat.lt_succ_self _), _, cap, rfl, fun h => absurd rfl h⟩
      have : g ≠ N := by omega
      exact ⟨if_neg this, if_neg this⟩
    · simp only [List.length_cons, List.length_nil, Nat.reduceAdd] at hvl hfit hfz
      obtain ⟨l, hl, rfl⟩ := acs_of len vs hvl hfit
      by_cases hpos : 0 < (acsOf l).length
      · have haf : afL (acsOf l) = true := by
          clear hvl hfit hfz hcv hpos hl
          induction l with
          | nil => rfl
          | cons a l ih =>
            simp only [acsOf, List.flatMap_cons, Ac.cells, List.cons_append, List.nil_append] at ih ⊢
            simp only [afL, af, ih, Bool.and_self]
        have hr := rel_en (w := W) (e := e') (b := b) (off := off) hN hb hcv hpos haf (fun i h1 h2 => hfz i h1 (by rw [acsOf_length, hl] at h2; exact h2))
        subst hl
        exact ⟨_, _, .slice (some ⟨N, 0, some 0⟩) l.length cap, l, hr, rfl, rfl, hval N, blt_of (Nat.lt_succ_self _), _, cap, rfl, fun _ => ⟨N, some 0, e', rfl, Nat.lt_succ_self _, enH_bk⟩⟩
      · have hl0 : l = [] := List.eq_nil_of_length_eq_zero (by rw [acsOf_length] at hpos; omega)
        subst hl0
        simp only [List.length_nil] at hl
        subst hl
        refine ⟨enR N b off, AHeap.none (N + 1), .slice (some ⟨N, 0, some 0⟩) 0 cap, [], ⟨Nat.le_refl _, ⟨Nat.le_succ_of_le hN, fun g hg => ?_⟩, fun m _ hm => absurd (none_get _ m) hm, fun n o ho => (by rw [none_get] at ho; cases ho), fun n o ho => (by rw [none_get] at ho; cases ho)⟩, rfl, rfl, hval _, blt_of (Nat.lt_succ_self _), _, cap, rfl, fun h => absurd rfl h⟩
        have : g ≠ N := by omega
        exact ⟨if_neg this, if_neg this⟩

theorem law_calls {K : Type} {enc : TypeId × Value → K} {f : FuncId} {W : World} {v : Value} {d : DataW K} {p : List MemPlace} (pre post : List Value) (h1 : pre.all af = true) (h2 : post.all af = true) {base : Nat} (hok : Value.okWide Try.prog W .any base 22 v) (h : DataW.Trod enc Try.prog W 0 (fun _ => true) true 22 v d p) (hnf : W.noneFrozen p)
    (walk : ∀ (u : Value) (l : List Ac) (H : AHeap), H.base ≤ H.next → ArgAt H u l → CallA Try.prog f (pre ++ u :: post) H (True1 H)) :
    Calls Try.prog f (pre ++ v :: post).toArray W (fun e w' => e = .returned (.bool true) ∧ RowKit.Below W.heap.size W w') := by
  obtain ⟨ρ, H, u, l, hr, hb, hd, rfl, hs, ha⟩ := entry hok h hnf
  have e1 : ∀ l : List Value, l.all af = true → l.map ρ.val = l := fun l hl => map_af ρ l (fun x hx => List.all_eq_true.1 hl x hx)
  have s1 : ∀ l : List Value, l.all af = true → scbL H.next l = true := fun l hl => scbL_of_af _ (afL_of fun x hx => List.all_eq_true.1 hl x hx)
  have := rel_calls hr (args := pre ++ u :: post) (scbL_append (s1 _ h1) (by simp only [scbL, hs, s1 _ h2, Bool.and_self])) hb hd (walk u l H (Nat.le_of_eq hb) ha)
  rw [List.map_append, List.map_cons, e1 _ h1, e1 _ h2] at this
  exact this

end Go.Proofs.Ytiedpcmdimgboaa

/- The reference's frames on the heap. -/
namespace Go.Proofs.Ytiedpcmdimgboaa
open Go.Ax
set_option linter.unusedSimpArgs false
set_option maxRecDepth 10000

inductive Rr where
  | leaf (n : Nat) (id : Int)
  | split (n : Nat) (be : Bool) (f : Int) (l r : Rr)
def Rr.root : Rr → Nat
  | .leaf n _ => n
  | .split n _ _ _ _ => n
def Rr.val (t : Rr) : Value := .pointer (some ⟨t.root, 0, none⟩)
def Rr.abs : Rr → Atr
  | .leaf _ id => .leaf id
  | .split _ be f l r => .split be f l.abs r.abs
def Rr.blks : Rr → List Nat
  | .leaf n _ => [n]
  | .split n _ _ l r => n :: (l.blks ++ r.blks)
def RefAt (H : AHeap) : Rr → Prop
  | .leaf n id => ∃ be f, bk H n = some ⟨100, false, [.int .i64 id, .bool be, .int .i64 f, .pointer none, .pointer none]⟩
  | .split n be f l r => (∃ id, bk H n = some ⟨100, false, [.int .i64 id, .bool be, .int .i64 f, l.val, r.val]⟩) ∧ RefAt H l ∧ RefAt H r

theorem RefAt.ne {H : AHeap} : ∀ {t : Rr}, RefAt H t → ∀ n ∈ t.blks, H.get n ≠ none
  | .leaf n id, h, m, hm => by
    obtain ⟨be, f, h⟩ := h
    simp only [Rr.blks, List.mem_singleton] at hm
    subst hm
    exact bk_ne h
  | .split n be f l r, ⟨⟨id, h⟩, hl, hr⟩, m, hm => by
    simp only [Rr.blks, List.mem_cons, List.mem_append] at hm
    rcases hm with rfl | hm | hm
    · exact bk_ne h
    · exact hl.ne m hm
    · exact hr.ne m hm
theorem RefAt.of {H G : AHeap} : ∀ {t : Rr}, RefAt H t → (∀ n ∈ t.blks, G.get n = H.get n) → RefAt G t
  | .leaf n id, ⟨be, f, h⟩, hg => ⟨be, f, (bk_get (hg n (by simp [Rr.blks]))).trans h⟩
  | .split n be f l r, ⟨⟨id, h⟩, hl, hr⟩, hg => ⟨⟨id, (bk_get (hg n (by simp [Rr.blks]))).trans h⟩, hl.of fun m hm => hg m (by simp [Rr.blks, hm]), hr.of fun m hm => hg m (by simp [Rr.blks, hm])⟩

theorem rbar_c (be : Bool) (H : AHeap) : Pure 78 [.bool be] H (.int .i64 (bar be)) := by
  refine callS_fn mixed Try.func78 rfl Try.ntmps78 (Nat.le_of_ble_eq_true rfl) fun wf hsc => ?_
  cases be with
  | true =>
    simp (maxDischargeDepth := 6) only [Try.results78, ruW, putL, Nat.reduceLeDiff, xF, ruU, entryE, Nat.reduceLT, Nat.reduceAdd, Nat.reduceMul, Nat.reduceEqDiff]
    exact Fin.pure rfl
  | false =>
    simp (maxDischargeDepth := 6) only [Try.results78, ruW, putL, Nat.reduceLeDiff, xF, ruU, entryE, Nat.reduceLT, Nat.reduceAdd, Nat.reduceMul, Nat.reduceEqDiff]
    exact Fin.pure rfl

theorem rsize_c (r : Rc) (be : Bool) (H : AHeap) : Pure 77 [r.val, .bool be] H (.int .i64 (r.size be)) := by
  obtain ⟨b, hb⟩ : ∃ b, H.next = b := ⟨_, rfl⟩
  refine callS_fn mixed Try.func77 rfl Try.ntmps77 (Nat.le_of_ble_eq_true rfl) fun wf hsc => ?_
  have hbase : H.base ≤ b := hb ▸ wf.base
  cases be with
  | true =>
    simp (maxDischargeDepth := 6) only [Rc.val, hb, hbase, Try.results77, ruW, putL, Nat.reduceLeDiff, xF, ruU, entryE, Nat.reduceLT, Nat.reduceAdd, Nat.reduceMul, Nat.reduceEqDiff]
    exact Fin.pure rfl
  | false =>
    simp (maxDischargeDepth := 6) only [Rc.val, hb, hbase, Try.results77, ruW, putL, Nat.reduceLeDiff, xF, ruU, entryE, Nat.reduceLT, Nat.reduceAdd, Nat.reduceMul, Nat.reduceEqDiff]
    exact Fin.pure rfl

theorem pn58 {H : AHeap} : aBin Try.prog H .eql 58 (.pointer none) (.pointer none) = some (.bool true) := by
  simp only [aBin, aBinAddr]
  rfl
theorem pp58 {H : AHeap} {n off : Nat} : aBin Try.prog H .eql 58 (.pointer (some ⟨n, off, none⟩)) (.pointer none) = some (.bool false) := by
  simp only [aBin, aBinAddr]
  rfl

theorem rleast_c (be : Bool) : ∀ (t : Rr) (H : AHeap), RefAt H t → Pure 80 [t.val, .bool be] H (.int .i64 (t.abs.least be))
  | .leaf n id, H, ⟨b1, f1, h⟩ => by
    obtain ⟨b, hb⟩ : ∃ b, H.next = b := ⟨_, rfl⟩
    refine callS_fn mixed Try.func80 rfl Try.ntmps80 (Nat.le_of_ble_eq_true rfl) fun wf hsc => ?_
    have hlt : n < b := hb ▸ wf.lt h
    cases be with
    | true =>
      simp (maxDischargeDepth := 6) only [Rr.val, Rr.root, hb, hlt, h, pn58, Try.results80, ruW, putL, Nat.reduceLeDiff, xF, ruU, entryE, Nat.reduceLT, Nat.reduceAdd, Nat.reduceMul, Nat.reduceEqDiff]
      exact Fin.pure rfl
    | false =>
      simp (maxDischargeDepth := 6) only [Rr.val, Rr.root, hb, hlt, h, pn58, Try.results80, ruW, putL, Nat.reduceLeDiff, xF, ruU, entryE, Nat.reduceLT, Nat.reduceAdd, Nat.reduceMul, Nat.reduceEqDiff]
      exact Fin.pure rfl
  | .split n bb f l r, H, ⟨⟨id, h⟩, hl, hr⟩ => by
    have ihl := rleast_c be l
    have ihr := rleast_c be r
    obtain ⟨b, hb⟩ : ∃ b, H.next = b := ⟨_, rfl⟩
    refine callS_fn mixed Try.func80 rfl Try.ntmps80 (Nat.le_of_ble_eq_true rfl) fun wf hsc => ?_
    have hlt : n < b := hb ▸ wf.lt h
    simp only [Rr.val, Rr.root] at h ihl ihr
    simp (maxDischargeDepth := 6) only [Rr.val, Rr.root, hb, hlt, h, pp58, ruW, putL, Nat.reduceLeDiff, xF, ruU, entryE, Nat.reduceLT, Nat.reduceAdd, Nat.reduceMul, Nat.reduceEqDiff]
    refine w_drawB [] [] (by kernel_rfl) rfl rfl fun ops anc hA hG => ?_
    simp (maxDischargeDepth := 6) only [hb, hlt, h, ruD, ruW, putL, Nat.reduceLeDiff, xF, ruU, entryE, Nat.reduceLT, Nat.reduceAdd, Nat.reduceMul, Nat.reduceEqDiff]
    refine genV_quiet (v := .int .i64 (l.abs.least be)) l.blks (by simp (maxDischargeDepth := 6) only [ruU, entryE, Nat.reduceLT, Nat.reduceAdd, Nat.reduceMul, Nat.reduceEqDiff]) (by kernel_rfl) (by decide) (hl.ne) (fun G _ hg => ?_) (by simp (maxDischargeDepth := 6) only [ruD, ruW, putL, Nat.reduceLeDiff, xF, ruU, entryE, Nat.reduceLT, Nat.reduceAdd, Nat.reduceMul, Nat.reduceEqDiff]) ?_
    · simp only [ruU, entryE, Nat.reduceLT, Nat.reduceAdd, Nat.reduceMul, Nat.reduceEqDiff]
      exact ihl G (hl.of hg)
    simp (maxDischargeDepth := 6) only [hb, hlt, h, ruD, ruW, putL, Nat.reduceLeDiff, xF, ruU, entryE, Nat.reduceLT, Nat.reduceAdd, Nat.reduceMul, Nat.reduceEqDiff]
    refine genV_quiet (v := .int .i64 (r.abs.least be)) r.blks (by simp (maxDischargeDepth := 6) only [ruU, entryE, Nat.reduceLT, Nat.reduceAdd, Nat.reduceMul, Nat.reduceEqDiff]) (by kernel_rfl) (by decide) (hr.ne) (fun G _ hg => ?_) (by simp (maxDischargeDepth := 6) only [ruD, ruW, putL, Nat.reduceLeDiff, xF, ruU, entryE, Nat.reduceLT, Nat.reduceAdd, Nat.reduceMul, Nat.reduceEqDiff]) ?_
    · simp only [ruU, entryE, Nat.reduceLT, Nat.reduceAdd, Nat.reduceMul, Nat.reduceEqDiff]
      exact ihr G (hr.of hg)
    simp (maxDischargeDepth := 6) only [hb, hlt, h, ruD, ruW, putL, Nat.reduceLeDiff, xF, ruU, entryE, Nat.reduceLT, Nat.reduceAdd, Nat.reduceMul, Nat.reduceEqDiff]
    by_cases e : bb = be
    · simp (maxDischargeDepth := 6) only [e, decide_true, ruW, putL, Nat.reduceLeDiff, xF, ruU, entryE, Nat.reduceLT, Nat.reduceAdd, Nat.reduceMul, Nat.reduceEqDiff]
      refine (rbar_c be (ext H [])).to ?_
      simp (maxDischargeDepth := 6) only [Rr.abs, Atr.least, e, if_true, Try.results80, ruW, putL, Nat.reduceLeDiff, xF, ruU, entryE, Nat.reduceLT, Nat.reduceAdd, Nat.reduceMul, Nat.reduceEqDiff]
      exact Fin.pure rfl
    · simp (maxDischargeDepth := 6) only [e, decide_false, Rr.abs, Atr.least, if_false, Try.results80, ruW, putL, Nat.reduceLeDiff, xF, ruU, entryE, Nat.reduceLT, Nat.reduceAdd, Nat.reduceMul, Nat.reduceEqDiff]
      exact Fin.pure rfl

theorem rweight_c (be : Bool) : ∀ (t : Rr) (H : AHeap), RefAt H t → Pure 89 [t.val, .bool be] H (.int .i64 (t.abs.weight be))
  | .leaf n id, H, ⟨b1, f1, h⟩ => by
    obtain ⟨b, hb⟩ : ∃ b, H.next = b := ⟨_, rfl⟩
    refine callS_fn mixed Try.func89 rfl Try.ntmps89 (Nat.le_of_ble_eq_true rfl) fun wf hsc => ?_
    have hlt : n < b := hb ▸ wf.lt h
    simp (maxDischargeDepth := 6) only [Rr.val, Rr.root, hb, hlt, h, pn58, Try.results89, ruW, putL, Nat.reduceLeDiff, xF, ruU, entryE, Nat.reduceLT, Nat.reduceAdd, Nat.reduceMul, Nat.reduceEqDiff]
    exact Fin.pure rfl
  | .split n bb f l r, H, ⟨⟨id, h⟩, hl, hr⟩ => by
    have ihl := rweight_c be l
    have ihr := rweight_c be r
    obtain ⟨b, hb⟩ : ∃ b, H.next = b := ⟨_, rfl⟩
    refine callS_fn mixed Try.func89 rfl Try.ntmps89 (Nat.le_of_ble_eq_true rfl) fun wf hsc => ?_
    have hlt : n < b := hb ▸ wf.lt h
    simp only [Rr.val, Rr.root] at h ihl ihr
    simp (maxDischargeDepth := 6) only [Rr.val, Rr.root, hb, hlt, h, pp58, ruW, putL, Nat.reduceLeDiff, xF, ruU, entryE, Nat.reduceLT, Nat.reduceAdd, Nat.reduceMul, Nat.reduceEqDiff]
    refine w_drawB [] [] (by kernel_rfl) rfl rfl fun ops anc hA hG => ?_
    simp (maxDischargeDepth := 6) only [hb, hlt, h, ruD, ruW, putL, Nat.reduceLeDiff, xF, ruU, entryE, Nat.reduceLT, Nat.reduceAdd, Nat.reduceMul, Nat.reduceEqDiff]
    refine genV_quiet (v := .int .i64 (l.abs.weight be)) l.blks (by simp (maxDischargeDepth := 6) only [ruU, entryE, Nat.reduceLT, Nat.reduceAdd, Nat.reduceMul, Nat.reduceEqDiff]) (by kernel_rfl) (by decide) (hl.ne) (fun G _ hg => ?_) (by simp (maxDischargeDepth := 6) only [ruD, ruW, putL, Nat.reduceLeDiff, xF, ruU, entryE, Nat.reduceLT, Nat.reduceAdd, Nat.reduceMul, Nat.reduceEqDiff]) ?_
    · simp only [ruU, entryE, Nat.reduceLT, Nat.reduceAdd, Nat.reduceMul, Nat.reduceEqDiff]
      exact ihl G (hl.of hg)
    simp (maxDischargeDepth := 6) only [hb, hlt, h, ruD, ruW, putL, Nat.reduceLeDiff, xF, ruU, entryE, Nat.reduceLT, Nat.reduceAdd, Nat.reduceMul, Nat.reduceEqDiff]
    refine genV_quiet (v := .int .i64 (r.abs.weight be)) r.blks (by simp (maxDischargeDepth := 6) only [ruU, entryE, Nat.reduceLT, Nat.reduceAdd, Nat.reduceMul, Nat.reduceEqDiff]) (by kernel_rfl) (by decide) (hr.ne) (fun G _ hg => ?_) (by simp (maxDischargeDepth := 6) only [ruD, ruW, putL, Nat.reduceLeDiff, xF, ruU, entryE, Nat.reduceLT, Nat.reduceAdd, Nat.reduceMul, Nat.reduceEqDiff]) ?_
    · simp only [ruU, entryE, Nat.reduceLT, Nat.reduceAdd, Nat.reduceMul, Nat.reduceEqDiff]
      exact ihr G (hr.of hg)
    simp (maxDischargeDepth := 6) only [hb, hlt, h, ruD, ruW, putL, Nat.reduceLeDiff, xF, ruU, entryE, Nat.reduceLT, Nat.reduceAdd, Nat.reduceMul, Nat.reduceEqDiff]
    by_cases e : bb = be
    · simp (maxDischargeDepth := 6) only [e, decide_true, Rr.abs, Atr.weight, if_true, Try.results89, ruW, putL, Nat.reduceLeDiff, xF, ruU, entryE, Nat.reduceLT, Nat.reduceAdd, Nat.reduceMul, Nat.reduceEqDiff]
      exact Fin.pure rfl
    · simp (maxDischargeDepth := 6) only [e, decide_false, Rr.abs, Atr.weight, if_false, Try.results89, ruW, putL, Nat.reduceLeDiff, xF, ruU, entryE, Nat.reduceLT, Nat.reduceAdd, Nat.reduceMul, Nat.reduceEqDiff]
      exact Fin.pure rfl

theorem rhas_c (i : Int) : ∀ (t : Rr) (H : AHeap), RefAt H t → Pure 84 [t.val, .int .i64 i] H (.bool (decide (i ∈ t.abs.ids)))
  | .leaf n id, H, ⟨b1, f1, h⟩ => by
    obtain ⟨b, hb⟩ : ∃ b, H.next = b := ⟨_, rfl⟩
    refine callS_fn mixed Try.func84 rfl Try.ntmps84 (Nat.le_of_ble_eq_true rfl) fun wf hsc => ?_
    have hlt : n < b := hb ▸ wf.lt h
    have e : decide (i ∈ (Rr.leaf n id).abs.ids) = decide (id = i) := by
      simp only [Rr.abs, Atr.ids, List.mem_singleton, eq_comm]
    rw [e]
    simp (maxDischargeDepth := 6) only [Rr.val, Rr.root, hb, hlt, h, pn58, Try.results84, ruW, putL, Nat.reduceLeDiff, xF, ruU, entryE, Nat.reduceLT, Nat.reduceAdd, Nat.reduceMul, Nat.reduceEqDiff]
    exact Fin.pure rfl
  | .split n bb f l r, H, ⟨⟨id, h⟩, hl, hr⟩ => by
    have ihl := rhas_c i l
    have ihr := rhas_c i r
    obtain ⟨b, hb⟩ : ∃ b, H.next = b := ⟨_, rfl⟩
    refine callS_fn mixed Try.func84 rfl Try.ntmps84 (Nat.le_of_ble_eq_true rfl) fun wf hsc => ?_
    have hlt : n < b := hb ▸ wf.lt h
    have e : decide (i ∈ (Rr.split n bb f l r).abs.ids) = (decide (i ∈ l.abs.ids) || decide (i ∈ r.abs.ids)) := by
      simp only [Rr.abs, Atr.ids, List.mem_append, Bool.decide_or]
    rw [e]
    simp only [Rr.val, Rr.root] at h ihl ihr
    simp (maxDischargeDepth := 6) only [Rr.val, Rr.root, hb, hlt, h, pp58, ruW, putL, Nat.reduceLeDiff, xF, ruU, entryE, Nat.reduceLT, Nat.reduceAdd, Nat.reduceMul, Nat.reduceEqDiff]
    refine (ihl (ext H []) hl).to ?_
    cases hd : decide (i ∈ l.abs.ids) with
    | true =>
      simp (maxDischargeDepth := 6) only [hb, hlt, h, Bool.true_or, Try.results84, ruW, putL, Nat.reduceLeDiff, xF, ruU, entryE, Nat.reduceLT, Nat.reduceAdd, Nat.reduceMul, Nat.reduceEqDiff]
      exact Fin.pure rfl
    | false =>
      simp (maxDischargeDepth := 6) only [hb, hlt, h, Bool.false_or, Try.results84, ruW, putL, Nat.reduceLeDiff, xF, ruU, entryE, Nat.reduceLT, Nat.reduceAdd, Nat.reduceMul, Nat.reduceEqDiff]
      refine (ihr (ext H []) hr).to ?_
      simp (maxDischargeDepth := 6) only [hb, hlt, h, Try.results84, ruW, putL, Nat.reduceLeDiff, xF, ruU, entryE, Nat.reduceLT, Nat.reduceAdd, Nat.reduceMul, Nat.reduceEqDiff]
      exact Fin.pure rfl

end Go.Proofs.Ytiedpcmdimgboaa

/- Frames without blocks: what Split does. -/
namespace Go.Proofs.Ytiedpcmdimgboaa
open Go.Ax
set_option linter.unusedSimpArgs false

namespace Atr
theorem set_set : ∀ (t : Atr) (d : List Bool) (s n m : Atr), sub t d = some s → set (set t d n) d m = set t d m
  | t, [], s, n, m, _ => by rw [set_nil, set_nil]
  | .split be f l r, false :: d, s, n, m, h => by simp only [set, set_set l d s n m h]
  | .split be f l r, true :: d, s, n, m, h => by simp only [set, set_set r d s n m h]
  | .leaf _, _ :: _, _, _, _, h => by rw [sub_leaf] at h; cases h
theorem set_self : ∀ (t : Atr) (d : List Bool) (s : Atr), sub t d = some s → set t d s = t
  | t, [], s, h => by rw [sub_nil] at h; cases h; rw [set_nil]
  | .split be f l r, false :: d, s, h => by simp only [set, set_self l d s h]
  | .split be f l r, true :: d, s, h => by simp only [set, set_self r d s h]
  | .leaf _, _ :: _, _, h => by rw [sub_leaf] at h; cases h
theorem find_not (id : Int) : ∀ t : Atr, id ∉ t.ids → find id t = none
  | .leaf i, h => by
    simp only [ids, List.mem_singleton] at h
    simp only [find, if_neg (Ne.symm h)]
  | .split _ _ l r, h => by
    simp only [ids, List.mem_append, not_or] at h
    simp only [find, find_not id l h.1, find_not id r h.2]
theorem find_new (id : Int) : ∀ (t : Atr) (d : List Bool) (s n : Atr) (e : List Bool), sub t d = some s → id ∉ t.ids → find id n = some e → find id (set t d n) = some (d ++ e)
  | t, [], s, n, e, _, _, h => by rw [set_nil, h]; rfl
  | .split be f l r, false :: d, s, n, e, hs, hi, h => by
    simp only [ids, List.mem_append, not_or] at hi
    simp only [set, find, find_new id l d s n e hs hi.1 h]
    rfl
  | .split be f l r, true :: d, s, n, e, hs, hi, h => by
    simp only [ids, List.mem_append, not_or] at hi
    simp only [set, find, find_not id l hi.1, find_new id r d s n e hs hi.2 h]
    rfl
  | .leaf _, _ :: _, _, _, _, h, _, _ => by rw [sub_leaf] at h; cases h
end Atr

theorem rectOf_uniq : ∀ {l : List Rc} {x : Rc}, (l.map Rc.id).Nodup → x ∈ l → rectOf x.id l = (x, true)
  | [], _, _, h => by cases h
  | y :: l, x, hn, h => by
    simp only [List.map_cons, List.nodup_cons, List.mem_map, not_exists, not_and] at hn
    unfold rectOf
    rcases List.mem_cons.1 h with rfl | h
    · simp [List.find?_cons, hasId]
    · have hne : ¬ y.id = x.id := fun e => hn.1 x h e.symm
      have := rectOf_uniq hn.2 h
      unfold rectOf at this
      simp only [List.find?_cons, hasId, hne, decide_false]
      exact this

theorem rects_nodup {s : Ast} {n : Int} (v : Inv s n) : (s.rects.map Rc.id).Nodup := by
  rw [show s.rects = s.root.rects s.frame from rfl, Atr.rects_ids]; exact v.nd

theorem ixOf_mid {pre post : List Rc} {x : Rc} (h : ∀ y ∈ pre, y.id ≠ x.id) : ixOf x.id (pre ++ x :: post) = some pre.length := by
  induction pre with
  | nil => simp [ixOf, List.findIdx?_cons]
  | cons y pre ih =>
    have h1 := h y (by simp)
    have ih := ih (fun z hz => h z (by simp [hz]))
    unfold ixOf at ih ⊢
    simp only [List.cons_append, List.findIdx?_cons, h1, decide_false, Bool.false_eq_true, if_false, ih, Option.map_some, List.length_cons]

theorem split_law {s : Ast} {n : Int} (v : Inv s n) (hn : n ≤ 100000) {r : Rc} (h : r ∈ s.rects) (be : Bool) (k : Int) :
    ((s.split r.id be k).2.1 ≠ 0 ∧ (s.split r.id be k).1 = 0 ∧ (s.split r.id be k).2.2.rects = s.rects) ∨
    ∃ pre post a b, (s.split r.id be k).2.1 = 0 ∧ s.rects = pre ++ r :: post ∧ (s.split r.id be k).2.2.rects = pre ++ a :: b :: post ∧ a.id = r.id ∧ b.id = (s.split r.id be k).1 ∧ (s.split r.id be k).1 ∉ s.rects.map Rc.id ∧
      w64 (a.size be + b.size be) + bar be = r.size be ∧ (k > 0 → b.size be = k) ∧ (s.split r.id be k).2.2.sel = s.sel ∧ ((s.split r.id be k).2.2.delete (s.split r.id be k).1).1 = 0 ∧ ((s.split r.id be k).2.2.delete (s.split r.id be k).1).2.rects = s.rects ∧ ((s.split r.id be k).2.2.delete (s.split r.id be k).1).2.sel = s.sel := by
  obtain ⟨d, hd, hr⟩ := row_find v h
  unfold Ast.split
  rw [hd]
  dsimp only
  split
  · exact .inl ⟨by simp, rfl, rfl⟩
  split
  · exact .inl ⟨by simp, rfl, rfl⟩
  split
  · exact .inl ⟨by simp, rfl, rfl⟩
  rename_i hc hk hr0
  right
  simp only [not_or, Int.not_lt] at hr0
  obtain ⟨h1, h2, h3⟩ := hr0
  have hs := Atr.find_sub r.id s.root d hd
  obtain ⟨f0, l0⟩ := Atr.at_fits s.root d _ s.frame hs v.fit (fun b => by have := v.size b; omega)
  obtain ⟨pre, post, e1, e2⟩ := Atr.rects_ctx _ _ _ s.frame hs
  have hl := v.lst
  have hlast : w64 (s.last + 1) = s.last + 1 := wrap_sm (by omega) (by omega)
  rw [hlast]
  have hsN : s.splitN d be k = if k = 0 then w64 ((s.splitW d be).tdiv 2) else k := rfl
  have hbar : 0 ≤ bar be ∧ bar be ≤ 1 := by cases be <;> decide
  have hmin : 2 ≤ mins be := by cases be <;> decide
  have hb := l0 be
  have hvs := v.size be
  have hp := Atr.dims_pos f0 be
  have hW : s.splitW d be = (s.root.rectAt s.frame d).size be - bar be := wrap_sm (by omega) (by omega)
  generalize hD : s.root.rectAt s.frame d = D at *
  generalize hm : s.splitN d be k = m at *
  rw [hW] at h1 h3
  rw [show s.splitW d be = D.size be - bar be from hW]
  have hwm : w64 (D.size be - bar be - m) = D.size be - bar be - m := wrap_sm (by omega) (by omega)
  rw [hwm] at h3 ⊢
  generalize hf : D.size be - bar be - m = f at *
  have hnew : s.last + 1 ∉ s.root.ids := fun h => by have := v.rng _ h; omega
  have hB : (partB be f D).size be = D.size be - f - bar be := by
    have := congrFun (partB_dim (be := be) (f := f) (r := D) (by omega) (by omega) (by omega) (by omega)) be
    rw [Dim.set_same] at this
    exact this
  have hrD : r.size be = D.size be := by rw [hr]; cases be <;> rfl
  refine ⟨pre, post, { partA be f D with id := r.id }, { partB be f D with id := s.last + 1 }, rfl, ?_, ?_, rfl, rfl, ?_, ?_, ?_, rfl, ?_⟩
  · show s.root.rects s.frame = _
    rw [e1]
    simp only [Atr.rects, List.singleton_append]
    rw [← hr]
  · show Atr.rects (s.root.set d _) s.frame = _
    rw [e2]
    simp only [Atr.rects, List.cons_append, List.nil_append]
  · rw [show s.rects = s.root.rects s.frame from rfl, Atr.rects_ids]
    exact hnew
  · show w64 (Rc.size { partA be f D with id := r.id } be + Rc.size { partB be f D with id := s.last + 1 } be) + bar be = r.size be
    rw [show Rc.size { partA be f D with id := r.id } be = (partA be f D).size be by cases be <;> rfl, show Rc.size { partB be f D with id := s.last + 1 } be = (partB be f D).size be by cases be <;> rfl, Atr.partA_same, hB, hrD, wrap_sm (by omega) (by omega)]
    omega
  · intro hk0
    show Rc.size { partB be f D with id := s.last + 1 } be = k
    rw [show Rc.size { partB be f D with id := s.last + 1 } be = (partB be f D).size be by cases be <;> rfl, hB]
    rw [if_neg (by omega)] at hsN
    omega
  · have hfn : Atr.find (s.last + 1) (s.root.set d (.split be f (.leaf r.id) (.leaf (s.last + 1)))) = some (d ++ [true]) := by
      refine Atr.find_new (s.last + 1) s.root d _ _ [true] hs hnew ?_
      have hne : ¬ r.id = s.last + 1 := fun e => hnew (by
        obtain ⟨p1, p2, q1, _⟩ := Atr.ctx _ _ _ hs
        rw [← e, q1]; simp [Atr.ids])
      simp only [Atr.find, if_neg hne, if_true]
    unfold Ast.delete
    dsimp only
    rw [hfn]
    dsimp only
    rw [if_neg (by simp)]
    rw [List.dropLast_concat, Atr.sub_set _ _ _ _ hs]
    dsimp only
    rw [List.getLast?_concat]
    have hsl : ¬ s.sel = s.last + 1 := fun e => hnew (e ▸ v.sel)
    refine ⟨rfl, ?_, ?_⟩
    · show Atr.rects (Atr.set _ _ _) s.frame = _
      rw [Atr.set_set _ _ _ _ _ hs]
      show Atr.rects (s.root.set d ((Atr.leaf r.id).resize be _ _)) s.frame = _
      rw [show ∀ o n, (Atr.leaf r.id).resize be o n = .leaf r.id from fun _ _ => rfl, Atr.set_self _ _ _ hs]
      rfl
    · show (if s.sel = s.last + 1 then _ else s.sel) = s.sel
      rw [if_neg hsl]

end Go.Proofs.Ytiedpcmdimgboaa

/- The reference's way to resize a frame without blocks, and the program's: they agree on frames that fit. -/
namespace Go.Proofs.Ytiedpcmdimgboaa
open Go.Ax
set_option linter.unusedSimpArgs false

namespace Atr
def rresize (be : Bool) (old now : Int) : Atr → Atr
  | .leaf id => .leaf id
  | .split bb f l r =>
    if bb = be then
      let second := w64 (w64 (old - f) - bar be)
      let less := max 0 (w64 (old - now))
      let take := min less (w64 (second - r.least be))
      let after := w64 (w64 (second + max 0 (w64 (now - old))) - take)
      let f' := w64 (f - w64 (less - take))
      .split bb f' (l.rresize be f f') (r.rresize be second after)
    else .split bb f (l.rresize be old now) (r.rresize be old now)

theorem rs_arith {o n f br m M : Int} (hM : M = max (n - f - br) m) (ho : 0 ≤ o ∧ o ≤ 100000) (hn : 0 ≤ n ∧ n ≤ 100000) (hf : 0 ≤ f ∧ f ≤ 100000) (hb : 0 ≤ br ∧ br ≤ 1) (hm : 0 ≤ m) (h1 : m ≤ o - f - br) (h2 : m + br ≤ n) :
    w64 (w64 (o - f - br + max 0 (n - o)) - min (max 0 (o - n)) (o - f - br - m)) = M ∧ w64 (f - w64 (max 0 (o - n) - min (max 0 (o - n)) (o - f - br - m))) = n - M - br := by
  obtain ⟨A, hA⟩ : ∃ A, max 0 (n - o) = A := ⟨_, rfl⟩
  obtain ⟨B, hB⟩ : ∃ B, max 0 (o - n) = B := ⟨_, rfl⟩
  obtain ⟨T, hT⟩ : ∃ T, min B (o - f - br - m) = T := ⟨_, rfl⟩
  rw [hA, hB, hT]
  have k : (A = 0 ∧ B = o - n) ∨ (A = n - o ∧ B = 0) := by omega
  have k2 : 0 ≤ T ∧ T ≤ B := by omega
  have k3 : 0 ≤ A ∧ A ≤ 100000 := by omega
  have k4 : 0 ≤ B ∧ B ≤ 100000 := by omega
  have e1 : o - f - br + A - T = M := by omega
  have e2 : f - (B - T) = n - M - br := by omega
  clear hA hB hT hM
  rw [wrap_sm (n := o - f - br + A) (by omega) (by omega), wrap_sm (n := B - T) (by omega) (by omega), wrap_sm (n := o - f - br + A - T) (by omega) (by omega), wrap_sm (n := f - (B - T)) (by omega) (by omega)]
  exact ⟨e1, e2⟩

theorem rresize_eq (be : Bool) : ∀ (t : Atr) (d : Dim) (now : Int), t.fits d → t.size < 1000 → d be ≤ 100000 → now ≤ 100000 → lst be t ≤ now → t.rresize be (d be) now = t.resize be (d be) now
  | .leaf _, d, now, h, _, _, _, hn => rfl
  | .split bb f l r, d, now, h, hs, hd, hnw, hn => by
    simp only [size] at hs
    have hl := fits_lst l _ h.1
    have hr := fits_lst r _ h.2
    have pl := lst_pos be l
    have pr := lst_pos be r
    simp only [lst] at hn
    simp only [resize, rresize]
    by_cases hb : bb = be
    · subst hb
      rw [if_pos rfl] at hn
      rw [if_pos rfl, if_pos rfl]
      have hl' := hl bb
      have hr' := hr bb
      rw [Dim.set_same] at hl' hr'
      have hbar : 0 ≤ bar bb ∧ bar bb ≤ 1 := by cases bb <;> decide
      have w1 : w64 (w64 (d bb - f) - bar bb) = d bb - f - bar bb := by rw [wrap_sm (n := d bb - f) (by omega) (by omega), wrap_sm (by omega) (by omega)]
      have w2 : w64 (w64 (d bb - f - bar bb + now) - d bb) = now - f - bar bb := by rw [wrap_sm (n := d bb - f - bar bb + now) (by omega) (by omega), wrap_sm (by omega) (by omega)]; omega
      have w4 : w64 (d bb - now) = d bb - now := wrap_sm (by omega) (by omega)
      have w5 : w64 (now - d bb) = now - d bb := wrap_sm (by omega) (by omega)
      have w6 : w64 (d bb - f - bar bb - lst bb r) = d bb - f - bar bb - lst bb r := wrap_sm (by omega) (by omega)
      simp only [w1, w2, w4, w5, least_eq bb r (by omega), w6]
      generalize hlb : lst bb r = m at *
      obtain ⟨M, hM⟩ : ∃ M, M = max (now - f - bar bb) m := ⟨_, rfl⟩
      obtain ⟨w8, w10⟩ := rs_arith hM (o := d bb) (n := now) (f := f) (br := bar bb) (m := m) (by omega) (by omega) (by omega) hbar (by omega) (by omega) (by omega)
      rw [← hM, w8, w10]
      have hMb : m ≤ M ∧ M ≤ 100000 ∧ lst bb l ≤ now - M - bar bb ∧ now - M - bar bb ≤ 100000 := by omega
      clear hM w8 w10
      have w3 : w64 (w64 (now - M) - bar bb) = now - M - bar bb := by rw [wrap_sm (n := now - M) (by omega) (by omega), wrap_sm (by omega) (by omega)]
      rw [w3]
      have i1 := rresize_eq bb l (d.set bb f) (now - M - bar bb) h.1 (by omega) (by rw [Dim.set_same]; omega) (by omega) (by omega)
      have i2 := rresize_eq bb r (d.set bb (d bb - f - bar bb)) (M) h.2 (by omega) (by rw [Dim.set_same]; omega) (by omega) (by omega)
      rw [Dim.set_same] at i1 i2
      rw [i1, i2]
    · rw [if_neg hb] at hn
      rw [if_neg hb, if_neg hb]
      have hl' := hl be
      have hr' := hr be
      rw [Dim.set_ne _ _ (Ne.symm hb)] at hl' hr'
      have i1 := rresize_eq be l (d.set bb f) now h.1 (by omega) (by rw [Dim.set_ne _ _ (Ne.symm hb)]; exact hd) hnw (by omega)
      have i2 := rresize_eq be r (d.set bb (d bb - f - bar bb)) now h.2 (by omega) (by rw [Dim.set_ne _ _ (Ne.symm hb)]; exact hd) hnw (by omega)
      rw [Dim.set_ne _ _ (Ne.symm hb)] at i1 i2
      rw [i1, i2]

theorem find_iff {id : Int} {t : Atr} : id ∈ t.ids ↔ ∃ d, t.find id = some d := by
  constructor
  · intro h
    cases hf : t.find id with
    | none => exact absurd h (find_none id t hf)
    | some d => exact ⟨d, rfl⟩
  · rintro ⟨d, hd⟩
    cases hm : decide (id ∈ t.ids) with
    | true => exact of_decide_eq_true hm
    | false => rw [find_not id t (of_decide_eq_false hm)] at hd; cases hd

theorem find_split {id : Int} {be : Bool} {f : Int} {l r : Atr} {d : List Bool} (h : (Atr.split be f l r).find id = some d) :
    (id ∈ l.ids ∧ ∃ e, d = false :: e ∧ l.find id = some e) ∨ (id ∉ l.ids ∧ ∃ e, d = true :: e ∧ r.find id = some e) := by
  simp only [find] at h
  cases hl : l.find id with
  | some e =>
    rw [hl] at h
    simp only [Option.some.injEq] at h
    exact .inl ⟨find_iff.2 ⟨e, hl⟩, e, h.symm, rfl⟩
  | none =>
    rw [hl] at h
    cases hr : r.find id with
    | none => rw [hr] at h; cases h
    | some e =>
      rw [hr] at h
      simp only [Option.some.injEq] at h
      exact .inr ⟨find_none id l hl, e, h.symm, rfl⟩

end Atr
end Go.Proofs.Ytiedpcmdimgboaa

/- Parts of the reference's frames on the heap. -/
namespace Go.Proofs.Ytiedpcmdimgboaa
open Go.Ax
set_option linter.unusedSimpArgs false

def Rr.sub : Rr → List Bool → Option Rr
  | t, [] => some t
  | .split _ _ _ l _, false :: d => l.sub d
  | .split _ _ _ _ r, true :: d => r.sub d
  | .leaf _ _, _ :: _ => none
def Rr.put : Rr → List Bool → Rr → Rr
  | _, [], n => n
  | .split m be f l r, false :: d, n => .split m be f (l.put d n) r
  | .split m be f l r, true :: d, n => .split m be f l (r.put d n)
  | .leaf m i, _ :: _, _ => .leaf m i

theorem Rr.sub_nil (t : Rr) : t.sub [] = some t := by cases t <;> rfl
theorem Rr.put_nil (t n : Rr) : t.put [] n = n := by cases t <;> rfl
theorem Rr.sub_leaf {m : Nat} {i : Int} {x : Bool} {d : List Bool} : (Rr.leaf m i).sub (x :: d) = none := by cases x <;> rfl

theorem Rr.abs_sub : ∀ (t : Rr) (d : List Bool), (t.sub d).map Rr.abs = t.abs.sub d
  | t, [] => by cases t <;> rfl
  | .split _ _ _ l r, false :: d => Rr.abs_sub l d
  | .split _ _ _ l r, true :: d => Rr.abs_sub r d
  | .leaf _ _, x :: _ => by cases x <;> rfl
theorem Rr.abs_put (n : Rr) : ∀ (t : Rr) (d : List Bool), (t.put d n).abs = t.abs.set d n.abs
  | t, [] => by cases t <;> rfl
  | .split _ be f l r, false :: d => by simp only [Rr.put, Rr.abs, Atr.set, Rr.abs_put n l d]
  | .split _ be f l r, true :: d => by simp only [Rr.put, Rr.abs, Atr.set, Rr.abs_put n r d]
  | .leaf _ _, x :: _ => by cases x <;> rfl
theorem Rr.sub_append : ∀ (t : Rr) (d e : List Bool), t.sub (d ++ e) = (t.sub d).bind fun s => s.sub e
  | t, [], e => by cases t <;> rfl
  | .split _ _ _ l r, false :: d, e => Rr.sub_append l d e
  | .split _ _ _ l r, true :: d, e => Rr.sub_append r d e
  | .leaf _ _, x :: _, e => by cases x <;> rfl
theorem Rr.sub_blks : ∀ (t : Rr) (d : List Bool) (s : Rr), t.sub d = some s → ∀ n ∈ s.blks, n ∈ t.blks
  | t, [], s, h, n, hn => by
    rw [Rr.sub_nil] at h; cases h; exact hn
  | .split _ _ _ l r, false :: d, s, h, n, hn => by
    have := Rr.sub_blks l d s h n hn; simp [Rr.blks, this]
  | .split _ _ _ l r, true :: d, s, h, n, hn => by
    have := Rr.sub_blks r d s h n hn; simp [Rr.blks, this]
  | .leaf _ _, x :: _, s, h, n, hn => by rw [Rr.sub_leaf] at h; cases h
theorem Rr.sub_nodup : ∀ (t : Rr) (d : List Bool) (s : Rr), t.sub d = some s → t.blks.Nodup → s.blks.Nodup
  | t, [], s, h, n => by rw [Rr.sub_nil] at h; cases h; exact n
  | .split _ _ _ l r, false :: d, s, h, n => by
    simp only [Rr.blks, List.nodup_cons, List.nodup_append] at n
    exact Rr.sub_nodup l d s h n.2.1
  | .split _ _ _ l r, true :: d, s, h, n => by
    simp only [Rr.blks, List.nodup_cons, List.nodup_append] at n
    exact Rr.sub_nodup r d s h n.2.2.1
  | .leaf _ _, x :: _, s, h, n => by rw [Rr.sub_leaf] at h; cases h
theorem Rr.sub_at {H : AHeap} : ∀ (t : Rr) (d : List Bool) (s : Rr), t.sub d = some s → RefAt H t → RefAt H s
  | t, [], s, h, n => by rw [Rr.sub_nil] at h; cases h; exact n
  | .split _ _ _ l r, false :: d, s, h, n => Rr.sub_at l d s h n.2.1
  | .split _ _ _ l r, true :: d, s, h, n => Rr.sub_at r d s h n.2.2
  | .leaf _ _, x :: _, s, h, n => by rw [Rr.sub_leaf] at h; cases h
theorem Rr.root_mem (t : Rr) : t.root ∈ t.blks := by cases t <;> simp [Rr.root, Rr.blks]
theorem Rr.put_root {n : Rr} : ∀ (t : Rr) (d : List Bool) (s : Rr), t.sub d = some s → n.root = s.root → (t.put d n).root = t.root
  | t, [], s, h, hn => by rw [Rr.sub_nil] at h; cases h; rw [Rr.put_nil]; exact hn
  | .split _ _ _ l r, false :: d, s, h, _ => rfl
  | .split _ _ _ l r, true :: d, s, h, _ => rfl
  | .leaf _ _, x :: _, s, h, _ => by rw [Rr.sub_leaf] at h; cases h
theorem Rr.put_blks {n : Rr} : ∀ (t : Rr) (d : List Bool) (m : Nat), m ∈ (t.put d n).blks → m ∈ t.blks ∨ m ∈ n.blks
  | t, [], m, h => by rw [Rr.put_nil] at h; exact .inr h
  | .split _ _ _ l r, false :: d, m, h => by
    simp only [Rr.put, Rr.blks, List.mem_cons, List.mem_append] at h ⊢
    rcases h with h | h | h
    · exact .inl (.inl h)
    · rcases Rr.put_blks l d m h with h | h
      · exact .inl (.inr (.inl h))
      · exact .inr h
    · exact .inl (.inr (.inr h))
  | .split _ _ _ l r, true :: d, m, h => by
    simp only [Rr.put, Rr.blks, List.mem_cons, List.mem_append] at h ⊢
    rcases h with h | h | h
    · exact .inl (.inl h)
    · exact .inl (.inr (.inl h))
    · rcases Rr.put_blks r d m h with h | h
      · exact .inl (.inr (.inr h))
      · exact .inr h
  | .leaf m' i, x :: _, m, h => by cases x <;> exact .inl h

theorem Rr.put_nodup {n : Rr} (hn : n.blks.Nodup) : ∀ (t : Rr) (d : List Bool) (s : Rr), t.sub d = some s → t.blks.Nodup → (∀ m ∈ n.blks, m ∈ t.blks → m ∈ s.blks) → (t.put d n).blks.Nodup
  | t, [], s, h, _, _ => by rw [Rr.put_nil]; exact hn
  | .split k _ _ l r, false :: d, s, h, nd, hi => by
    simp only [Rr.blks, List.nodup_cons, List.nodup_append, List.mem_append, not_or] at nd
    obtain ⟨⟨h1, h2⟩, h3, h4, h5⟩ := nd
    have hsl := Rr.sub_blks l d s h
    have ih := Rr.put_nodup hn l d s h h3 (fun m hm hl => hi m hm (by simp [Rr.blks, hl]))
    have hnew : ∀ m ∈ n.blks, m ∈ l.blks ∨ (m ≠ k ∧ m ∉ r.blks) := fun m hm => by
      by_cases hl : m ∈ l.blks
      · exact .inl hl
      · refine .inr ⟨fun e => hl (hsl m (hi m hm (by simp [Rr.blks, e]))), fun e => hl (hsl m (hi m hm (by simp [Rr.blks, e])))⟩
    have hl' : ∀ m ∈ (l.put d n).blks, m ≠ k ∧ m ∉ r.blks := fun m hm => by
      have key : m ∈ l.blks → m ≠ k ∧ m ∉ r.blks := fun hm => ⟨fun e => h1 (e ▸ hm), fun e => h5 m hm m e rfl⟩
      rcases Rr.put_blks l d m hm with hm | hm
      · exact key hm
      · rcases hnew m hm with hm | hm
        · exact key hm
        · exact hm
    simp only [Rr.put, Rr.blks, List.nodup_cons, List.nodup_append, List.mem_append, not_or]
    exact ⟨⟨fun e => (hl' k e).1 rfl, h2⟩, ih, h4, fun a ha b hb e => (hl' a ha).2 (e ▸ hb)⟩
  | .split k _ _ l r, true :: d, s, h, nd, hi => by
    simp only [Rr.blks, List.nodup_cons, List.nodup_append, List.mem_append, not_or] at nd
    obtain ⟨⟨h1, h2⟩, h3, h4, h5⟩ := nd
    have hsl := Rr.sub_blks r d s h
    have ih := Rr.put_nodup hn r d s h h4 (fun m hm hl => hi m hm (by simp [Rr.blks, hl]))
    have hnew : ∀ m ∈ n.blks, m ∈ r.blks ∨ (m ≠ k ∧ m ∉ l.blks) := fun m hm => by
      by_cases hl : m ∈ r.blks
      · exact .inl hl
      · refine .inr ⟨fun e => hl (hsl m (hi m hm (by simp [Rr.blks, e]))), fun e => hl (hsl m (hi m hm (by simp [Rr.blks, e])))⟩
    have hl' : ∀ m ∈ (r.put d n).blks, m ≠ k ∧ m ∉ l.blks := fun m hm => by
      have key : m ∈ r.blks → m ≠ k ∧ m ∉ l.blks := fun hm => ⟨fun e => h2 (e ▸ hm), fun e => h5 m e m hm rfl⟩
      rcases Rr.put_blks r d m hm with hm | hm
      · exact key hm
      · rcases hnew m hm with hm | hm
        · exact key hm
        · exact hm
    simp only [Rr.put, Rr.blks, List.nodup_cons, List.nodup_append, List.mem_append, not_or]
    exact ⟨⟨h1, fun e => (hl' k e).1 rfl⟩, h3, ih, fun a ha b hb e => (hl' b hb).2 (e ▸ ha)⟩
  | .leaf _ _, x :: _, s, h, _, _ => by rw [Rr.sub_leaf] at h; cases h

theorem Rr.put_at {H Z : AHeap} {n : Rr} (tn : RefAt Z n) : ∀ (t : Rr) (d : List Bool) (s : Rr), t.sub d = some s → t.blks.Nodup → RefAt H t → n.root = s.root → (∀ m ∈ t.blks, m ∉ s.blks → Z.get m = H.get m) → RefAt Z (t.put d n)
  | t, [], s, h, _, _, _, _ => by rw [Rr.put_nil]; exact tn
  | .split k be f l r, false :: d, s, h, nd, ⟨⟨id, hk⟩, hl, hr⟩, hv, hg => by
    simp only [Rr.blks, List.nodup_cons, List.nodup_append, List.mem_append, not_or] at nd
    obtain ⟨⟨h1, h2⟩, h3, h4, h5⟩ := nd
    have hsl := Rr.sub_blks l d s h
    have ih := Rr.put_at tn l d s h h3 hl hv (fun m hm hs => hg m (by simp [Rr.blks, hm]) hs)
    refine ⟨⟨id, ?_⟩, ih, hr.of fun m hm => hg m (by simp [Rr.blks, hm]) fun e => h5 m (hsl m e) m hm rfl⟩
    rw [bk_get (hg k (by simp [Rr.blks]) fun e => h1 (hsl k e)), hk]
    simp only [Rr.val, Rr.put_root l d s h hv]
  | .split k be f l r, true :: d, s, h, nd, ⟨⟨id, hk⟩, hl, hr⟩, hv, hg => by
    simp only [Rr.blks, List.nodup_cons, List.nodup_append, List.mem_append, not_or] at nd
    obtain ⟨⟨h1, h2⟩, h3, h4, h5⟩ := nd
    have hsl := Rr.sub_blks r d s h
    have ih := Rr.put_at tn r d s h h4 hr hv (fun m hm hs => hg m (by simp [Rr.blks, hm]) hs)
    refine ⟨⟨id, ?_⟩, hl.of fun m hm => hg m (by simp [Rr.blks, hm]) fun e => h5 m hm m (hsl m e) rfl, ih⟩
    rw [bk_get (hg k (by simp [Rr.blks]) fun e => h2 (hsl k e)), hk]
    simp only [Rr.val, Rr.put_root r d s h hv]
  | .leaf _ _, x :: _, s, h, _, _, _, _ => by rw [Rr.sub_leaf] at h; cases h

theorem RefAt.mod {W : List Nat} {H H1 : AHeap} {t : Rr} (h : RefAt H t) (m : Mod W H H1) (hlt : ∀ n ∈ t.blks, n < H.next) (hW : ∀ n ∈ t.blks, n ∉ W) : RefAt H1 t :=
  h.of fun n hn => m.get n (hlt n hn) (hW n hn)

structure Rw where
  root : Rr
  h : Int
  w : Int
  last : Int
  sel : Int
def Rw.cells (y : Rw) : List Value := [y.root.val, .int .i64 y.h, .int .i64 y.w, .int .i64 y.last, .int .i64 y.sel]
def Rw.abs (y : Rw) : Ast := ⟨y.root.abs, y.h, y.w, y.last, y.sel⟩
def Rw.frame (y : Rw) : Rc := ⟨0, 0, 0, y.h, y.w⟩
structure RGood (H : AHeap) (o : Nat) (y : Rw) : Prop where
  at' : bk H o = some ⟨60, false, y.cells⟩
  ref : RefAt H y.root
  lt : o < H.next
  lts : ∀ n ∈ y.root.blks, n < H.next
  nd : y.root.blks.Nodup
  nO : o ∉ y.root.blks
  ok : H.base ≤ H.next
structure RStep (H : AHeap) (o : Nat) (y : Rw) (H1 : AHeap) (y' : Rw) : Prop where
  good : RGood H1 o y'
  mod : Mod (o :: y.root.blks) H H1
  new : ∀ n ∈ y'.root.blks, n ∈ y.root.blks ∨ H.next ≤ n

theorem RGood.mod {H H1 : AHeap} {o : Nat} {y : Rw} {W : List Nat} (g : RGood H o y) (m : Mod W H H1) (hO : o ∉ W) (hW : ∀ n ∈ y.root.blks, n ∉ W) : RGood H1 o y :=
  ⟨(m.bk g.lt hO).trans g.at', g.ref.mod m g.lts hW, m.lt g.lt, fun n hn => m.lt (g.lts n hn), g.nd, g.nO, m.ok g.ok⟩
theorem RGood.ext {H : AHeap} {o : Nat} {y : Rw} {L : List Bl} (g : RGood H o y) : RGood (Go.Ax.ext H L) o y := g.mod (W := []) (Mod.ext g.ok) (by simp) (by simp)
theorem RStep.same {H H1 : AHeap} {o : Nat} {y : Rw} (g : RGood H o y) (m : Mod [] H H1) : RStep H o y H1 y :=
  ⟨g.mod m (by simp) (by simp), m.mono (by simp), fun n hn => .inl hn⟩

theorem RStep.own {H H1 : AHeap} {o : Nat} {y y' : Rw} (g : RGood H o y) (m : Mod [o] H H1) (hr : y'.root = y.root) (hc : bk H1 o = some ⟨60, false, y'.cells⟩) : RStep H o y H1 y' := by
  have hW : ∀ n ∈ y.root.blks, n ∉ [o] := fun n hn h => g.nO (by simp only [List.mem_singleton] at h; exact h ▸ hn)
  exact ⟨⟨hc, hr ▸ g.ref.mod m g.lts hW, m.lt g.lt, fun n hn => m.lt (g.lts n (hr ▸ hn)), hr ▸ g.nd, hr ▸ g.nO, m.ok g.ok⟩, m.mono (by simp), fun n hn => .inl (hr ▸ hn)⟩

theorem RStep.part {H Z : AHeap} {o : Nat} {y : Rw} {d : List Bool} {s n : Rr} (g : RGood H o y) (hs : y.root.sub d = some s) (m : Mod s.blks H Z) (tn : RefAt Z n) (hv : n.root = s.root)
    (hb : ∀ k ∈ n.blks, k ∈ s.blks ∨ H.next ≤ k) (hlt : ∀ k ∈ n.blks, k < Z.next) (hn : n.blks.Nodup) : RStep H o y Z { y with root := y.root.put d n } := by
  have hsb := Rr.sub_blks y.root d s hs
  have hOs : o ∉ s.blks := fun h => g.nO (hsb o h)
  have hbl : ∀ k ∈ (y.root.put d n).blks, k ∈ y.root.blks ∨ H.next ≤ k := fun k hk => by
    rcases Rr.put_blks y.root d k hk with h | h
    · exact .inl h
    · exact (hb k h).imp (hsb k) id
  refine ⟨⟨?_, Rr.put_at tn y.root d s hs g.nd g.ref hv (fun k hk hks => m.get k (g.lts k hk) hks), m.lt g.lt, fun k hk => ?_, Rr.put_nodup hn y.root d s hs g.nd (fun k hk ht => ?_), fun h => ?_, m.ok g.ok⟩, m.mono fun k hk => List.mem_cons_of_mem _ (hsb k hk), hbl⟩
  · rw [m.bk g.lt hOs, g.at']
    simp only [Rw.cells, Rr.val, Rr.put_root y.root d s hs hv]
  · rcases Rr.put_blks y.root d k hk with h | h
    · exact m.lt (g.lts k h)
    · exact hlt k h
  · rcases hb k hk with h | h
    · exact h
    · have := g.lts k ht; omega
  · rcases hbl o h with h | h
    · exact g.nO h
    · have := g.lt; omega

theorem RStep.trans {H H1 H2 : AHeap} {o : Nat} {y y1 y2 : Rw} (hok : H.base ≤ H.next) (s1 : RStep H o y H1 y1) (s2 : RStep H1 o y1 H2 y2) : RStep H o y H2 y2 := by
  refine ⟨s2.good, s1.mod.step s2.mod hok fun k hk => ?_, fun k hk => ?_⟩
  · rcases List.mem_cons.1 hk with rfl | hk
    · exact .inl (by simp)
    · rcases s1.new k hk with h | h
      · exact .inl (by simp [h])
      · exact .inr h
  · rcases s2.new k hk with h | h
    · exact s1.new k h
    · exact .inr (Nat.le_trans s1.mod.next h)

def RDoes (f : FuncId) (args : List Value) (H : AHeap) (o : Nat) (y : Rw) (v : Value) (s : Ast) : Prop :=
  CallA Try.prog f (.pointer (some ⟨o, 0, none⟩) :: args) H (fun out H1 => out = .ok v ∧ ∃ y', RStep H o y H1 y' ∧ y'.abs = s)

end Go.Proofs.Ytiedpcmdimgboaa

/- What the functions of the reference come to that look at frames: known, sides, first, leaf, all, within, New, Selected. -/
namespace Go.Proofs.Ytiedpcmdimgboaa
open Go.Ax
set_option linter.unusedSimpArgs false
set_option maxRecDepth 10000

theorem RefAt.lt {H : AHeap} (w : WF Try.prog H) {t : Rr} (h : RefAt H t) : ∀ n ∈ t.blks, n < H.next := by
  intro n hn
  cases hg : H.get n with
  | none => exact absurd hg (h.ne n hn)
  | some o => exact (w.dom n o hg).1

theorem rsides_c (n : Nat) (id : Int) (be : Bool) (f : Int) (vl vr : Value) (r : Rc) (H : AHeap) (hn : bk H n = some ⟨100, false, [.int .i64 id, .bool be, .int .i64 f, vl, vr]⟩) :
    Pure 81 [.pointer (some ⟨n, 0, none⟩), r.val] H (.tuple #[(partA be f r).val, (partB be f r).val]) := by
  obtain ⟨b, hb⟩ : ∃ b, H.next = b := ⟨_, rfl⟩
  refine callS_fn mixed Try.func81 rfl Try.ntmps81 (Nat.le_of_ble_eq_true rfl) fun wf hsc => ?_
  have hlt : n < b := hb ▸ wf.lt hn
  have hbase : H.base ≤ b := hb ▸ wf.base
  simp (maxDischargeDepth := 6) only [Rc.val, hb, ruW, putL, Nat.reduceLeDiff, xF, ruU, entryE, Nat.reduceLT, Nat.reduceAdd, Nat.reduceMul, Nat.reduceEqDiff]
  refine w_drawB [(4, 0), (5, 1), (4, 2), (5, 3)] [] (by kernel_rfl) (by kernel_rfl) rfl fun ops anc hA hG => ?_
  simp only [all2_cons] at hA
  simp (maxDischargeDepth := 6) only [hb, hbase, hlt, hn, hA, ruD, ruW, putL, Nat.reduceLeDiff, xF, ruU, entryE, Nat.reduceLT, Nat.reduceAdd, Nat.reduceMul, Nat.reduceEqDiff]
  refine condC_split (fun hbe => ?_) (fun hbe => ?_)
  · subst hbe
    simp (maxDischargeDepth := 6) only [ruW, putL, Nat.reduceLeDiff, xF, ruU, entryE, Nat.reduceLT, Nat.reduceAdd, Nat.reduceMul, Nat.reduceEqDiff]
    refine w_drawB [(23, 21)] [] (by kernel_rfl) (by kernel_rfl) rfl fun ops anc hA hG => ?_
    simp only [all2_cons] at hA
    simp (maxDischargeDepth := 6) only [hb, hbase, hlt, hn, hA, ruD, ruW, putL, Nat.reduceLeDiff, xF, ruU, entryE, Nat.reduceLT, Nat.reduceAdd, Nat.reduceMul, Nat.reduceEqDiff]
    refine w_drawB [(2, 0), (3, 1)] [] (by kernel_rfl) (by kernel_rfl) rfl fun ops anc hA hG => ?_
    simp only [all2_cons] at hA
    simp (maxDischargeDepth := 6) only [hb, hbase, hlt, hn, hA, Try.results81, ruD, ruW, putL, Nat.reduceLeDiff, xF, ruU, entryE, Nat.reduceLT, Nat.reduceAdd, Nat.reduceMul, Nat.reduceEqDiff]
    exact Fin.pure rfl
  · subst hbe
    simp (maxDischargeDepth := 6) only [ruW, putL, Nat.reduceLeDiff, xF, ruU, entryE, Nat.reduceLT, Nat.reduceAdd, Nat.reduceMul, Nat.reduceEqDiff]
    refine w_drawB [(25, 23)] [] (by kernel_rfl) (by kernel_rfl) rfl fun ops anc hA hG => ?_
    simp only [all2_cons] at hA
    simp (maxDischargeDepth := 6) only [hb, hbase, hlt, hn, hA, ruD, ruW, putL, Nat.reduceLeDiff, xF, ruU, entryE, Nat.reduceLT, Nat.reduceAdd, Nat.reduceMul, Nat.reduceEqDiff]
    refine w_drawB [(2, 0), (3, 1)] [] (by kernel_rfl) (by kernel_rfl) rfl fun ops anc hA hG => ?_
    simp only [all2_cons] at hA
    simp (maxDischargeDepth := 6) only [hb, hbase, hlt, hn, hA, Try.results81, ruD, ruW, putL, Nat.reduceLeDiff, xF, ruU, entryE, Nat.reduceLT, Nat.reduceAdd, Nat.reduceMul, Nat.reduceEqDiff]
    exact Fin.pure rfl

theorem rwithin_c (h w : Int) (H : AHeap) : Pure 53 [.int .i64 h, .int .i64 w] H (.bool (inside h w)) := by
  refine callS_fn mixed Try.func53 rfl Try.ntmps53 (Nat.le_of_ble_eq_true rfl) fun wf hsc => ?_
  unfold inside
  simp (maxDischargeDepth := 6) only [Try.results53, ruW, putL, Nat.reduceLeDiff, xF, ruU, entryE, Nat.reduceLT, Nat.reduceAdd, Nat.reduceMul, Nat.reduceEqDiff]
  cases decide (2 ≤ h) <;> simp (maxDischargeDepth := 6) only [Try.results53, ruW, putL, Nat.reduceLeDiff, xF, ruU, entryE, Nat.reduceLT, Nat.reduceAdd, Nat.reduceMul, Nat.reduceEqDiff]
  · exact Fin.pure rfl
  cases decide (h ≤ 200) <;> simp (maxDischargeDepth := 6) only [Try.results53, ruW, putL, Nat.reduceLeDiff, xF, ruU, entryE, Nat.reduceLT, Nat.reduceAdd, Nat.reduceMul, Nat.reduceEqDiff]
  · exact Fin.pure rfl
  cases decide (4 ≤ w) <;> simp (maxDischargeDepth := 6) only [Try.results53, ruW, putL, Nat.reduceLeDiff, xF, ruU, entryE, Nat.reduceLT, Nat.reduceAdd, Nat.reduceMul, Nat.reduceEqDiff]
  · exact Fin.pure rfl
  exact Fin.pure rfl

theorem rnew_ok (h w : Int) (H : AHeap) (hin : inside h w = true) : CallS Try.prog 27 [.int .i64 h, .int .i64 w] H (.ok (.tuple #[.pointer (some ⟨H.next + 1, 0, none⟩), .int .i64 0]))
    (ext H [⟨100, false, [.int .i64 1, .bool false, .int .i64 0, .pointer none, .pointer none]⟩, ⟨60, false, [.pointer (some ⟨H.next + 0, 0, none⟩), .int .i64 h, .int .i64 w, .int .i64 1, .int .i64 1]⟩]) := by
  obtain ⟨b, hb⟩ : ∃ b, H.next = b := ⟨_, rfl⟩
  refine callS_fn mixed Try.func27 rfl Try.ntmps27 (Nat.le_of_ble_eq_true rfl) fun wf hsc => ?_
  simp (maxDischargeDepth := 6) only [ruW, putL, Nat.reduceLeDiff, xF, ruU, entryE, Nat.reduceLT, Nat.reduceAdd, Nat.reduceMul, Nat.reduceEqDiff]
  refine (rwithin_c h w (ext H [])).to ?_
  simp (maxDischargeDepth := 6) only [hb, hin, Try.results27, ruW, putL, Nat.reduceLeDiff, xF, ruU, entryE, Nat.reduceLT, Nat.reduceAdd, Nat.reduceMul, Nat.reduceEqDiff]
  exact Fin.same

theorem rnew_no (h w : Int) (H : AHeap) (hin : inside h w = false) : CallS Try.prog 27 [.int .i64 h, .int .i64 w] H (.ok (.tuple #[.pointer none, .int .i64 3])) H := by
  obtain ⟨b, hb⟩ : ∃ b, H.next = b := ⟨_, rfl⟩
  refine callS_fn mixed Try.func27 rfl Try.ntmps27 (Nat.le_of_ble_eq_true rfl) fun wf hsc => ?_
  simp (maxDischargeDepth := 6) only [ruW, putL, Nat.reduceLeDiff, xF, ruU, entryE, Nat.reduceLT, Nat.reduceAdd, Nat.reduceMul, Nat.reduceEqDiff]
  refine (rwithin_c h w (ext H [])).to ?_
  simp (maxDischargeDepth := 6) only [hb, hin, Try.results27, ruW, putL, Nat.reduceLeDiff, xF, ruU, entryE, Nat.reduceLT, Nat.reduceAdd, Nat.reduceMul, Nat.reduceEqDiff]
  exact Fin.pure rfl

abbrev OwnAt (H : AHeap) (o : Nat) (y : Rw) : Prop := bk H o = some ⟨60, false, y.cells⟩

theorem rknown_c (o : Nat) (y : Rw) (id : Int) (H : AHeap) (h : OwnAt H o y) (hr : RefAt H y.root) : Pure 76 [.pointer (some ⟨o, 0, none⟩), .int .i64 id] H (.int .i64 (if id ∈ y.root.abs.ids then 0 else 8)) := by
  obtain ⟨b, hb⟩ : ∃ b, H.next = b := ⟨_, rfl⟩
  refine callS_fn mixed Try.func76 rfl Try.ntmps76 (Nat.le_of_ble_eq_true rfl) fun wf hsc => ?_
  have ho : o < b := hb ▸ wf.lt h
  simp only [OwnAt, Rw.cells] at h
  simp (maxDischargeDepth := 6) only [Rr.val, hb, ho, h, ruW, putL, Nat.reduceLeDiff, xF, ruU, entryE, Nat.reduceLT, Nat.reduceAdd, Nat.reduceMul, Nat.reduceEqDiff]
  refine (rhas_c id y.root (ext H []) hr).to ?_
  by_cases hi : id ∈ y.root.abs.ids
  · simp (maxDischargeDepth := 6) only [hi, decide_true, if_true, Try.results76, ruW, putL, Nat.reduceLeDiff, xF, ruU, entryE, Nat.reduceLT, Nat.reduceAdd, Nat.reduceMul, Nat.reduceEqDiff]
    exact Fin.pure rfl
  · simp (maxDischargeDepth := 6) only [hi, decide_false, if_false, Try.results76, ruW, putL, Nat.reduceLeDiff, xF, ruU, entryE, Nat.reduceLT, Nat.reduceAdd, Nat.reduceMul, Nat.reduceEqDiff]
    exact Fin.pure rfl

theorem rall_c (o : Nat) (y : Rw) (H : AHeap) (h : OwnAt H o y) : Pure 63 [.pointer (some ⟨o, 0, none⟩)] H y.frame.val := by
  obtain ⟨b, hb⟩ : ∃ b, H.next = b := ⟨_, rfl⟩
  refine callS_fn mixed Try.func63 rfl Try.ntmps63 (Nat.le_of_ble_eq_true rfl) fun wf hsc => ?_
  have hlt : o < b := hb ▸ wf.lt h
  have hbase : H.base ≤ b := hb ▸ wf.base
  simp only [OwnAt, Rw.cells] at h
  simp (maxDischargeDepth := 6) only [hb, ruW, putL, Nat.reduceLeDiff, xF, ruU, entryE, Nat.reduceLT, Nat.reduceAdd, Nat.reduceMul, Nat.reduceEqDiff]
  refine w_drawB [] [] (by kernel_rfl) rfl rfl fun ops anc hA hG => ?_
  simp (maxDischargeDepth := 6) only [hb, hlt, hbase, h, Try.results63, ruD, ruW, putL, Nat.reduceLeDiff, xF, ruU, entryE, Nat.reduceLT, Nat.reduceAdd, Nat.reduceMul, Nat.reduceEqDiff]
  exact Fin.pure rfl

theorem rselected_c (o : Nat) (y : Rw) (H : AHeap) (h : OwnAt H o y) : Pure 33 [.pointer (some ⟨o, 0, none⟩)] H (.int .i64 y.sel) := by
  obtain ⟨b, hb⟩ : ∃ b, H.next = b := ⟨_, rfl⟩
  refine callS_fn mixed Try.func33 rfl Try.ntmps33 (Nat.le_of_ble_eq_true rfl) fun wf hsc => ?_
  have hlt : o < b := hb ▸ wf.lt h
  simp only [OwnAt, Rw.cells] at h
  simp (maxDischargeDepth := 6) only [hb, hlt, h, Try.results33, ruW, putL, Nat.reduceLeDiff, xF, ruU, entryE, Nat.reduceLT, Nat.reduceAdd, Nat.reduceMul, Nat.reduceEqDiff]
  exact Fin.pure rfl

theorem np58 {H : AHeap} : aBin Try.prog H .neq 58 (.pointer none) (.pointer none) = some (.bool false) := by
  simp only [aBin, aBinAddr]
  rfl
theorem nn58 {H : AHeap} {n off : Nat} : aBin Try.prog H .neq 58 (.pointer (some ⟨n, off, none⟩)) (.pointer none) = some (.bool true) := by
  simp only [aBin, aBinAddr]
  rfl

def Rr.size : Rr → Nat
  | .leaf _ _ => 0
  | .split _ _ _ l r => l.size + r.size + 1

theorem rfirst_c (t : Rr) (H : AHeap) (h : RefAt H t) : Pure 88 [t.val] H (.int .i64 t.abs.first) := by
  obtain ⟨b, hb⟩ : ∃ b, H.next = b := ⟨_, rfl⟩
  refine callS_fn mixed Try.func88 rfl Try.ntmps88 (Nat.le_of_ble_eq_true rfl) fun wf hsc => ?_
  simp (maxDischargeDepth := 6) only [ruW, putL, Nat.reduceLeDiff, xF, ruU, entryE, Nat.reduceLT, Nat.reduceAdd, Nat.reduceMul, Nat.reduceEqDiff]
  refine blockC_meet (fun E' H' => ∃ n be f, H' = ext H [] ∧ E' 0 = .pointer (some ⟨n, 0, none⟩) ∧ bk H n = some ⟨100, false, [.int .i64 t.abs.first, .bool be, .int .i64 f, .pointer none, .pointer none]⟩) ?_ ?_
  · refine w_loop (fun (s : Rr) E H' => H' = ext H [] ∧ RefAt H s ∧ E 0 = s.val ∧ s.abs.first = t.abs.first) Rr.size t ⟨rfl, h, by simp only [ruU, entryE, Nat.reduceLT, Nat.reduceAdd, Nat.reduceMul, Nat.reduceEqDiff], rfl⟩ ?_
    rintro s E H' ⟨hH, hs, h0, hf⟩
    rw [hH]
    cases s with
    | leaf n id =>
      obtain ⟨be, f, hs⟩ := hs
      have hlt : n < b := hb ▸ wf.lt hs
      simp only [Rr.val, Rr.root] at h0
      simp (maxDischargeDepth := 6) only [h0, hb, hlt, hs, np58, ruW, putL, Nat.reduceLeDiff, xF, ruU, entryE, Nat.reduceLT, Nat.reduceAdd, Nat.reduceMul, Nat.reduceEqDiff]
      refine joinR_normal ⟨n, be, f, rfl, ?_, by rw [← hf]; exact hs⟩
      simp only [h0, ruU, entryE, Nat.reduceLT, Nat.reduceAdd, Nat.reduceMul, Nat.reduceEqDiff]
    | split n be f l r =>
      obtain ⟨⟨id, hn⟩, hl, hr⟩ := hs
      have hlt : n < b := hb ▸ wf.lt hn
      simp only [Rr.val, Rr.root] at h0 hn
      simp (maxDischargeDepth := 6) only [h0, hb, hlt, hn, nn58, ruW, putL, Nat.reduceLeDiff, xF, ruU, entryE, Nat.reduceLT, Nat.reduceAdd, Nat.reduceMul, Nat.reduceEqDiff]
      refine loopC_next ⟨l, by simp only [Rr.size]; omega, rfl, hl, ?_, hf⟩
      simp only [Rr.val, Rr.root, ruU, entryE, Nat.reduceLT, Nat.reduceAdd, Nat.reduceMul, Nat.reduceEqDiff]
  · rintro E H' ⟨n, be, f, hH, h0, hn⟩
    rw [hH]
    have hlt : n < b := hb ▸ wf.lt hn
    simp (maxDischargeDepth := 6) only [h0, hb, hlt, hn, Try.results88, ruW, putL, Nat.reduceLeDiff, xF, ruU, entryE, Nat.reduceLT, Nat.reduceAdd, Nat.reduceMul, Nat.reduceEqDiff]
    exact Fin.pure rfl

theorem rleaf_c (t : Rr) (i : Int) (d : List Bool) (H : AHeap) (h : RefAt H t) (hd : t.abs.find i = some d) : ∃ m, t.sub d = some (.leaf m i) ∧ Pure 79 [t.val, .int .i64 i] H (.pointer (some ⟨m, 0, none⟩)) := by
  have hsub : ∃ m, t.sub d = some (.leaf m i) := by
    have h1 := Atr.find_sub i t.abs d hd
    rw [← Rr.abs_sub] at h1
    cases hs : t.sub d with
    | none => rw [hs] at h1; cases h1
    | some s =>
      rw [hs] at h1
      cases s with
      | leaf m j =>
        simp only [Option.map_some, Rr.abs, Option.some.injEq, Atr.leaf.injEq] at h1
        exact ⟨m, by rw [h1]⟩
      | split m be f l r => simp only [Option.map_some, Rr.abs, Option.some.injEq, reduceCtorEq] at h1
  obtain ⟨m, hm⟩ := hsub
  refine ⟨m, hm, ?_⟩
  obtain ⟨b, hb⟩ : ∃ b, H.next = b := ⟨_, rfl⟩
  refine callS_fn mixed Try.func79 rfl Try.ntmps79 (Nat.le_of_ble_eq_true rfl) fun wf hsc => ?_
  simp (maxDischargeDepth := 6) only [ruW, putL, Nat.reduceLeDiff, xF, ruU, entryE, Nat.reduceLT, Nat.reduceAdd, Nat.reduceMul, Nat.reduceEqDiff]
  refine blockC_meet (fun E' H' => H' = ext H [] ∧ E' 0 = .pointer (some ⟨m, 0, none⟩)) ?_ ?_
  · refine w_loop (fun (s : Rr) E H' => H' = ext H [] ∧ RefAt H s ∧ E 0 = s.val ∧ E 1 = .int .i64 i ∧ ∃ e, s.abs.find i = some e ∧ s.sub e = some (.leaf m i)) Rr.size t ⟨rfl, h, by simp only [ruU, entryE, Nat.reduceLT, Nat.reduceAdd, Nat.reduceMul, Nat.reduceEqDiff], by simp only [ruU, entryE, Nat.reduceLT, Nat.reduceAdd, Nat.reduceMul, Nat.reduceEqDiff], d, hd, hm⟩ ?_
    rintro s E H' ⟨hH, hs, h0, e1, e, he, hse⟩
    rw [hH]
    cases s with
    | leaf n id =>
      obtain ⟨be, f, hs⟩ := hs
      have hlt : n < b := hb ▸ wf.lt hs
      have hnm : n = m := by
        cases e with
        | nil => rw [Rr.sub_nil] at hse; cases hse; rfl
        | cons x e => rw [Rr.sub_leaf] at hse; cases hse
      subst hnm
      simp only [Rr.val, Rr.root] at h0
      simp (maxDischargeDepth := 6) only [h0, hb, hlt, hs, np58, ruW, putL, Nat.reduceLeDiff, xF, ruU, entryE, Nat.reduceLT, Nat.reduceAdd, Nat.reduceMul, Nat.reduceEqDiff]
      refine joinR_normal ⟨rfl, ?_⟩
      simp only [h0, ruU, entryE, Nat.reduceLT, Nat.reduceAdd, Nat.reduceMul, Nat.reduceEqDiff]
    | split n be f l r =>
      obtain ⟨⟨id, hn⟩, hl, hr⟩ := hs
      have hlt : n < b := hb ▸ wf.lt hn
      have ihl := rhas_c i l (ext H []) hl
      simp only [Rr.val, Rr.root] at h0 hn ihl
      simp (maxDischargeDepth := 6) only [h0, e1, hb, hlt, hn, nn58, ruW, putL, Nat.reduceLeDiff, xF, ruU, entryE, Nat.reduceLT, Nat.reduceAdd, Nat.reduceMul, Nat.reduceEqDiff]
      refine ihl.to ?_
      rcases Atr.find_split he with ⟨hi, e', rfl, he'⟩ | ⟨hi, e', rfl, he'⟩
      · simp (maxDischargeDepth := 6) only [h0, e1, hb, hlt, hn, hi, decide_true, ruW, putL, Nat.reduceLeDiff, xF, ruU, entryE, Nat.reduceLT, Nat.reduceAdd, Nat.reduceMul, Nat.reduceEqDiff]
        refine loopC_next ⟨l, by simp only [Rr.size]; omega, rfl, hl, ?_, ?_, e', he', hse⟩ <;> simp only [Rr.val, Rr.root, e1, ruU, entryE, Nat.reduceLT, Nat.reduceAdd, Nat.reduceMul, Nat.reduceEqDiff]
      · simp (maxDischargeDepth := 6) only [h0, e1, hb, hlt, hn, hi, decide_false, ruW, putL, Nat.reduceLeDiff, xF, ruU, entryE, Nat.reduceLT, Nat.reduceAdd, Nat.reduceMul, Nat.reduceEqDiff]
        refine loopC_next ⟨r, by simp only [Rr.size]; omega, rfl, hr, ?_, ?_, e', he', hse⟩ <;> simp only [Rr.val, Rr.root, e1, ruU, entryE, Nat.reduceLT, Nat.reduceAdd, Nat.reduceMul, Nat.reduceEqDiff]
  · rintro E H' ⟨hH, h0⟩
    rw [hH]
    simp (maxDischargeDepth := 6) only [h0, Try.results79, ruW, putL, Nat.reduceLeDiff, xF, ruU, entryE, Nat.reduceLT, Nat.reduceAdd, Nat.reduceMul, Nat.reduceEqDiff]
    exact Fin.pure (blt_of (h.lt wf m (Rr.sub_blks t d _ hm m (by simp [Rr.blks]))))

end Go.Proofs.Ytiedpcmdimgboaa

/- What the reference's rects and bars come to. -/
namespace Go.Proofs.Ytiedpcmdimgboaa
open Go.Ax
set_option linter.unusedSimpArgs false
set_option maxRecDepth 10000

def ApAt (H : AHeap) (v : Value) (rs : List Rc) : Prop :=
  (rs = [] ∧ v = .slice none 0 0) ∨ (∃ m, rs ≠ [] ∧ m < H.next ∧ v = .slice (some ⟨m, 0, none⟩) rs.length rs.length ∧ bk H m = some ⟨35, true, rowsOf rs⟩)
def ApPost (H : AHeap) (v : Value) (rs : List Rc) (out : Out) (H1 : AHeap) : Prop :=
  ∃ v', out = .ok v' ∧ ApAt H1 v' rs ∧ Mod (idsV v) H H1 ∧ (∀ n ∈ idsV v', n ∈ idsV v ∨ H.next ≤ n)

theorem ApAt.of {H G : AHeap} {v : Value} {l : List Rc} (h : ApAt H v l) (hn : H.next ≤ G.next) (hg : ∀ n ∈ idsV v, G.get n = H.get n) : ApAt G v l := by
  rcases h with ⟨rfl, rfl⟩ | ⟨m, h1, h2, rfl, hb⟩
  · exact .inl ⟨rfl, rfl⟩
  · exact .inr ⟨m, h1, by omega, rfl, (bk_get (hg m (by simp [idsV]))).trans hb⟩
theorem ApAt.ne {H : AHeap} {v : Value} {l : List Rc} (h : ApAt H v l) : ∀ n ∈ idsV v, H.get n ≠ none ∧ n < H.next := by
  rcases h with ⟨rfl, rfl⟩ | ⟨m, h1, h2, rfl, hb⟩
  · intro n hn; simp [idsV] at hn
  · intro n hn
    simp only [idsV, List.mem_singleton] at hn
    subst hn
    exact ⟨bk_ne hb, h2⟩

theorem ap_app {H : AHeap} {v : Value} {rs : List Rc} {r : Rc} {k : Nat} {s : Option Nat} (h : ApAt H v rs) (hk : bk H k = some ⟨35, false, r.cells⟩) (hcap : rs.length < 10000) :
    ∃ v' H', aBuiltin Try.prog H .append ⟨[32, 32]⟩ [v, .slice (some ⟨k, 0, s⟩) 1 1] = some (v', H') ∧ one v' = true ∧ ApAt H' v' (rs ++ [r]) ∧ (H.base ≤ H.next → Mod (idsV v) H H') ∧ (∀ n ∈ idsV v', H.next ≤ n) := by
  rcases h with ⟨rfl, rfl⟩ | ⟨m, h1, h2, rfl, hb⟩
  · have happ := app_nil (P := Try.prog) (H := H) (st := 32) (xt := 32) (e := 35) (sz := 5) (by1 := 40) (z := .agg #[.int .i64 0, .int .i64 0, .int .i64 0, .int .i64 0, .int .i64 0]) (n := k) (off := 0) (cnt := 1) (cap := 1) (s := s) (b := ⟨35, false, r.cells⟩) (by kernel_rfl) (by kernel_rfl) (by kernel_rfl) (by kernel_rfl) rfl (by kernel_rfl) hk (by simp [Rc.cells]) rfl (by decide) (by decide)
    have hn := new_ext (H := H) (L := []) (e := 35) (l := r.cells) (o := true) rfl
    have ht : (r.cells.drop 0).take (1 * 5) = r.cells := rfl
    rw [ht, show H = ext H [] from rfl, hn, Option.map_some] at happ
    refine ⟨_, _, happ, rfl, .inr ⟨H.next, by simp, by rw [ext_next]; simp, rfl, ?_⟩, fun hok => Mod.ext hok, fun n hn => ?_⟩
    · rw [show H.next = H.next + 0 from rfl, bk_at rfl (by simp)]
      simp [rowsOf]
    · simp only [idsV, List.mem_singleton] at hn
      subst hn; exact Nat.le_refl _
  · have happ := app_open (P := Try.prog) (H := H) (st := 32) (xt := 32) (e := 35) (sz := 5) (by1 := 40) (z := .agg #[.int .i64 0, .int .i64 0, .int .i64 0, .int .i64 0, .int .i64 0]) (m := m) (k := rs.length) (old := rowsOf rs) (n := k) (off := 0) (cnt := 1) (cap := 1) (s := s) (b := ⟨35, false, r.cells⟩)
      (by kernel_rfl) (by kernel_rfl) (by kernel_rfl) (by kernel_rfl) rfl (by kernel_rfl) hb (rowsOf_length rs) (rowsOf_one rs) hk (by simp [Rc.cells]) rfl (by decide)
      (by simp only [small, Bool.and_eq_true, Nat.ble_eq]; omega)
    have hsr : scbL ((dp H m).next + 0) (rowsOf rs ++ r.cells) = true := by
      have := rowsOf_sc (rs ++ [r]) ((dp H m).next + 0)
      simpa [rowsOf] using this
    have hn := new_ext (H := dp H m) (L := []) (e := 35) (l := rowsOf rs ++ r.cells) (o := true) hsr
    have ht : (r.cells.drop 0).take (1 * 5) = r.cells := rfl
    rw [ht, show H.upd m none = ext (dp H m) [] from rfl, hn, Option.map_some] at happ
    refine ⟨_, _, happ, rfl, .inr ⟨H.next, by simp, by rw [ext_next, dp_next]; simp, ?_, ?_⟩, fun hok => ?_, fun n hn => ?_⟩
    · simp
    · rw [show H.next = (dp H m).next + 0 from rfl, bk_at rfl (by simp)]
      simp [rowsOf]
    · have mD : Mod (idsV (.slice (some ⟨m, 0, none⟩) rs.length rs.length)) H (dp H m) := Mod.upd (by simp [idsV])
      exact mD.trans (Mod.ext (mD.ok hok))
    · simp only [idsV, List.mem_singleton] at hn
      subst hn; exact Nat.le_refl _

theorem ids_len (t : Rr) : ∀ rc : Rc, (t.abs.rects rc).length = t.size + 1 := by
  induction t with
  | leaf n id => intro rc; rfl
  | split n be f l r ihl ihr => intro rc; simp only [Rr.abs, Atr.rects, List.length_append, ihl, ihr, Rr.size]; omega

set_option maxHeartbeats 1000000 in
theorem rrects_c : ∀ (t : Rr) (rc : Rc) (rs : List Rc) (v : Value) (H : AHeap), H.base ≤ H.next → RefAt H t → (∀ n ∈ t.blks, n < H.next) → ApAt H v rs → (∀ n ∈ t.blks, n ∉ idsV v) → rs.length + t.size + 1 ≤ 10000 →
    CallA Try.prog 62 [t.val, rc.val, v] H (ApPost H v (rs ++ t.abs.rects rc))
  | .leaf n id, rc, rs, v, H, hok, h, hlt, hv, hd, hcap => by
    obtain ⟨b, hb⟩ : ∃ b, H.next = b := ⟨_, rfl⟩
    obtain ⟨be, f, h⟩ := h
    have hnb : n < b := hb ▸ hlt n (by simp [Rr.blks])
    have hbase : H.base ≤ b := hb ▸ hok
    refine callE_fn mixed Try.func62 rfl Try.ntmps62 (Nat.le_of_ble_eq_true rfl) ?_
    simp (maxDischargeDepth := 6) only [Rr.val, Rr.root, Rc.val, hb, hnb, hbase, h, pn58, ruW, putL, Nat.reduceLeDiff, xF, ruU, entryE, Nat.reduceLT, Nat.reduceAdd, Nat.reduceMul, Nat.reduceEqDiff]
    obtain ⟨v', H', hap, h1, ha, hm, hn⟩ := ap_app (H := ext H [⟨35, false, [.int .i64 id, .int .i64 rc.top, .int .i64 rc.left, .int .i64 rc.h, .int .i64 rc.w]⟩, ⟨35, false, [.int .i64 id, .int .i64 rc.top, .int .i64 rc.left, .int .i64 rc.h, .int .i64 rc.w]⟩]) (r := ⟨id, rc.top, rc.left, rc.h, rc.w⟩) (k := b + 1) (s := some 0)
      (hv.of (by rw [ext_next]; omega) (fun m hm => ext_get_old (hv.ne m hm).2)) (by rw [bk_at hb (by simp)]; rfl) (by omega)
    rw [show H' = ext H' [] from rfl] at hap
    simp (maxDischargeDepth := 6) only [hap, Try.results62, ruW, putL, Nat.reduceLeDiff, xF, ruU, entryE, Nat.reduceLT, Nat.reduceAdd, Nat.reduceMul, Nat.reduceEqDiff]
    have mX : Mod (idsV v) H (ext H [⟨35, false, [.int .i64 id, .int .i64 rc.top, .int .i64 rc.left, .int .i64 rc.h, .int .i64 rc.w]⟩, ⟨35, false, [.int .i64 id, .int .i64 rc.top, .int .i64 rc.left, .int .i64 rc.h, .int .i64 rc.w]⟩]) := Mod.ext hok
    refine ⟨v', rfl, ha, mX.trans (hm (mX.ok hok)), fun m hm => .inr ?_⟩
    have := hn m hm
    rw [ext_next] at this
    omega
  | .split n be f l r, rc, rs, v, H, hok, h, hlt, hv, hd, hcap => by
    obtain ⟨b, hb⟩ : ∃ b, H.next = b := ⟨_, rfl⟩
    obtain ⟨⟨id, h⟩, hl, hr⟩ := h
    have hnb : n < b := hb ▸ hlt n (by simp [Rr.blks])
    have hbase : H.base ≤ b := hb ▸ hok
    have hll : ∀ m ∈ l.blks, m < H.next := fun m hm => hlt m (by simp [Rr.blks, hm])
    have hlr : ∀ m ∈ r.blks, m < H.next := fun m hm => hlt m (by simp [Rr.blks, hm])
    have hdn : n ∉ idsV v := hd n (by simp [Rr.blks])
    have hdl : ∀ m ∈ l.blks, m ∉ idsV v := fun m hm => hd m (by simp [Rr.blks, hm])
    have hdr : ∀ m ∈ r.blks, m ∉ idsV v := fun m hm => hd m (by simp [Rr.blks, hm])
    simp only [Rr.size] at hcap
    refine callE_fn mixed Try.func62 rfl Try.ntmps62 (Nat.le_of_ble_eq_true rfl) ?_
    simp (maxDischargeDepth := 6) only [Rr.val, Rr.root, Rc.val, hb, hnb, hbase, h, pp58, ruW, putL, Nat.reduceLeDiff, xF, ruU, entryE, Nat.reduceLT, Nat.reduceAdd, Nat.reduceMul, Nat.reduceEqDiff]
    refine (rsides_c n id be f l.val r.val rc (ext H (_ :: _)) ((bk_old (hb.symm ▸ hnb)).trans h)).to ?_
    simp (maxDischargeDepth := 6) only [Rr.val, Rr.root, Rc.val, hb, hnb, hbase, ruW, putL, Nat.reduceLeDiff, xF, ruU, entryE, Nat.reduceLT, Nat.reduceAdd, Nat.reduceMul, Nat.reduceEqDiff]
    generalize hX : ext H (_ :: _) = X
    have mX : Mod [] H X := hX ▸ Mod.ext hok
    have hX3 : X.next = b + 3 := by rw [← hX, ext_next, hb]; rfl
    have h1X : bk X (b + 1) = some ⟨35, false, (partA be f rc).cells⟩ := by rw [← hX, bk_at hb (by simp)]; rfl
    have h2X : bk X (b + 2) = some ⟨35, false, (partB be f rc).cells⟩ := by rw [← hX, bk_at hb (by simp)]; rfl
    have hnX := (mX.bk (hb ▸ hnb) (by simp)).trans h
    simp only [Rc.cells, Rr.val] at h1X h2X hnX
    have l1 : b + 1 < X.next := by omega
    have l2 : b + 2 < X.next := by omega
    have ln : n < X.next := by omega
    have hlX : RefAt X l := hl.mod mX hll (by simp)
    have hrX : RefAt X r := hr.mod mX hlr (by simp)
    have hvX : ApAt X v rs := hv.of mX.next (fun m hm => mX.get m (hv.ne m hm).2 (by simp))
    have hb1 : b + 1 ∉ idsV v := fun h' => by have := (hv.ne _ h').2; omega
    have hb2 : b + 2 ∉ idsV v := fun h' => by have := (hv.ne _ h').2; omega
    rw [show X = ext X [] from rfl]
    refine w_drawB [(11, 8), (11, 9), (12, 3), (12, 4), (12, 8), (12, 9), (12, 11), (13, 11), (13, 12)] [] (by kernel_rfl) (by kernel_rfl) rfl fun ops anc hA hG => ?_
    simp only [all2_cons] at hA
    simp (maxDischargeDepth := 6) only [l1, l2, ln, h1X, h2X, hnX, ruD, ruW, putL, Nat.reduceLeDiff, xF, ruU, entryE, Nat.reduceLT, Nat.reduceAdd, Nat.reduceMul, Nat.reduceEqDiff]
    have hF : ∀ m ∈ l.blks ++ idsV v, X.get m ≠ none ∧ m < X.next := fun m hm => by
      rcases List.mem_append.1 hm with hm | hm
      · exact ⟨hlX.ne m hm, mX.lt (hll m hm)⟩
      · exact hvX.ne m hm
    have hrn := restrict_next X (l.blks ++ idsV v)
    obtain ⟨_, g, hc, v1, rfl, ha1, m1, n1⟩ := rrects_c l (partA be f rc) rs v (X.restrict (l.blks ++ idsV v)) (by rw [hrn.1, hrn.2.1]; exact Nat.le_refl _) (hlX.of fun m hm => by rw [restrict_get, if_pos (by simp [hm])]) (fun m hm => by rw [hrn.1]; exact mX.lt (hll m hm))
      (hvX.of (by rw [hrn.1]; exact Nat.le_refl _) fun m hm => by rw [restrict_get, if_pos (by simp [hm])]) hdl (by omega)
    refine genV_mod (H := ext X []) (W := idsV v) (l.blks ++ idsV v) (mX.ok hok) (by simp only [ruU, entryE, Nat.reduceLT, Nat.reduceAdd, Nat.reduceMul, Nat.reduceEqDiff]) (by kernel_rfl) (fun m hm => (hF m hm).1) (fun m hm => (hF m hm).2) (fun m hm => by simp [hm]) (v := v1) (g := g) (by simp only [ruU, entryE, Nat.reduceLT, Nat.reduceAdd, Nat.reduceMul, Nat.reduceEqDiff]; exact hc) m1 (by simp only [all2_cons, all2_nil, hA]; exact ⟨.inl trivial, .inl trivial, .inr ⟨Nat.le_refl _, trivial, hb2, trivial⟩, .inr ⟨Nat.le_refl _, trivial, hdn, trivial⟩, trivial⟩) ?_
    intro H1 D mH1 hF1 hN1 hx1 _
    simp (maxDischargeDepth := 6) only [ruD, ruW, putL, Nat.reduceLeDiff, xF, ruU, entryE, Nat.reduceLT, Nat.reduceAdd, Nat.reduceMul, Nat.reduceEqDiff]
    have hmv : ∀ m ∈ idsV v1, m ∈ idsV v ∨ X.next ≤ m := fun m hm => by have := n1 m hm; rwa [hrn.1] at this
    have hv1 : ApAt H1 v1 (rs ++ l.abs.rects (partA be f rc)) := ha1.of (Nat.le_of_eq hx1.symm) fun m hm => by
      rcases hmv m hm with h' | h'
      · exact hF1 m (by simp [h'])
      · exact hN1 m h' (ha1.ne m hm).2
    have mX1 : Mod (idsV v) H H1 := (mX.mono (by simp)).trans mH1
    have hr1 : RefAt H1 r := hrX.mod mH1 (fun m hm => mX.lt (hlr m hm)) hdr
    have hdr1 : ∀ m ∈ r.blks, m ∉ idsV v1 := fun m hm h' => by
      rcases hmv m h' with h' | h'
      · exact hdr m hm h'
      · have := hlr m hm; omega
    have hF' : ∀ m ∈ r.blks ++ idsV v1, H1.get m ≠ none ∧ m < H1.next := fun m hm => by
      rcases List.mem_append.1 hm with hm | hm
      · exact ⟨hr1.ne m hm, mX1.lt (hlr m hm)⟩
      · exact hv1.ne m hm
    have hrn1 := restrict_next H1 (r.blks ++ idsV v1)
    obtain ⟨_, g2, hc2, v2, rfl, ha2, m2, n2⟩ := rrects_c r (partB be f rc) _ v1 (H1.restrict (r.blks ++ idsV v1)) (by rw [hrn1.1, hrn1.2.1]; exact Nat.le_refl _) (hr1.of fun m hm => by rw [restrict_get, if_pos (by simp [hm])]) (fun m hm => by rw [hrn1.1]; exact mX1.lt (hlr m hm))
      (hv1.of (by rw [hrn1.1]; exact Nat.le_refl _) fun m hm => by rw [restrict_get, if_pos (by simp [hm])]) hdr1 (by rw [List.length_append, ids_len]; omega)
    refine genV_mod (H := H1) (W := idsV v1) (r.blks ++ idsV v1) (mX1.ok hok) (by simp only [ruU, entryE, Nat.reduceLT, Nat.reduceAdd, Nat.reduceMul, Nat.reduceEqDiff]) (by kernel_rfl) (fun m hm => (hF' m hm).1) (fun m hm => (hF' m hm).2) (fun m hm => by simp [hm]) (v := v2) (g := g2) (by simp only [ruU, entryE, Nat.reduceLT, Nat.reduceAdd, Nat.reduceMul, Nat.reduceEqDiff]; exact hc2) m2 (by simp only [all2_cons, all2_nil, hA, true_or, and_true]) ?_
    intro H2 D2 mH2 hF2 hN2 hx2 _
    simp (maxDischargeDepth := 6) only [hA, implies_true, Try.results62, ruD, ruW, putL, Nat.reduceLeDiff, xF, ruU, entryE, Nat.reduceLT, Nat.reduceAdd, Nat.reduceMul, Nat.reduceEqDiff]
    have hmv2 : ∀ m ∈ idsV v2, m ∈ idsV v1 ∨ H1.next ≤ m := fun m hm => by have := n2 m hm; rwa [hrn1.1] at this
    refine ⟨v2, rfl, ?_, mX1.step mH2 hok fun m hm => (hmv m hm).imp (fun h => h) (fun h' => by omega), fun m hm => ?_⟩
    · simp only [Rr.abs, Atr.rects]
      rw [← List.append_assoc]
      refine ha2.of (Nat.le_of_eq hx2.symm) fun m hm => ?_
      rcases hmv2 m hm with h' | h'
      · exact hF2 m (by simp [h'])
      · exact hN2 m h' (ha2.ne m hm).2
    · rcases hmv2 m hm with h' | h'
      · rcases hmv m h' with h' | h'
        · exact .inl h'
        · exact .inr (by omega)
      · exact .inr (by have := mX1.next; omega)

end Go.Proofs.Ytiedpcmdimgboaa

/- What the reference's bars comes to; Rects and Bars. -/
namespace Go.Proofs.Ytiedpcmdimgboaa
open Go.Ax
set_option linter.unusedSimpArgs false
set_option maxRecDepth 10000

def Atr.bars : Atr → Rc → List Rc
  | .leaf _, _ => []
  | .split be f l r, rc => (if be then [] else [⟨0, rc.top, w64 (rc.left + f), rc.h, 1⟩]) ++ (l.bars (partA be f rc) ++ r.bars (partB be f rc))
theorem abs_bars : ∀ (t : Tr) (rc : Rc), barsOf t rc = t.abs.bars rc
  | .leaf _ _, _ => rfl
  | .split _ be f l r, rc => by simp only [barsOf, Tr.abs, Atr.bars, abs_bars l, abs_bars r]
theorem rbars_len (t : Rr) : ∀ rc : Rc, (t.abs.bars rc).length ≤ t.size := by
  induction t with
  | leaf n id => intro rc; simp [Rr.abs, Atr.bars]
  | split n be f l r ihl ihr =>
    intro rc
    have h1 := ihl (partA be f rc)
    have h2 := ihr (partB be f rc)
    simp only [Rr.abs, Atr.bars, List.length_append, Rr.size]
    cases be <;> simp <;> omega

theorem ApAt.mod {H G : AHeap} {v : Value} {l : List Rc} {W : List Nat} (h : ApAt H v l) (m : Mod W H G) (hW : ∀ n ∈ idsV v, n ∉ W) : ApAt G v l :=
  h.of m.next fun n hn => m.get n (h.ne n hn).2 (hW n hn)

set_option maxHeartbeats 4000000 in
theorem rbars_c : ∀ (t : Rr) (rc : Rc) (rs : List Rc) (v : Value) (H : AHeap), H.base ≤ H.next → RefAt H t → (∀ n ∈ t.blks, n < H.next) → ApAt H v rs → (∀ n ∈ t.blks, n ∉ idsV v) → rs.length + t.size + 1 ≤ 10000 →
    CallA Try.prog 64 [t.val, rc.val, v] H (ApPost H v (rs ++ t.abs.bars rc))
  | .leaf n id, rc, rs, v, H, hok, h, hlt, hv, hd, hcap => by
    obtain ⟨b, hb⟩ : ∃ b, H.next = b := ⟨_, rfl⟩
    obtain ⟨be, f, h⟩ := h
    have hnb : n < b := hb ▸ hlt n (by simp [Rr.blks])
    have hbase : H.base ≤ b := hb ▸ hok
    refine callE_fn mixed Try.func64 rfl Try.ntmps64 (Nat.le_of_ble_eq_true rfl) ?_
    simp (maxDischargeDepth := 6) only [Rr.val, Rr.root, Rc.val, hb, hnb, hbase, h, pn58, Try.results64, ruW, putL, Nat.reduceLeDiff, xF, ruU, entryE, Nat.reduceLT, Nat.reduceAdd, Nat.reduceMul, Nat.reduceEqDiff]
    have mX : Mod [] H (ext H [⟨35, false, [.int .i64 rc.id, .int .i64 rc.top, .int .i64 rc.left, .int .i64 rc.h, .int .i64 rc.w]⟩]) := Mod.ext hok
    refine ⟨v, rfl, ?_, mX.mono (by simp), fun m hm => .inl hm⟩
    simp only [Rr.abs, Atr.bars, List.append_nil]
    exact hv.mod mX (by simp)
  | .split n be f l r, rc, rs, v, H, hok, h, hlt, hv, hd, hcap => by
    obtain ⟨b, hb⟩ : ∃ b, H.next = b := ⟨_, rfl⟩
    obtain ⟨⟨id, h⟩, hl, hr⟩ := h
    have hnb : n < b := hb ▸ hlt n (by simp [Rr.blks])
    have hbase : H.base ≤ b := hb ▸ hok
    have hll : ∀ m ∈ l.blks, m < H.next := fun m hm => hlt m (by simp [Rr.blks, hm])
    have hlr : ∀ m ∈ r.blks, m < H.next := fun m hm => hlt m (by simp [Rr.blks, hm])
    have hdn : n ∉ idsV v := hd n (by simp [Rr.blks])
    have hdl : ∀ m ∈ l.blks, m ∉ idsV v := fun m hm => hd m (by simp [Rr.blks, hm])
    have hdr : ∀ m ∈ r.blks, m ∉ idsV v := fun m hm => hd m (by simp [Rr.blks, hm])
    simp only [Rr.size] at hcap
    refine callE_fn mixed Try.func64 rfl Try.ntmps64 (Nat.le_of_ble_eq_true rfl) ?_
    simp (maxDischargeDepth := 6) only [Rr.val, Rr.root, Rc.val, hb, hnb, hbase, h, pp58, ruW, putL, Nat.reduceLeDiff, xF, ruU, entryE, Nat.reduceLT, Nat.reduceAdd, Nat.reduceMul, Nat.reduceEqDiff]
    refine (rsides_c n id be f l.val r.val rc (ext H (_ :: _)) ((bk_old (hb.symm ▸ hnb)).trans h)).to ?_
    simp (maxDischargeDepth := 6) only [Rr.val, Rr.root, Rc.val, hb, hnb, hbase, h, ruW, putL, Nat.reduceLeDiff, xF, ruU, entryE, Nat.reduceLT, Nat.reduceAdd, Nat.reduceMul, Nat.reduceEqDiff]
    generalize hX : ext H (_ :: _) = X
    have mX : Mod [] H X := hX ▸ Mod.ext hok
    have hX3 : X.next = b + 3 := by rw [← hX, ext_next, hb]; rfl
    have h0X : bk X (b + 0) = some ⟨35, false, rc.cells⟩ := by rw [← hX, bk_at hb (by simp)]; rfl
    have h1X : bk X (b + 1) = some ⟨35, false, (partA be f rc).cells⟩ := by rw [← hX, bk_at hb (by simp)]; rfl
    have h2X : bk X (b + 2) = some ⟨35, false, (partB be f rc).cells⟩ := by rw [← hX, bk_at hb (by simp)]; rfl
    have hnX := (mX.bk (hb ▸ hnb) (by simp)).trans h
    simp only [Rc.cells, Rr.val] at h0X h1X h2X hnX
    have l0 : b + 0 < X.next := by omega
    have ln : n < X.next := by omega
    have hvX : ApAt X v rs := hv.mod mX (by simp)
    have hbv : ∀ i, b + i ∉ idsV v := fun i h' => by have := (hv.ne _ h').2; omega
    -- what the region that appends the own bar leaves
    refine condC_join (fun E' H' => ∃ v1, ApAt H' v1 (rs ++ if be then [] else [⟨0, rc.top, w64 (rc.left + f), rc.h, 1⟩]) ∧ Mod (idsV v) X H' ∧ (∀ m ∈ idsV v1, m ∈ idsV v ∨ X.next ≤ m) ∧ E' 0 = .pointer (some ⟨n, 0, none⟩) ∧ E' 2 = v1 ∧ E' 7 = .pointer (some ⟨b + 1, 0, none⟩) ∧ E' 8 = .pointer (some ⟨b + 2, 0, none⟩)) (fun h0 => ?_) (fun h0 => ?_) ?_
    · have h0 : be = false := by cases be <;> first | rfl | exact absurd h0 (by decide)
      subst h0
      rw [show X = ext X [] from rfl]
      simp (maxDischargeDepth := 6) only [ruW, putL, Nat.reduceLeDiff, xF, ruU, entryE, Nat.reduceLT, Nat.reduceAdd, Nat.reduceMul, Nat.reduceEqDiff]
      refine w_drawB [(14, 2), (14, 4), (14, 8), (14, 11), (14, 13), (15, 13), (15, 14)] [] (by kernel_rfl) (by kernel_rfl) rfl fun ops anc hA hG => ?_
      simp only [all2_cons] at hA
      simp (maxDischargeDepth := 6) only [l0, ln, h0X, hnX, ruD, ruW, putL, Nat.reduceLeDiff, xF, ruU, entryE, Nat.reduceLT, Nat.reduceAdd, Nat.reduceMul, Nat.reduceEqDiff]
      rw [wd_app (by simp only [ruU, entryE, Nat.reduceLT, Nat.reduceAdd, Nat.reduceMul, Nat.reduceEqDiff])]
      generalize hY : ext X _ = Y
      have mY : Mod [] X Y := hY ▸ Mod.ext (mX.ok hok)
      have hY1 : Y.next = X.next + 1 := by rw [← hY, ext_next]; rfl
      have hYn : bk Y (X.next + 0) = some ⟨35, false, (⟨0, rc.top, w64 (rc.left + f), rc.h, 1⟩ : Rc).cells⟩ := by rw [← hY, bk_at rfl (by simp)]; rfl
      have hvY : ApAt Y v rs := hvX.mod mY (by simp)
      have hF : ∀ m ∈ (X.next + 0) :: idsV v, Y.get m ≠ none ∧ m < Y.next := fun m hm => by
        rcases List.mem_cons.1 hm with rfl | hm
        · exact ⟨bk_ne hYn, by omega⟩
        · exact hvY.ne m hm
      have hrn := restrict_next Y ((X.next + 0) :: idsV v)
      obtain ⟨v', g, hap, _, ha, hmd, hnv⟩ := ap_app (H := Y.restrict ((X.next + 0) :: idsV v)) (v := v) (rs := rs) (r := ⟨0, rc.top, w64 (rc.left + f), rc.h, 1⟩) (k := X.next + 0) (s := some 0)
        (hvY.of (by rw [hrn.1]; exact Nat.le_refl _) fun m hm => by rw [restrict_get, if_pos (by simp [hm])]) ((bk_get (by rw [restrict_get, if_pos (by simp)])).trans hYn) (by omega)
      refine genV_modO (W := idsV v) ((X.next + 0) :: idsV v) (mY.ok (mX.ok hok)) (fun m hm => (hF m hm).1) (fun m hm => (hF m hm).2) (fun m hm => by simp [hm]) (app_op (v := v') (G := g) (by simp only [ruU, entryE, Nat.reduceLT, Nat.reduceAdd, Nat.reduceMul, Nat.reduceEqDiff]) (by simp only [ruU, entryE, Nat.reduceLT, Nat.reduceAdd, Nat.reduceMul, Nat.reduceEqDiff]; exact hap)) (hmd (by rw [hrn.1, hrn.2.1]; exact Nat.le_refl _)) (by simp only [all2_cons, all2_nil, hA, true_or, and_true]) ?_
      intro H1 D mH1 hF1 hN1 hx1 _
      simp (maxDischargeDepth := 6) only [hA, implies_true, ruD, ruW, putL, Nat.reduceLeDiff, xF, ruU, entryE, Nat.reduceLT, Nat.reduceAdd, Nat.reduceMul, Nat.reduceEqDiff]
      rw [joinC_normal]
      have hge : ∀ m ∈ idsV v', Y.next ≤ m := fun m hm => by have := hnv m hm; rwa [hrn.1] at this
      refine ⟨_, rfl, v', ?_, (mY.mono (by simp)).trans mH1, fun m hm => .inr ?_, ?_, ?_, ?_, ?_⟩ <;> try simp only [ruU, entryE, Nat.reduceLT, Nat.reduceAdd, Nat.reduceMul, Nat.reduceEqDiff]
      · refine ha.of (Nat.le_of_eq hx1.symm) fun m hm => hN1 m (hge m hm) (ha.ne m hm).2
      · have := hge m hm; omega
    · have h0 : be = true := by cases be <;> first | rfl | exact absurd h0 (by decide)
      subst h0
      rw [show X = ext X [] from rfl]
      simp (maxDischargeDepth := 6) only [ruW, putL, Nat.reduceLeDiff, xF, ruU, entryE, Nat.reduceLT, Nat.reduceAdd, Nat.reduceMul, Nat.reduceEqDiff]
      rw [joinC_normal]
      refine ⟨_, rfl, v, by simpa [ext_nil] using hvX, Mod.refl, fun m hm => .inl hm, ?_, ?_, ?_, ?_⟩ <;> simp only [ruU, entryE, Nat.reduceLT, Nat.reduceAdd, Nat.reduceMul, Nat.reduceEqDiff]
    · rintro E Z ⟨v0, hv0, mZ, hmv0, e0, e2, e7, e8⟩
      generalize hrs : (rs ++ if be then [] else [⟨0, rc.top, w64 (rc.left + f), rc.h, 1⟩] : List Rc) = rs0 at hv0
      have hrl : rs0.length ≤ rs.length + 1 := by rw [← hrs]; cases be <;> simp
      have mXZ : Mod (idsV v) H Z := (mX.mono (by simp)).trans mZ
      have lnZ : n < Z.next := mZ.lt ln
      have l1Z : b + 1 < Z.next := mZ.lt (by omega)
      have l2Z : b + 2 < Z.next := mZ.lt (by omega)
      have hnZ := (mZ.bk ln hdn).trans hnX
      have h1Z := (mZ.bk (n := b + 1) (by omega) (hbv 1)).trans h1X
      have h2Z := (mZ.bk (n := b + 2) (by omega) (hbv 2)).trans h2X
      have hlZ : RefAt Z l := (hl.mod mX hll (by simp)).mod mZ (fun m hm => mX.lt (hll m hm)) hdl
      have hrZ : RefAt Z r := (hr.mod mX hlr (by simp)).mod mZ (fun m hm => mX.lt (hlr m hm)) hdr
      have hdn0 : n ∉ idsV v0 := fun h' => by
        rcases hmv0 n h' with h' | h'
        · exact hdn h'
        · omega
      have hdl0 : ∀ m ∈ l.blks, m ∉ idsV v0 := fun m hm h' => by
        rcases hmv0 m h' with h' | h'
        · exact hdl m hm h'
        · have := hll m hm; omega
      have hdr0 : ∀ m ∈ r.blks, m ∉ idsV v0 := fun m hm h' => by
        rcases hmv0 m h' with h' | h'
        · exact hdr m hm h'
        · have := hlr m hm; omega
      have hb20 : b + 2 ∉ idsV v0 := fun h' => by
        rcases hmv0 _ h' with h' | h'
        · exact hbv 2 h'
        · omega
      rw [show Z = ext Z [] from rfl]
      simp (maxDischargeDepth := 6) only [ruW, putL, Nat.reduceLeDiff, xF, ruU, entryE, Nat.reduceLT, Nat.reduceAdd, Nat.reduceMul, Nat.reduceEqDiff]
      refine w_drawB [(11, 8), (11, 9), (12, 3), (12, 4), (12, 8), (12, 9), (12, 11), (13, 11), (13, 12)] [] (by kernel_rfl) (by kernel_rfl) rfl fun ops anc hA hG => ?_
      simp only [all2_cons] at hA
      simp (maxDischargeDepth := 6) only [e0, e2, e7, e8, l1Z, l2Z, lnZ, h1Z, h2Z, hnZ, ruD, ruW, putL, Nat.reduceLeDiff, xF, ruU, entryE, Nat.reduceLT, Nat.reduceAdd, Nat.reduceMul, Nat.reduceEqDiff]
      have hF : ∀ m ∈ l.blks ++ idsV v0, Z.get m ≠ none ∧ m < Z.next := fun m hm => by
        rcases List.mem_append.1 hm with hm | hm
        · exact ⟨hlZ.ne m hm, mXZ.lt (hll m hm)⟩
        · exact hv0.ne m hm
      have hrn := restrict_next Z (l.blks ++ idsV v0)
      obtain ⟨_, g, hc, v1, rfl, ha1, m1, n1⟩ := rbars_c l (partA be f rc) rs0 v0 (Z.restrict (l.blks ++ idsV v0)) (by rw [hrn.1, hrn.2.1]; exact Nat.le_refl _) (hlZ.of fun m hm => by rw [restrict_get, if_pos (by simp [hm])]) (fun m hm => by rw [hrn.1]; exact mXZ.lt (hll m hm))
        (hv0.of (by rw [hrn.1]; exact Nat.le_refl _) fun m hm => by rw [restrict_get, if_pos (by simp [hm])]) hdl0 (by omega)
      refine genV_mod (H := ext Z []) (W := idsV v0) (l.blks ++ idsV v0) (mXZ.ok hok) (by simp only [ruU, entryE, Nat.reduceLT, Nat.reduceAdd, Nat.reduceMul, Nat.reduceEqDiff]) (by kernel_rfl) (fun m hm => (hF m hm).1) (fun m hm => (hF m hm).2) (fun m hm => by simp [hm]) (v := v1) (g := g) (by simp only [e2, ruU, entryE, Nat.reduceLT, Nat.reduceAdd, Nat.reduceMul, Nat.reduceEqDiff]; exact hc) m1 (by simp only [all2_cons, all2_nil, hA]; exact ⟨.inl trivial, .inl trivial, .inr ⟨Nat.le_refl _, trivial, hb20, trivial⟩, .inr ⟨Nat.le_refl _, trivial, hdn0, trivial⟩, trivial⟩) ?_
      intro H1 D mH1 hF1 hN1 hx1 _
      simp (maxDischargeDepth := 6) only [ruD, ruW, putL, Nat.reduceLeDiff, xF, ruU, entryE, Nat.reduceLT, Nat.reduceAdd, Nat.reduceMul, Nat.reduceEqDiff]
      have hmv : ∀ m ∈ idsV v1, m ∈ idsV v0 ∨ Z.next ≤ m := fun m hm => by have := n1 m hm; rwa [hrn.1] at this
      have hv1 : ApAt H1 v1 (rs0 ++ l.abs.bars (partA be f rc)) := ha1.of (Nat.le_of_eq hx1.symm) fun m hm => by
        rcases hmv m hm with h' | h'
        · exact hF1 m (by simp [h'])
        · exact hN1 m h' (ha1.ne m hm).2
      have mX1 : Mod (idsV v) H H1 := mXZ.step mH1 hok fun m hm => (hmv0 m hm).imp (fun h => h) (fun h' => by omega)
      have hr1 : RefAt H1 r := hrZ.mod mH1 (fun m hm => mXZ.lt (hlr m hm)) hdr0
      have hdr1 : ∀ m ∈ r.blks, m ∉ idsV v1 := fun m hm h' => by
        rcases hmv m h' with h' | h'
        · exact hdr0 m hm h'
        · have := mXZ.lt (hlr m hm); omega
      have hF' : ∀ m ∈ r.blks ++ idsV v1, H1.get m ≠ none ∧ m < H1.next := fun m hm => by
        rcases List.mem_append.1 hm with hm | hm
        · exact ⟨hr1.ne m hm, mX1.lt (hlr m hm)⟩
        · exact hv1.ne m hm
      have hbl := rbars_len l (partA be f rc)
      have hrn1 := restrict_next H1 (r.blks ++ idsV v1)
      obtain ⟨_, g2, hc2, v2, rfl, ha2, m2, n2⟩ := rbars_c r (partB be f rc) _ v1 (H1.restrict (r.blks ++ idsV v1)) (by rw [hrn1.1, hrn1.2.1]; exact Nat.le_refl _) (hr1.of fun m hm => by rw [restrict_get, if_pos (by simp [hm])]) (fun m hm => by rw [hrn1.1]; exact mX1.lt (hlr m hm))
        (hv1.of (by rw [hrn1.1]; exact Nat.le_refl _) fun m hm => by rw [restrict_get, if_pos (by simp [hm])]) hdr1 (by rw [List.length_append]; omega)
      refine genV_mod (H := H1) (W := idsV v1) (r.blks ++ idsV v1) (mX1.ok hok) (by simp only [ruU, entryE, Nat.reduceLT, Nat.reduceAdd, Nat.reduceMul, Nat.reduceEqDiff]) (by kernel_rfl) (fun m hm => (hF' m hm).1) (fun m hm => (hF' m hm).2) (fun m hm => by simp [hm]) (v := v2) (g := g2) (by simp only [ruU, entryE, Nat.reduceLT, Nat.reduceAdd, Nat.reduceMul, Nat.reduceEqDiff]; exact hc2) m2 (by simp only [all2_cons, all2_nil, hA, true_or, and_true]) ?_
      intro H2 D2 mH2 hF2 hN2 hx2 _
      simp (maxDischargeDepth := 6) only [hA, implies_true, Try.results64, ruD, ruW, putL, Nat.reduceLeDiff, xF, ruU, entryE, Nat.reduceLT, Nat.reduceAdd, Nat.reduceMul, Nat.reduceEqDiff]
      have hmv2 : ∀ m ∈ idsV v2, m ∈ idsV v1 ∨ H1.next ≤ m := fun m hm => by have := n2 m hm; rwa [hrn1.1] at this
      have hvv : ∀ m ∈ idsV v1, m ∈ idsV v ∨ H.next ≤ m := fun m hm => by
        rcases hmv m hm with h' | h'
        · exact (hmv0 m h').imp (fun h => h) (fun h' => by omega)
        · exact .inr (by have := mXZ.next; omega)
      refine ⟨v2, rfl, ?_, mX1.step mH2 hok hvv, fun m hm => ?_⟩
      · simp only [Rr.abs, Atr.bars]
        rw [← List.append_assoc, hrs, ← List.append_assoc]
        refine ha2.of (Nat.le_of_eq hx2.symm) fun m hm => ?_
        rcases hmv2 m hm with h' | h'
        · exact hF2 m (by simp [h'])
        · exact hN2 m h' (ha2.ne m hm).2
      · rcases hmv2 m hm with h' | h'
        · exact hvv m h'
        · exact .inr (by have := mX1.next; omega)

def Rw.rects (y : Rw) : List Rc := y.root.abs.rects y.frame
def Rw.bars (y : Rw) : List Rc := y.root.abs.bars y.frame

theorem apPost_rows {H : AHeap} {l : List Rc} {out : Out} {H1 : AHeap} (h : ApPost H (.slice none 0 0) l out H1) : RowsPost H l out H1 := by
  obtain ⟨v', rfl, ha, hm, hn⟩ := h
  rcases ha with ⟨rfl, rfl⟩ | ⟨m, h1, h2, rfl, hb⟩
  · exact ⟨H.next, by simp [rowsV], Nat.le_refl _, hm, fun h => absurd rfl h⟩
  · refine ⟨m, by rw [rowsV, if_neg h1], ?_, hm, fun _ => hb⟩
    rcases hn m (by simp [idsV]) with h | h
    · simp [idsV] at h
    · exact h

theorem rRects_c (o : Nat) (y : Rw) (H : AHeap) (h : OwnAt H o y) (hr : RefAt H y.root) (hcap : y.root.size + 1 ≤ 10000) : CallS Try.prog 34 [.pointer (some ⟨o, 0, none⟩)] H (.ok (rowsV H.next y.rects)) (ext H (rowsM y.rects)) := by
  obtain ⟨b, hb⟩ : ∃ b, H.next = b := ⟨_, rfl⟩
  refine callS_fn mixed Try.func34 rfl Try.ntmps34 (Nat.le_of_ble_eq_true rfl) fun wf hsc => ?_
  have ho : o < b := hb ▸ wf.lt h
  have hlt : ∀ n ∈ y.root.blks, n < H.next := hr.lt wf
  have h' := h
  simp only [OwnAt, Rw.cells] at h'
  have iv : idsV y.root.val = [y.root.root] := rfl
  simp (maxDischargeDepth := 6) only [ruW, putL, Nat.reduceLeDiff, xF, ruU, entryE, Nat.reduceLT, Nat.reduceAdd, Nat.reduceMul, Nat.reduceEqDiff]
  refine w_drawB [(6, 3), (6, 5), (7, 6)] [] (by kernel_rfl) (by kernel_rfl) rfl fun ops anc hA hG => ?_
  simp only [all2_cons] at hA
  simp (maxDischargeDepth := 6) only [hb, ho, h', iv, hA, ruD, ruW, putL, Nat.reduceLeDiff, xF, ruU, entryE, Nat.reduceLT, Nat.reduceAdd, Nat.reduceMul, Nat.reduceEqDiff]
  refine genV_quiet (v := y.frame.val) [o] (by simp (maxDischargeDepth := 6) only [ruU, entryE, Nat.reduceLT, Nat.reduceAdd, Nat.reduceMul, Nat.reduceEqDiff]) (by kernel_rfl) (by decide) (fun m hm => by simp (maxDischargeDepth := 6) only [List.mem_singleton] at hm; subst hm; exact bk_ne (H := H) h) (fun K _ hg => ?_) (by simp (maxDischargeDepth := 6) only [ruD, ruW, putL, Nat.reduceLeDiff, xF, ruU, entryE, Nat.reduceLT, Nat.reduceAdd, Nat.reduceMul, Nat.reduceEqDiff]) ?_
  · simp only [ruU, entryE, Nat.reduceLT, Nat.reduceAdd, Nat.reduceMul, Nat.reduceEqDiff]
    exact rall_c o y K ((bk_get (hg o (by simp))).trans h)
  simp (maxDischargeDepth := 6) only [hb, hA, ruD, ruW, putL, Nat.reduceLeDiff, xF, ruU, entryE, Nat.reduceLT, Nat.reduceAdd, Nat.reduceMul, Nat.reduceEqDiff]
  refine genV_ext (H := ext H []) (v := rowsV b y.rects) (M := rowsM y.rects) y.root.blks (by simp (maxDischargeDepth := 6) only [ruU, entryE, Nat.reduceLT, Nat.reduceAdd, Nat.reduceMul, Nat.reduceEqDiff]) (by kernel_rfl) (by decide) hr.ne (fun G hGn hg => ?_) (by simp (maxDischargeDepth := 6) only [hA, ruD, ruW, putL, Nat.reduceLeDiff, xF, ruU, entryE, Nat.reduceLT, Nat.reduceAdd, Nat.reduceMul, Nat.reduceEqDiff]) ?_
  · simp only [ruU, entryE, Nat.reduceLT, Nat.reduceAdd, Nat.reduceMul, Nat.reduceEqDiff]
    rw [show b = G.next by rw [hGn, ext_nil, hb]]
    refine callS_rows fun wf _ => (rrects_c y.root y.frame [] (.slice none 0 0) G wf.base (hr.of fun m hm => hg m hm) ((hr.of fun m hm => hg m hm).lt wf) (.inl ⟨rfl, rfl⟩) (by simp [idsV]) (by simpa using hcap)).mono fun out H1 hp => apPost_rows (by rw [List.nil_append] at hp; exact hp)
  simp (maxDischargeDepth := 6) only [hA, Try.results34, ruD, ruW, putL, Nat.reduceLeDiff, xF, ruU, entryE, Nat.reduceLT, Nat.reduceAdd, Nat.reduceMul, Nat.reduceEqDiff]
  rw [← hb]
  exact Fin.same

theorem rBars_c (o : Nat) (y : Rw) (H : AHeap) (h : OwnAt H o y) (hr : RefAt H y.root) (hcap : y.root.size + 1 ≤ 10000) : CallS Try.prog 35 [.pointer (some ⟨o, 0, none⟩)] H (.ok (rowsV H.next y.bars)) (ext H (rowsM y.bars)) := by
  obtain ⟨b, hb⟩ : ∃ b, H.next = b := ⟨_, rfl⟩
  refine callS_fn mixed Try.func35 rfl Try.ntmps35 (Nat.le_of_ble_eq_true rfl) fun wf hsc => ?_
  have ho : o < b := hb ▸ wf.lt h
  have h' := h
  simp only [OwnAt, Rw.cells] at h'
  have iv : idsV y.root.val = [y.root.root] := rfl
  simp (maxDischargeDepth := 6) only [ruW, putL, Nat.reduceLeDiff, xF, ruU, entryE, Nat.reduceLT, Nat.reduceAdd, Nat.reduceMul, Nat.reduceEqDiff]
  refine w_drawB [(6, 3), (6, 5), (7, 6)] [] (by kernel_rfl) (by kernel_rfl) rfl fun ops anc hA hG => ?_
  simp only [all2_cons] at hA
  simp (maxDischargeDepth := 6) only [hb, ho, h', iv, hA, ruD, ruW, putL, Nat.reduceLeDiff, xF, ruU, entryE, Nat.reduceLT, Nat.reduceAdd, Nat.reduceMul, Nat.reduceEqDiff]
  refine genV_quiet (v := y.frame.val) [o] (by simp (maxDischargeDepth := 6) only [ruU, entryE, Nat.reduceLT, Nat.reduceAdd, Nat.reduceMul, Nat.reduceEqDiff]) (by kernel_rfl) (by decide) (fun m hm => by simp (maxDischargeDepth := 6) only [List.mem_singleton] at hm; subst hm; exact bk_ne (H := H) h) (fun K _ hg => ?_) (by simp (maxDischargeDepth := 6) only [ruD, ruW, putL, Nat.reduceLeDiff, xF, ruU, entryE, Nat.reduceLT, Nat.reduceAdd, Nat.reduceMul, Nat.reduceEqDiff]) ?_
  · simp only [ruU, entryE, Nat.reduceLT, Nat.reduceAdd, Nat.reduceMul, Nat.reduceEqDiff]
    exact rall_c o y K ((bk_get (hg o (by simp))).trans h)
  simp (maxDischargeDepth := 6) only [hb, hA, ruD, ruW, putL, Nat.reduceLeDiff, xF, ruU, entryE, Nat.reduceLT, Nat.reduceAdd, Nat.reduceMul, Nat.reduceEqDiff]
  refine genV_ext (H := ext H []) (v := rowsV b y.bars) (M := rowsM y.bars) y.root.blks (by simp (maxDischargeDepth := 6) only [ruU, entryE, Nat.reduceLT, Nat.reduceAdd, Nat.reduceMul, Nat.reduceEqDiff]) (by kernel_rfl) (by decide) hr.ne (fun G hGn hg => ?_) (by simp (maxDischargeDepth := 6) only [hA, ruD, ruW, putL, Nat.reduceLeDiff, xF, ruU, entryE, Nat.reduceLT, Nat.reduceAdd, Nat.reduceMul, Nat.reduceEqDiff]) ?_
  · simp only [ruU, entryE, Nat.reduceLT, Nat.reduceAdd, Nat.reduceMul, Nat.reduceEqDiff]
    rw [show b = G.next by rw [hGn, ext_nil, hb]]
    refine callS_rows fun wf _ => (rbars_c y.root y.frame [] (.slice none 0 0) G wf.base (hr.of fun m hm => hg m hm) ((hr.of fun m hm => hg m hm).lt wf) (.inl ⟨rfl, rfl⟩) (by simp [idsV]) (by simpa using hcap)).mono fun out H1 hp => apPost_rows (by rw [List.nil_append] at hp; exact hp)
  simp (maxDischargeDepth := 6) only [hA, Try.results35, ruD, ruW, putL, Nat.reduceLeDiff, xF, ruU, entryE, Nat.reduceLT, Nat.reduceAdd, Nat.reduceMul, Nat.reduceEqDiff]
  rw [← hb]
  exact Fin.same

end Go.Proofs.Ytiedpcmdimgboaa

/- What the reference's Rect, step, Next and Previous come to. -/
namespace Go.Proofs.Ytiedpcmdimgboaa
open Go.Ax
set_option linter.unusedSimpArgs false
set_option maxRecDepth 10000

theorem rw_len (y : Rw) : y.rects.length = y.root.size + 1 := ids_len y.root y.frame
theorem rw_ne (y : Rw) : y.rects ≠ [] := fun h => by have := rw_len y; rw [h] at this; simp at this

theorem rowsV_ne {N : Nat} {l : List Rc} (h : l ≠ []) : rowsV N l = .slice (some ⟨N, 0, none⟩) l.length l.length := by rw [rowsV, if_neg h]
theorem rowsM_ne {l : List Rc} (h : l ≠ []) : rowsM l = [⟨35, true, rowsOf l⟩] := by rw [rowsM, if_neg h]

theorem rRect_c (o : Nat) (y : Rw) (id : Int) (H : AHeap) (h : OwnAt H o y) (hr : RefAt H y.root) (hcap : y.root.size + 1 ≤ 10000) :
    Pure 31 [.pointer (some ⟨o, 0, none⟩), .int .i64 id] H (.tuple #[(rectOf id y.rects).1.val, .bool (rectOf id y.rects).2]) := by
  obtain ⟨b, hb⟩ : ∃ b, H.next = b := ⟨_, rfl⟩
  have hl := rw_len y
  have hne := rw_ne y
  refine callS_fn mixed Try.func31 rfl Try.ntmps31 (Nat.le_of_ble_eq_true rfl) fun wf hsc => ?_
  have hbase : H.base ≤ b := hb ▸ wf.base
  simp (maxDischargeDepth := 6) only [hb, hbase, ruW, putL, Nat.reduceLeDiff, xF, ruU, entryE, Nat.reduceLT, Nat.reduceAdd, Nat.reduceMul, Nat.reduceEqDiff]
  refine (rRects_c o y (ext H (_ :: _)) ((bk_old (wf.lt h)).trans h) (hr.of fun n hn => ext_get_old (hr.lt wf n hn)) hcap).to ?_
  rw [rowsV_ne hne, rowsM_ne hne]
  simp (maxDischargeDepth := 6) only [hb, hbase, List.length_cons, List.length_nil, Nat.zero_add, ruW, putL, Nat.reduceLeDiff, xF, ruU, entryE, Nat.reduceLT, Nat.reduceAdd, Nat.reduceMul, Nat.reduceEqDiff]
  refine w_env fun E hE => ?_
  have e1 : E 1 = .int .i64 id := by rw [hE]; simp only [ruU, entryE, Nat.reduceLT, Nat.reduceAdd, Nat.reduceMul, Nat.reduceEqDiff]
  have e4 : E 4 = .pointer (some ⟨b + 0, 0, none⟩) := by rw [hE]; simp only [ruU, entryE, Nat.reduceLT, Nat.reduceAdd, Nat.reduceMul, Nat.reduceEqDiff]
  have e6 : E 6 = .slice (some ⟨b + 1, 0, none⟩) y.rects.length y.rects.length := by rw [hE]; simp only [ruU, entryE, Nat.reduceLT, Nat.reduceAdd, Nat.reduceMul, Nat.reduceEqDiff]
  have e7 : E 7 = .int .i64 0 := by rw [hE]; simp only [ruU, entryE, Nat.reduceLT, Nat.reduceAdd, Nat.reduceMul, Nat.reduceEqDiff]
  clear hE
  refine blockC_meet (fun E' H' => H' = ext H [⟨35, false, [.int .i64 0, .int .i64 0, .int .i64 0, .int .i64 0, .int .i64 0]⟩, ⟨35, true, rowsOf y.rects⟩] ∧ E' 4 = .pointer (some ⟨b + 0, 0, none⟩) ∧ y.rects.find? (hasId id) = none) ?_ ?_
  · refine w_loop (fun (k : Nat) E' H' => H' = ext H [⟨35, false, [.int .i64 0, .int .i64 0, .int .i64 0, .int .i64 0, .int .i64 0]⟩, ⟨35, true, rowsOf y.rects⟩] ∧ E' 1 = .int .i64 id ∧ E' 4 = .pointer (some ⟨b + 0, 0, none⟩) ∧ E' 6 = .slice (some ⟨b + 1, 0, none⟩) y.rects.length y.rects.length ∧ E' 7 = .int .i64 (k : Int) ∧ k ≤ y.rects.length ∧ y.rects.find? (hasId id) = (y.rects.drop k).find? (hasId id)) (fun k => y.rects.length - k) 0 ⟨rfl, e1, e4, e6, e7, Nat.zero_le _, by simp⟩ ?_
    clear e1 e4 e6 e7
    rintro k E H' ⟨hH, e1, e4, e6, e7, hk, hfd⟩
    rw [hH]
    by_cases hkl : k = y.rects.length
    · have hc : decide ((k : Int) < (y.rects.length : Int)) = false := by simp [hkl]
      simp (maxDischargeDepth := 6) only [e1, e4, e6, e7, hc, ruW, putL, Nat.reduceLeDiff, xF, ruU, entryE, Nat.reduceLT, Nat.reduceAdd, Nat.reduceMul, Nat.reduceEqDiff]
      refine joinR_normal ⟨rfl, ?_, by rw [hfd, hkl, List.drop_length]; rfl⟩
      simp only [e4, ruU, entryE, Nat.reduceLT, Nat.reduceAdd, Nat.reduceMul, Nat.reduceEqDiff]
    · have hlt : k < y.rects.length := by omega
      have hc : decide ((k : Int) < (y.rects.length : Int)) = true := decide_eq_true (by omega)
      obtain ⟨r1, hr1⟩ := get_ex hlt
      have i1 := rows_ia (n := b + 1) (s := none) (cap := y.rects.length) (i := (k : Int)) rfl hlt
      have q0 := rows_load0 (o := true) hr1
      have q1 := rows_load (o := true) hr1
      simp only [Rc.val] at q1
      have hdr : y.rects.drop k = r1 :: y.rects.drop (k + 1) := by
        rw [List.drop_eq_getElem_cons hlt]
        rw [List.getElem?_eq_getElem hlt] at hr1
        rw [Option.some.inj hr1]
      by_cases hid : r1.id = id
      · have hro : rectOf id y.rects = (r1, true) := by
          unfold rectOf
          rw [hfd, hdr, List.find?_cons_of_pos (by simp [hasId, hid])]
        rw [hro]
        simp (maxDischargeDepth := 6) only [e1, e4, e6, e7, hc, i1, q0, q1, hb, hbase, hid, decide_true, joinR_ret, Try.results31, ruW, putL, Nat.reduceLeDiff, xF, ruU, entryE, Nat.reduceLT, Nat.reduceAdd, Nat.reduceMul, Nat.reduceEqDiff]
        simp only [Rc.val, hid]
        exact Fin.pure rfl
      · simp (maxDischargeDepth := 6) only [e1, e4, e6, e7, hc, i1, q0, hb, hbase, hid, decide_false, wrap_succ (show k < 1000000 by omega), ruW, putL, Nat.reduceLeDiff, xF, ruU, entryE, Nat.reduceLT, Nat.reduceAdd, Nat.reduceMul, Nat.reduceEqDiff]
        refine loopC_next ⟨k + 1, by omega, rfl, ?_, ?_, ?_, ?_, by omega, ?_⟩ <;> try simp only [e1, e4, e6, e7, ruU, entryE, Nat.reduceLT, Nat.reduceAdd, Nat.reduceMul, Nat.reduceEqDiff]
        rw [hfd, hdr, List.find?_cons_of_neg (by simp [hasId, hid])]
  · clear e1 e4 e6 e7
    rintro E H' ⟨hH, e4, hfd⟩
    rw [hH]
    have hro : rectOf id y.rects = (⟨0, 0, 0, 0, 0⟩, false) := by unfold rectOf; rw [hfd]
    rw [hro]
    simp (maxDischargeDepth := 6) only [e4, hb, hbase, Try.results31, ruW, putL, Nat.reduceLeDiff, xF, ruU, entryE, Nat.reduceLT, Nat.reduceAdd, Nat.reduceMul, Nat.reduceEqDiff]
    exact Fin.pure rfl

theorem rstep_c (o : Nat) (y : Rw) (id by1 : Int) (H : AHeap) (h : OwnAt H o y) (hr : RefAt H y.root) (hby : by1 = 1 ∨ by1 = -1) (hcap : y.root.size + 1 ≤ 10000) :
    Pure 61 [.pointer (some ⟨o, 0, none⟩), .int .i64 id, .int .i64 by1] H (.tuple #[.int .i64 (nearA y.rects id by1).1, .bool (nearA y.rects id by1).2]) := by
  obtain ⟨b, hb⟩ : ∃ b, H.next = b := ⟨_, rfl⟩
  have hl := rw_len y
  have hne := rw_ne y
  refine callS_fn mixed Try.func61 rfl Try.ntmps61 (Nat.le_of_ble_eq_true rfl) fun wf hsc => ?_
  have hbase : H.base ≤ b := hb ▸ wf.base
  simp (maxDischargeDepth := 6) only [hb, hbase, ruW, putL, Nat.reduceLeDiff, xF, ruU, entryE, Nat.reduceLT, Nat.reduceAdd, Nat.reduceMul, Nat.reduceEqDiff]
  refine (rRects_c o y (ext H []) h hr hcap).to ?_
  rw [rowsV_ne hne, rowsM_ne hne]
  simp (maxDischargeDepth := 6) only [hb, hbase, List.length_cons, List.length_nil, Nat.zero_add, ruW, putL, Nat.reduceLeDiff, xF, ruU, entryE, Nat.reduceLT, Nat.reduceAdd, Nat.reduceMul, Nat.reduceEqDiff]
  refine w_env fun E hE => ?_
  have e1 : E 1 = .int .i64 id := by rw [hE]; simp only [ruU, entryE, Nat.reduceLT, Nat.reduceAdd, Nat.reduceMul, Nat.reduceEqDiff]
  have e2 : E 2 = .int .i64 by1 := by rw [hE]; simp only [ruU, entryE, Nat.reduceLT, Nat.reduceAdd, Nat.reduceMul, Nat.reduceEqDiff]
  have e8 : E 8 = .slice (some ⟨b, 0, none⟩) y.rects.length y.rects.length := by rw [hE]; simp only [ruU, entryE, Nat.reduceLT, Nat.reduceAdd, Nat.reduceMul, Nat.reduceEqDiff]; rfl
  have e9 : E 9 = .int .i64 0 := by rw [hE]; simp only [ruU, entryE, Nat.reduceLT, Nat.reduceAdd, Nat.reduceMul, Nat.reduceEqDiff]
  clear hE
  refine blockC_meet (fun E' H' => H' = ext H [⟨35, true, rowsOf y.rects⟩] ∧ ixOf id y.rects = none) ?_ ?_
  · refine w_loop (fun (k : Nat) E' H' => H' = ext H [⟨35, true, rowsOf y.rects⟩] ∧ E' 1 = .int .i64 id ∧ E' 2 = .int .i64 by1 ∧ E' 8 = .slice (some ⟨b, 0, none⟩) y.rects.length y.rects.length ∧ E' 9 = .int .i64 (k : Int) ∧ k ≤ y.rects.length ∧ ixOf id y.rects = (ixOf id (y.rects.drop k)).map (· + k)) (fun k => y.rects.length - k) 0 ⟨rfl, e1, e2, e8, e9, Nat.zero_le _, by simp⟩ ?_
    clear e1 e2 e8 e9
    rintro k E H' ⟨hH, e1, e2, e8, e9, hk, hix⟩
    rw [hH]
    by_cases hkl : k = y.rects.length
    · have hc : decide ((k : Int) < (y.rects.length : Int)) = false := by simp [hkl]
      simp (maxDischargeDepth := 6) only [e1, e2, e8, e9, hc, ruW, putL, Nat.reduceLeDiff, xF, ruU, entryE, Nat.reduceLT, Nat.reduceAdd, Nat.reduceMul, Nat.reduceEqDiff]
      exact joinR_normal ⟨rfl, by rw [hix, hkl, List.drop_length]; rfl⟩
    · have hlt : k < y.rects.length := by omega
      have hc : decide ((k : Int) < (y.rects.length : Int)) = true := decide_eq_true (by omega)
      obtain ⟨r1, hr1⟩ := get_ex hlt
      have i1 := rows_ia (n := b + 0) (s := none) (cap := y.rects.length) (i := (k : Int)) rfl hlt
      have q0 := rows_load0 (o := true) hr1
      rw [Nat.add_zero] at i1
      have hdr : y.rects.drop k = r1 :: y.rects.drop (k + 1) := by
        rw [List.drop_eq_getElem_cons hlt]
        rw [List.getElem?_eq_getElem hlt] at hr1
        rw [Option.some.inj hr1]
      have hbk : bk (ext H [⟨35, true, rowsOf y.rects⟩]) b = some ⟨35, true, rowsOf y.rects⟩ := by
        have := bk_at (L := [⟨35, true, rowsOf y.rects⟩]) (i := 0) hb (by simp)
        exact this
      have hbl : b < H.next + ([⟨35, true, rowsOf y.rects⟩] : List Bl).length := by rw [hb]; simp
      by_cases hid : r1.id = id
      · have hxo : ixOf id y.rects = some k := by
          rw [hix, hdr]
          simp only [ixOf, List.findIdx?_cons, hid, decide_true, if_true, Option.map_some, Nat.zero_add]
        have hw1 : IntKind.i64.wrap ((k : Int) + (y.rects.length : Int)) = (k : Int) + (y.rects.length : Int) := wrap_sm (by omega) (by omega)
        have hw2 : IntKind.i64.wrap ((k : Int) + (y.rects.length : Int) + by1) = (k : Int) + by1 + (y.rects.length : Int) := by
          have := wrap_sm (n := (k : Int) + (y.rects.length : Int) + by1) (by omega) (by omega)
          rw [show IntKind.i64.wrap ((k : Int) + (y.rects.length : Int) + by1) = _ from this]; omega
        have hnz : ((y.rects.length : Int) = 0) = False := eq_false (by omega)
        generalize hK : ((k : Int) + by1 + (y.rects.length : Int)).toNat % y.rects.length = K
        have hKl : K < y.rects.length := hK ▸ Nat.mod_lt _ (by omega)
        have hm : ((k : Int) + by1 + (y.rects.length : Int)).tmod (y.rects.length : Int) = (K : Int) := by
          rw [← hK]
          obtain ⟨j, hj⟩ : ∃ j : Nat, (k : Int) + by1 + (y.rects.length : Int) = j := ⟨((k : Int) + by1 + (y.rects.length : Int)).toNat, by omega⟩
          rw [hj, Int.toNat_natCast, Int.ofNat_tmod]
        obtain ⟨r2, hr2⟩ := get_ex hKl
        have i2 := rows_ia (n := b + 0) (s := none) (cap := y.rects.length) (i := (K : Int)) rfl hKl
        have q2 := rows_load0 (o := true) hr2
        rw [Nat.add_zero] at i2
        unfold nearA
        simp (maxDischargeDepth := 6) only [e1, e2, e8, e9, hc, i1, q0, hb, hbk, hbl, hid, hw1, hw2, hnz, hm, i2, q2, decide_true, joinR_ret, Try.results61, ruW, putL, Nat.reduceLeDiff, xF, ruU, entryE, Nat.reduceLT, Nat.reduceAdd, Nat.reduceMul, Nat.reduceEqDiff]
        simp only [hxo, hK, hr2, Option.map_some, Option.getD_some]
        exact Fin.pure rfl
      · simp (maxDischargeDepth := 6) only [e1, e2, e8, e9, hc, i1, q0, hb, hbk, hbl, hid, decide_false, wrap_succ (show k < 1000000 by omega), ruW, putL, Nat.reduceLeDiff, xF, ruU, entryE, Nat.reduceLT, Nat.reduceAdd, Nat.reduceMul, Nat.reduceEqDiff]
        refine loopC_next ⟨k + 1, by omega, rfl, ?_, ?_, ?_, ?_, by omega, ?_⟩ <;> try simp only [e1, e2, e8, e9, ruU, entryE, Nat.reduceLT, Nat.reduceAdd, Nat.reduceMul, Nat.reduceEqDiff]
        rw [hix, hdr]
        simp only [ixOf, List.findIdx?_cons, hid, decide_false, Bool.false_eq_true, if_false, Option.map_map]
        congr 1
        funext j
        simp only [Function.comp]; omega
  · clear e1 e2 e8 e9
    rintro E H' ⟨hH, hix⟩
    rw [hH]
    unfold nearA
    rw [hix]
    simp (maxDischargeDepth := 6) only [Try.results61, ruW, putL, Nat.reduceLeDiff, xF, ruU, entryE, Nat.reduceLT, Nat.reduceAdd, Nat.reduceMul, Nat.reduceEqDiff]
    exact Fin.pure rfl

theorem rnext_c (o : Nat) (y : Rw) (id : Int) (H : AHeap) (h : OwnAt H o y) (hr : RefAt H y.root) (hcap : y.root.size + 1 ≤ 10000) :
    Pure 29 [.pointer (some ⟨o, 0, none⟩), .int .i64 id] H (.tuple #[.int .i64 (nearA y.rects id 1).1, .bool (nearA y.rects id 1).2]) := by
  refine callS_fn mixed Try.func29 rfl Try.ntmps29 (Nat.le_of_ble_eq_true rfl) fun wf hsc => ?_
  simp (maxDischargeDepth := 6) only [ruW, putL, Nat.reduceLeDiff, xF, ruU, entryE, Nat.reduceLT, Nat.reduceAdd, Nat.reduceMul, Nat.reduceEqDiff]
  refine (rstep_c o y id 1 (ext H []) h hr (.inl rfl) hcap).to ?_
  simp (maxDischargeDepth := 6) only [Try.results29, ruW, putL, Nat.reduceLeDiff, xF, ruU, entryE, Nat.reduceLT, Nat.reduceAdd, Nat.reduceMul, Nat.reduceEqDiff]
  exact Fin.pure rfl

theorem rprevious_c (o : Nat) (y : Rw) (id : Int) (H : AHeap) (h : OwnAt H o y) (hr : RefAt H y.root) (hcap : y.root.size + 1 ≤ 10000) :
    Pure 30 [.pointer (some ⟨o, 0, none⟩), .int .i64 id] H (.tuple #[.int .i64 (nearA y.rects id (-1)).1, .bool (nearA y.rects id (-1)).2]) := by
  refine callS_fn mixed Try.func30 rfl Try.ntmps30 (Nat.le_of_ble_eq_true rfl) fun wf hsc => ?_
  simp (maxDischargeDepth := 6) only [ruW, putL, Nat.reduceLeDiff, xF, ruU, entryE, Nat.reduceLT, Nat.reduceAdd, Nat.reduceMul, Nat.reduceEqDiff]
  refine (rstep_c o y id (-1) (ext H []) h hr (.inr rfl) hcap).to ?_
  simp (maxDischargeDepth := 6) only [Try.results30, ruW, putL, Nat.reduceLeDiff, xF, ruU, entryE, Nat.reduceLT, Nat.reduceAdd, Nat.reduceMul, Nat.reduceEqDiff]
  exact Fin.pure rfl

end Go.Proofs.Ytiedpcmdimgboaa

/- What the reference's resize, balance and gone come to. -/
namespace Go.Proofs.Ytiedpcmdimgboaa
open Go.Ax
set_option linter.unusedSimpArgs false
set_option maxRecDepth 10000

def Rr.resize (be : Bool) (old now : Int) : Rr → Rr
  | .leaf n id => .leaf n id
  | .split n bb f l r =>
    if bb = be then
      let second := w64 (w64 (old - f) - bar be)
      let less := max 0 (w64 (old - now))
      let take := min less (w64 (second - r.abs.least be))
      let after := w64 (w64 (second + max 0 (w64 (now - old))) - take)
      let f' := w64 (f - w64 (less - take))
      .split n bb f' (l.resize be f f') (r.resize be second after)
    else .split n bb f (l.resize be old now) (r.resize be old now)
theorem Rr.resize_root (be : Bool) (old now : Int) (t : Rr) : (t.resize be old now).root = t.root := by
  cases t with
  | leaf => rfl
  | split => unfold Rr.resize; split <;> rfl
theorem Rr.resize_val (be : Bool) (old now : Int) (t : Rr) : (t.resize be old now).val = t.val := by simp only [Rr.val, Rr.resize_root]
theorem Rr.resize_blks (be : Bool) : ∀ (t : Rr) (old now : Int), (t.resize be old now).blks = t.blks
  | .leaf _ _, _, _ => rfl
  | .split b bb f l r, old, now => by
    unfold Rr.resize
    split <;> simp only [Rr.blks, Rr.resize_blks be l, Rr.resize_blks be r]
theorem Rr.resize_abs (be : Bool) : ∀ (t : Rr) (old now : Int), (t.resize be old now).abs = t.abs.rresize be old now
  | .leaf _ _, _, _ => rfl
  | .split b bb f l r, old, now => by
    simp only [Rr.resize, Rr.abs, Atr.rresize]
    split <;> simp only [Rr.abs, Rr.resize_abs be l, Rr.resize_abs be r]

set_option maxHeartbeats 1000000 in
theorem rresize_c (be : Bool) : ∀ (t : Rr) (old now : Int) (H : AHeap), H.base ≤ H.next → RefAt H t → (∀ n ∈ t.blks, n < H.next) → t.blks.Nodup →
    CallA Try.prog 82 [t.val, .bool be, .int .i64 old, .int .i64 now] H (fun out H1 => out = .ok (.tuple #[]) ∧ Mod t.blks H H1 ∧ RefAt H1 (t.resize be old now))
  | .leaf n id, old, now, H, hok, h, hlt, hnd => by
    have h0 := h
    obtain ⟨b, hb⟩ : ∃ b, H.next = b := ⟨_, rfl⟩
    obtain ⟨be', f, h⟩ := h
    have hnb : n < b := hb ▸ hlt n (by simp [Rr.blks])
    refine callE_fn mixed Try.func82 rfl Try.ntmps82 (Nat.le_of_ble_eq_true rfl) ?_
    simp (maxDischargeDepth := 6) only [Rr.val, Rr.root, hb, hnb, h, pn58, Try.results82, ruW, putL, Nat.reduceLeDiff, xF, ruU, entryE, Nat.reduceLT, Nat.reduceAdd, Nat.reduceMul, Nat.reduceEqDiff]
    exact ⟨trivial, Mod.refl, h0⟩
  | .split n bb f l r, old, now, H, hok, h, hlt, hnd => by
    have ihl := rresize_c be l
    have ihr := rresize_c be r
    obtain ⟨b, hb⟩ : ∃ b, H.next = b := ⟨_, rfl⟩
    obtain ⟨⟨id, hn⟩, hl, hr⟩ := h
    have hnb : n < b := hb ▸ hlt n (by simp [Rr.blks])
    have hll : ∀ m ∈ l.blks, m < H.next := fun m hm => hlt m (by simp [Rr.blks, hm])
    have hlr : ∀ m ∈ r.blks, m < H.next := fun m hm => hlt m (by simp [Rr.blks, hm])
    simp only [Rr.blks, List.nodup_cons, List.nodup_append, List.mem_append, not_or] at hnd
    obtain ⟨⟨hnl, hnr⟩, hndl, hndr, hlr'⟩ := hnd
    have hlr2 : ∀ m ∈ l.blks, m ∉ r.blks := fun m h1 h2 => hlr' m h1 m h2 rfl
    have hlr3 : ∀ m ∈ r.blks, m ∉ l.blks := fun m h1 h2 => hlr' m h2 m h1 rfl
    have sl : ∀ m ∈ l.blks, m ∈ (Rr.split n bb f l r).blks := fun m hm => by simp [Rr.blks, hm]
    have sr : ∀ m ∈ r.blks, m ∈ (Rr.split n bb f l r).blks := fun m hm => by simp [Rr.blks, hm]
    have hnlt : n < H.next := hb ▸ hnb
    simp only [Rr.val] at hn
    refine callE_fn mixed Try.func82 rfl Try.ntmps82 (Nat.le_of_ble_eq_true rfl) ?_
    simp (maxDischargeDepth := 6) only [Rr.val, Rr.root, hb, hnb, hn, pp58, ruW, putL, Nat.reduceLeDiff, xF, ruU, entryE, Nat.reduceLT, Nat.reduceAdd, Nat.reduceMul, Nat.reduceEqDiff]
    by_cases hd : bb = be
    · subst hd
      simp (maxDischargeDepth := 6) only [hb, hnb, hn, ne_eq, not_true_eq_false, decide_false, ruW, putL, Nat.reduceLeDiff, xF, ruU, entryE, Nat.reduceLT, Nat.reduceAdd, Nat.reduceMul, Nat.reduceEqDiff]
      refine w_drawB [] [] (by kernel_rfl) rfl rfl fun ops anc hA hG => ?_
      simp (maxDischargeDepth := 6) only [hb, hnb, hn, ruD, ruW, putL, Nat.reduceLeDiff, xF, ruU, entryE, Nat.reduceLT, Nat.reduceAdd, Nat.reduceMul, Nat.reduceEqDiff]
      refine genV_quiet (v := .int .i64 (bar bb)) [] (by simp (maxDischargeDepth := 6) only [ruU, entryE, Nat.reduceLT, Nat.reduceAdd, Nat.reduceMul, Nat.reduceEqDiff]) (by kernel_rfl) (by decide) (by simp) (fun G _ hg => ?_) (by simp (maxDischargeDepth := 6) only [ruD, ruW, putL, Nat.reduceLeDiff, xF, ruU, entryE, Nat.reduceLT, Nat.reduceAdd, Nat.reduceMul, Nat.reduceEqDiff]) ?_
      · simp only [ruU, entryE, Nat.reduceLT, Nat.reduceAdd, Nat.reduceMul, Nat.reduceEqDiff]
        exact rbar_c bb G
      simp (maxDischargeDepth := 6) only [hb, hnb, hn, ruD, ruW, putL, Nat.reduceLeDiff, xF, ruU, entryE, Nat.reduceLT, Nat.reduceAdd, Nat.reduceMul, Nat.reduceEqDiff]
      refine (rleast_c bb r (ext H []) hr).to ?_
      simp (maxDischargeDepth := 6) only [hb, hnb, hn, ruW, putL, Nat.reduceLeDiff, xF, ruU, entryE, Nat.reduceLT, Nat.reduceAdd, Nat.reduceMul, Nat.reduceEqDiff]
      generalize hsec : IntKind.i64.wrap (IntKind.i64.wrap (old - f) - bar bb) = second
      generalize hless : max 0 (IntKind.i64.wrap (old - now)) = less
      generalize htake : min less (IntKind.i64.wrap (second - r.abs.least bb)) = take
      generalize hafter : IntKind.i64.wrap (IntKind.i64.wrap (second + max 0 (IntKind.i64.wrap (now - old))) - take) = after
      generalize hf' : IntKind.i64.wrap (f - IntKind.i64.wrap (less - take)) = f'
      refine (ihr second after (ext H []) hok hr hlr hndr).mono ?_
      rintro _ H1 ⟨rfl, m1, t1⟩
      have hn1 := (m1.bk (n := n) hnlt hnr).trans hn
      have hb1 : n < H1.next := m1.lt hnlt
      rw [show H1 = ext H1 [] from rfl]
      simp (maxDischargeDepth := 6) only [hb1, hn1, ruW, putL, Nat.reduceLeDiff, xF, ruU, entryE, Nat.reduceLT, Nat.reduceAdd, Nat.reduceMul, Nat.reduceEqDiff]
      refine w_drawB [(10, 3), (10, 8)] [] (by kernel_rfl) (by kernel_rfl) rfl fun ops anc hA hG => ?_
      simp only [all2_cons] at hA
      simp (maxDischargeDepth := 6) only [hb1, hn1, ruD, ruW, putL, Nat.reduceLeDiff, xF, ruU, entryE, Nat.reduceLT, Nat.reduceAdd, Nat.reduceMul, Nat.reduceEqDiff]
      have hl1 : RefAt H1 l := hl.mod m1 hll hlr2
      have hrn := restrict_next H1 l.blks
      obtain ⟨_, g, hc, rfl, m2, t2⟩ := ihl f f' (H1.restrict l.blks) (by rw [hrn.1, hrn.2.1]; exact Nat.le_refl _) (hl1.of fun m hm => by rw [restrict_get, if_pos hm]) (fun m hm => by rw [hrn.1]; exact m1.lt (hll m hm)) hndl
      refine genV_mod (H := ext H1 []) (W := l.blks) l.blks (m1.ok hok) (by simp only [ruU, entryE, Nat.reduceLT, Nat.reduceAdd, Nat.reduceMul, Nat.reduceEqDiff]) (by kernel_rfl) hl1.ne (fun m hm => m1.lt (hll m hm)) (fun _ h => h) (v := .tuple #[]) (g := g) (by simp only [ruU, entryE, Nat.reduceLT, Nat.reduceAdd, Nat.reduceMul, Nat.reduceEqDiff]; exact hc) m2 (by simp only [all2_cons, hA, true_or, and_true, all2_nil]) ?_
      intro H2 D mH2 hF _ _ _
      have t2' : RefAt H2 (l.resize bb f f') := t2.of fun m hm => hF m (by rw [Rr.resize_blks] at hm; exact hm)
      have hn2 := (mH2.bk hb1 hnl).trans hn1
      have hb2 : n < H2.next := mH2.lt hb1
      rw [show H2 = ext H2 [] from rfl]
      simp (maxDischargeDepth := 6) only [hb2, hn2, Try.results82, ruD, ruW, putL, Nat.reduceLeDiff, xF, ruU, entryE, Nat.reduceLT, Nat.reduceAdd, Nat.reduceMul, Nat.reduceEqDiff]
      generalize hU : uw H2 n 2 [.int .i64 f'] = U
      have mU : Mod [n] H2 U := hU ▸ Mod.uw (by simp)
      have hnU : bk U n = some ⟨100, false, [.int .i64 id, .bool bb, .int .i64 f', .pointer (some ⟨l.root, 0, none⟩), .pointer (some ⟨r.root, 0, none⟩)]⟩ := by rw [← hU, bk_uw_eq, hn2]; rfl
      refine ⟨((m1.mono sr).trans (mH2.mono sl)).trans (mU.mono (by simp [Rr.blks])), ?_⟩
      have er : Rr.resize bb old now (.split n bb f l r) = .split n bb f' (l.resize bb f f') (r.resize bb second after) := by
        simp only [Rr.resize, if_true, hsec, hless, htake, hafter, hf']
      rw [er]
      have m12 := fun m hm => m1.lt (hll m hm)
      refine ⟨⟨id, ?_⟩, t2'.mod mU (fun m hm => ?_) (fun m hm h => ?_), (t1.mod mH2 (fun m hm => ?_) (fun m hm => ?_)).mod mU (fun m hm => ?_) (fun m hm h => ?_)⟩
      · rw [ext_nil, hnU]; simp only [Rr.val, Rr.resize_root]
      · rw [Rr.resize_blks] at hm; exact mH2.lt (m12 m hm)
      · rw [Rr.resize_blks] at hm; simp only [List.mem_singleton] at h; exact hnl (h ▸ hm)
      · rw [Rr.resize_blks] at hm; exact m1.lt (hlr m hm)
      · rw [Rr.resize_blks] at hm; exact hlr3 m hm
      · rw [Rr.resize_blks] at hm; exact mH2.lt (m1.lt (hlr m hm))
      · rw [Rr.resize_blks] at hm; simp only [List.mem_singleton] at h; exact hnr (h ▸ hm)
    · simp (maxDischargeDepth := 6) only [hb, hnb, hn, ne_eq, hd, not_false_eq_true, decide_true, ruW, putL, Nat.reduceLeDiff, xF, ruU, entryE, Nat.reduceLT, Nat.reduceAdd, Nat.reduceMul, Nat.reduceEqDiff]
      refine (ihl old now (ext H []) hok hl hll hndl).mono ?_
      rintro _ H1 ⟨rfl, m1, t1⟩
      have hn1 := (m1.bk (n := n) hnlt hnl).trans hn
      have hb1 : n < H1.next := m1.lt hnlt
      rw [show H1 = ext H1 [] from rfl]
      simp (maxDischargeDepth := 6) only [hb1, hn1, ruW, putL, Nat.reduceLeDiff, xF, ruU, entryE, Nat.reduceLT, Nat.reduceAdd, Nat.reduceMul, Nat.reduceEqDiff]
      refine (ihr old now (ext H1 []) (m1.ok hok) (hr.mod m1 hlr hlr3) (fun m hm => m1.lt (hlr m hm)) hndr).mono ?_
      rintro _ H2 ⟨rfl, m2, t2⟩
      simp (maxDischargeDepth := 6) only [Try.results82, ruW, putL, Nat.reduceLeDiff, xF, ruU, entryE, Nat.reduceLT, Nat.reduceAdd, Nat.reduceMul, Nat.reduceEqDiff]
      refine ⟨trivial, (m1.mono sl).trans (m2.mono sr), ?_⟩
      simp only [Rr.resize, if_neg hd]
      refine ⟨⟨id, ?_⟩, t1.mod m2 (fun m hm => ?_) (fun m hm => ?_), t2⟩
      · rw [(m2.bk hb1 hnr).trans hn1, Rr.resize_val, Rr.resize_val]; rfl
      · rw [Rr.resize_blks] at hm; exact m1.lt (hll m hm)
      · rw [Rr.resize_blks] at hm; exact hlr2 m hm

def Rr.balance : Rr → Rc → Rr
  | .leaf b id, _ => .leaf b id
  | .split b be _ l r, rc =>
    let whole := w64 (rc.size be - bar be)
    let f1 := max (w64 ((w64 (whole * l.abs.weight be)).tdiv (w64 (l.abs.weight be + r.abs.weight be)))) (l.abs.least be)
    let f2 := min f1 (w64 (whole - r.abs.least be))
    .split b be f2 (l.balance (partA be f2 rc)) (r.balance (partB be f2 rc))
theorem Rr.balance_root (t : Rr) (rc : Rc) : (t.balance rc).root = t.root := by cases t <;> rfl
theorem Rr.balance_val (t : Rr) (rc : Rc) : (t.balance rc).val = t.val := by simp only [Rr.val, Rr.balance_root]
theorem Rr.balance_blks : ∀ (t : Rr) (rc : Rc), (t.balance rc).blks = t.blks
  | .leaf _ _, _ => rfl
  | .split b be f l r, rc => by simp only [Rr.balance, Rr.blks, Rr.balance_blks l, Rr.balance_blks r]
theorem Rr.balance_abs : ∀ (t : Rr) (rc : Rc), (t.balance rc).abs = t.abs.balance rc
  | .leaf _ _, _ => rfl
  | .split b be f l r, rc => by simp only [Rr.balance, Rr.abs, Atr.balance, Rr.balance_abs l, Rr.balance_abs r]
theorem Rr.size_abs : ∀ t : Rr, t.size = t.abs.size
  | .leaf _ _ => rfl
  | .split _ _ _ l r => by simp only [Rr.size, Rr.abs, Atr.size, Rr.size_abs l, Rr.size_abs r]

set_option maxHeartbeats 2000000 in
theorem rbalance_c : ∀ (t : Rr) (rc : Rc) (H : AHeap), H.base ≤ H.next → RefAt H t → (∀ n ∈ t.blks, n < H.next) → t.blks.Nodup → t.abs.size < 1000000 →
    CallA Try.prog 85 [t.val, rc.val] H (fun out H1 => out = .ok (.tuple #[]) ∧ Mod t.blks H H1 ∧ RefAt H1 (t.balance rc))
  | .leaf n id => fun rc H hok h hlt hnd _ => by
    have h0 := h
    obtain ⟨b, hb⟩ : ∃ b, H.next = b := ⟨_, rfl⟩
    obtain ⟨be', f, h⟩ := h
    have hnb : n < b := hb ▸ hlt n (by simp [Rr.blks])
    have hbase : H.base ≤ b := hb ▸ hok
    refine callE_fn mixed Try.func85 rfl Try.ntmps85 (Nat.le_of_ble_eq_true rfl) ?_
    simp (maxDischargeDepth := 6) only [Rr.val, Rr.root, Rc.val, hb, hnb, hbase, h, pn58, Try.results85, ruW, putL, Nat.reduceLeDiff, xF, ruU, entryE, Nat.reduceLT, Nat.reduceAdd, Nat.reduceMul, Nat.reduceEqDiff]
    exact ⟨trivial, Mod.ext hok, RefAt.mod (W := []) h0 (Mod.ext hok) hlt (by simp)⟩
  | .split n be f l r => fun rc H hok h hlt hnd hsz => by
    simp only [Rr.abs, Atr.size] at hsz
    have ihl := fun rc H a b c d => rbalance_c l rc H a b c d (by omega)
    have ihr := fun rc H a b c d => rbalance_c r rc H a b c d (by omega)
    have hq : ¬ IntKind.i64.wrap (l.abs.weight be + r.abs.weight be) = 0 := by
      have h1 := Atr.wgt_pos be l.abs
      have h2 := Atr.wgt_pos be r.abs
      rw [Atr.weight_eq be l.abs (by omega), Atr.weight_eq be r.abs (by omega)]
      have h3 : IntKind.i64.wrap (Atr.wgt be l.abs + Atr.wgt be r.abs) = _ := wrap_sm (n := Atr.wgt be l.abs + Atr.wgt be r.abs) (by omega) (by omega)
      rw [h3]; omega
    obtain ⟨b, hb⟩ : ∃ b, H.next = b := ⟨_, rfl⟩
    obtain ⟨⟨id, hn⟩, hl, hr⟩ := h
    have hnb : n < b := hb ▸ hlt n (by simp [Rr.blks])
    have hbase : H.base ≤ b := hb ▸ hok
    have hll : ∀ m ∈ l.blks, m < H.next := fun m hm => hlt m (by simp [Rr.blks, hm])
    have hlr : ∀ m ∈ r.blks, m < H.next := fun m hm => hlt m (by simp [Rr.blks, hm])
    simp only [Rr.blks, List.nodup_cons, List.nodup_append, List.mem_append, not_or] at hnd
    obtain ⟨⟨hnl, hnr⟩, hndl, hndr, hlr'⟩ := hnd
    have hlr2 : ∀ m ∈ l.blks, m ∉ r.blks := fun m h1 h2 => hlr' m h1 m h2 rfl
    have hlr3 : ∀ m ∈ r.blks, m ∉ l.blks := fun m h1 h2 => hlr' m h2 m h1 rfl
    have sl : ∀ m ∈ l.blks, m ∈ (Rr.split n be f l r).blks := fun m hm => by simp [Rr.blks, hm]
    have sr : ∀ m ∈ r.blks, m ∈ (Rr.split n be f l r).blks := fun m hm => by simp [Rr.blks, hm]
    simp only [Rr.val] at hn
    refine callE_fn mixed Try.func85 rfl Try.ntmps85 (Nat.le_of_ble_eq_true rfl) ?_
    simp (maxDischargeDepth := 6) only [Rr.val, Rr.root, Rc.val, hb, hnb, hbase, hn, pp58, ruW, putL, Nat.reduceLeDiff, xF, ruU, entryE, Nat.reduceLT, Nat.reduceAdd, Nat.reduceMul, Nat.reduceEqDiff]
    refine (rsize_c rc be (ext H (_ :: _))).to ?_
    simp (maxDischargeDepth := 6) only [ruW, putL, Nat.reduceLeDiff, xF, ruU, entryE, Nat.reduceLT, Nat.reduceAdd, Nat.reduceMul, Nat.reduceEqDiff]
    refine (rbar_c be (ext H (_ :: _))).to ?_
    simp (maxDischargeDepth := 6) only [hb, hnb, hn, ruW, putL, Nat.reduceLeDiff, xF, ruU, entryE, Nat.reduceLT, Nat.reduceAdd, Nat.reduceMul, Nat.reduceEqDiff]
    have gl : ∀ m ∈ l.blks, (ext H [⟨35, false, rc.cells⟩]).get m = H.get m := fun m hm => ext_get_old (hll m hm)
    have gr : ∀ m ∈ r.blks, (ext H [⟨35, false, rc.cells⟩]).get m = H.get m := fun m hm => ext_get_old (hlr m hm)
    refine w_drawB [] [] (by kernel_rfl) rfl rfl fun ops anc hA hG => ?_
    simp (maxDischargeDepth := 6) only [hb, hnb, hn, ruD, ruW, putL, Nat.reduceLeDiff, xF, ruU, entryE, Nat.reduceLT, Nat.reduceAdd, Nat.reduceMul, Nat.reduceEqDiff]
    refine genV_quiet (v := .int .i64 (l.abs.weight be)) l.blks (by simp (maxDischargeDepth := 6) only [ruU, entryE, Nat.reduceLT, Nat.reduceAdd, Nat.reduceMul, Nat.reduceEqDiff]) (by kernel_rfl) (by decide) (hl.of gl).ne (fun G _ hg => ?_) (by simp (maxDischargeDepth := 6) only [ruD, ruW, putL, Nat.reduceLeDiff, xF, ruU, entryE, Nat.reduceLT, Nat.reduceAdd, Nat.reduceMul, Nat.reduceEqDiff]) ?_
    · simp only [ruU, entryE, Nat.reduceLT, Nat.reduceAdd, Nat.reduceMul, Nat.reduceEqDiff]
      exact rweight_c be l G ((hl.of gl).of hg)
    simp (maxDischargeDepth := 6) only [hb, hnb, hn, ruD, ruW, putL, Nat.reduceLeDiff, xF, ruU, entryE, Nat.reduceLT, Nat.reduceAdd, Nat.reduceMul, Nat.reduceEqDiff]
    refine genV_quiet (v := .int .i64 (r.abs.weight be)) r.blks (by simp (maxDischargeDepth := 6) only [ruU, entryE, Nat.reduceLT, Nat.reduceAdd, Nat.reduceMul, Nat.reduceEqDiff]) (by kernel_rfl) (by decide) (hr.of gr).ne (fun G _ hg => ?_) (by simp (maxDischargeDepth := 6) only [ruD, ruW, putL, Nat.reduceLeDiff, xF, ruU, entryE, Nat.reduceLT, Nat.reduceAdd, Nat.reduceMul, Nat.reduceEqDiff]) ?_
    · simp only [ruU, entryE, Nat.reduceLT, Nat.reduceAdd, Nat.reduceMul, Nat.reduceEqDiff]
      exact rweight_c be r G ((hr.of gr).of hg)
    simp (maxDischargeDepth := 6) only [hb, hnb, hn, ruD, ruW, putL, Nat.reduceLeDiff, xF, ruU, entryE, Nat.reduceLT, Nat.reduceAdd, Nat.reduceMul, Nat.reduceEqDiff]
    refine w_drawB [(26, 11), (26, 13), (26, 19), (26, 21)] [] (by kernel_rfl) (by kernel_rfl) rfl fun ops anc hA hG => ?_
    simp only [all2_cons] at hA
    simp (maxDischargeDepth := 6) only [hb, hnb, hn, hq, ruD, ruW, putL, Nat.reduceLeDiff, xF, ruU, entryE, Nat.reduceLT, Nat.reduceAdd, Nat.reduceMul, Nat.reduceEqDiff]
    refine genV_quiet (v := .int .i64 (l.abs.least be)) l.blks (by simp (maxDischargeDepth := 6) only [ruU, entryE, Nat.reduceLT, Nat.reduceAdd, Nat.reduceMul, Nat.reduceEqDiff]) (by kernel_rfl) (by decide) (hl.of gl).ne (fun G _ hg => ?_) (by simp (maxDischargeDepth := 6) only [ruD, ruW, putL, Nat.reduceLeDiff, xF, ruU, entryE, Nat.reduceLT, Nat.reduceAdd, Nat.reduceMul, Nat.reduceEqDiff]) ?_
    · simp only [ruU, entryE, Nat.reduceLT, Nat.reduceAdd, Nat.reduceMul, Nat.reduceEqDiff]
      exact rleast_c be l G ((hl.of gl).of hg)
    simp (maxDischargeDepth := 6) only [hb, hnb, hn, hA, ruD, ruW, putL, Nat.reduceLeDiff, xF, ruU, entryE, Nat.reduceLT, Nat.reduceAdd, Nat.reduceMul, Nat.reduceEqDiff]
    refine genV_quiet (v := .int .i64 (r.abs.least be)) r.blks (by simp (maxDischargeDepth := 6) only [ruU, entryE, Nat.reduceLT, Nat.reduceAdd, Nat.reduceMul, Nat.reduceEqDiff]) (by kernel_rfl) (by decide) (hr.of gr).ne (fun G _ hg => ?_) (by simp (maxDischargeDepth := 6) only [ruD, ruW, putL, Nat.reduceLeDiff, xF, ruU, entryE, Nat.reduceLT, Nat.reduceAdd, Nat.reduceMul, Nat.reduceEqDiff]) ?_
    · simp only [ruU, entryE, Nat.reduceLT, Nat.reduceAdd, Nat.reduceMul, Nat.reduceEqDiff]
      exact rleast_c be r G ((hr.of gr).of hg)
    simp (maxDischargeDepth := 6) only [hb, hnb, hn, hA, ruD, ruW, putL, Nat.reduceLeDiff, xF, ruU, entryE, Nat.reduceLT, Nat.reduceAdd, Nat.reduceMul, Nat.reduceEqDiff]
    generalize hf2 : min (max (IntKind.i64.wrap ((IntKind.i64.wrap (IntKind.i64.wrap (rc.size be - bar be) * l.abs.weight be)).tdiv (IntKind.i64.wrap (l.abs.weight be + r.abs.weight be)))) (l.abs.least be)) (IntKind.i64.wrap (IntKind.i64.wrap (rc.size be - bar be) - r.abs.least be)) = f2
    generalize hV : uw H n 2 [.int .i64 f2] = V
    have mV : Mod [n] H V := hV ▸ Mod.uw (by simp)
    have hnV : bk V n = some ⟨100, false, [.int .i64 id, .bool be, .int .i64 f2, .pointer (some ⟨l.root, 0, none⟩), .pointer (some ⟨r.root, 0, none⟩)]⟩ := by rw [← hV, bk_uw_eq, hn]; rfl
    have hbV : V.next = b := by rw [← hV, uw_next, hb]
    have hbaseV : V.base ≤ b := by rw [← hV, uw_base]; exact hbase
    have hrV : RefAt V r := hr.mod mV hlr (fun m hm h => hnr (by simp at h; exact h ▸ hm))
    have hlV : RefAt V l := hl.mod mV hll (fun m hm h => hnl (by simp at h; exact h ▸ hm))
    refine (rsides_c n id be f2 _ _ rc (ext V (_ :: _)) ((bk_old (hbV.symm ▸ hnb)).trans hnV)).to ?_
    simp (maxDischargeDepth := 6) only [Rc.val, hbV, hnb, hnV, hbaseV, ruW, putL, Nat.reduceLeDiff, xF, ruU, entryE, Nat.reduceLT, Nat.reduceAdd, Nat.reduceMul, Nat.reduceEqDiff]
    refine w_drawB [(5, 3), (5, 4)] [] (by kernel_rfl) (by kernel_rfl) rfl fun ops anc hA hG => ?_
    simp only [all2_cons] at hA
    simp (maxDischargeDepth := 6) only [hbV, hnb, hnV, hbaseV, ruD, ruW, putL, Nat.reduceLeDiff, xF, ruU, entryE, Nat.reduceLT, Nat.reduceAdd, Nat.reduceMul, Nat.reduceEqDiff]
    generalize hX : ext V _ = X
    have mX : Mod [n] V X := hX ▸ Mod.ext (hbV ▸ hbaseV)
    have mHX := mV.trans mX
    have hlX : RefAt X l := hlV.mod mX (fun m hm => mV.lt (hll m hm)) (fun m hm h => hnl (by simp at h; exact h ▸ hm))
    have hrX : RefAt X r := hrV.mod mX (fun m hm => mV.lt (hlr m hm)) (fun m hm h => hnr (by simp at h; exact h ▸ hm))
    have hnX : bk X n = some ⟨100, false, [.int .i64 id, .bool be, .int .i64 f2, .pointer (some ⟨l.root, 0, none⟩), .pointer (some ⟨r.root, 0, none⟩)]⟩ := by rw [← hX, bk_old (hbV.symm ▸ hnb), hnV]
    have h2X : bk X (b + 2) = some ⟨35, false, (partB be f2 rc).cells⟩ := by rw [← hX, bk_at hbV (by simp)]; rfl
    have l2X : b + 2 < X.next := by rw [← hX, ext_next, hbV]; simp
    have hrn := restrict_next X l.blks
    obtain ⟨_, g, hc, rfl, m1, t1⟩ := ihl (partA be f2 rc) (X.restrict l.blks) (by rw [hrn.1, hrn.2.1]; exact Nat.le_refl _) (hlX.of fun m hm => by rw [restrict_get, if_pos hm]) (fun m hm => by rw [hrn.1]; exact mHX.lt (hll m hm)) hndl
    refine genV_mod (W := l.blks) l.blks (mHX.ok hok) (by simp only [ruU, entryE, Nat.reduceLT, Nat.reduceAdd, Nat.reduceMul, Nat.reduceEqDiff]) (by kernel_rfl) hlX.ne (fun m hm => mHX.lt (hll m hm)) (fun _ h => h) (v := .tuple #[]) (g := g) (by simp only [ruU, entryE, Nat.reduceLT, Nat.reduceAdd, Nat.reduceMul, Nat.reduceEqDiff]; exact hc) m1 (by simp only [all2_cons, hA, true_or, and_true, all2_nil]) ?_
    intro H1 D mH1 hF _ _ _
    have t1' : RefAt H1 (l.balance (partA be f2 rc)) := t1.of fun m hm => hF m (by rw [Rr.balance_blks] at hm; exact hm)
    have hn1 := (mH1.bk (mHX.lt (hb ▸ hnb)) hnl).trans hnX
    have hb1 : n < H1.next := mH1.lt (mHX.lt (hb ▸ hnb))
    have h21 := (mH1.bk l2X (fun h => absurd (hll _ h) (by omega))).trans h2X
    have l21 := mH1.lt l2X
    rw [show H1 = ext H1 [] from rfl]
    simp only [Rc.cells] at h21
    simp (maxDischargeDepth := 6) only [ruD, ruW, putL, Nat.reduceLeDiff, xF, ruU, entryE, Nat.reduceLT, Nat.reduceAdd, Nat.reduceMul, Nat.reduceEqDiff]
    refine w_drawB [(5, 3), (5, 4)] [] (by kernel_rfl) (by kernel_rfl) rfl fun ops anc hA hG => ?_
    simp only [all2_cons] at hA
    simp (maxDischargeDepth := 6) only [hb1, hn1, h21, l21, ruD, ruW, putL, Nat.reduceLeDiff, xF, ruU, entryE, Nat.reduceLT, Nat.reduceAdd, Nat.reduceMul, Nat.reduceEqDiff]
    have hr1 : RefAt H1 r := hrX.mod mH1 (fun m hm => mHX.lt (hlr m hm)) hlr3
    have hrn1 := restrict_next H1 r.blks
    obtain ⟨_, g2, hc2, rfl, m2, t2⟩ := ihr (partB be f2 rc) (H1.restrict r.blks) (by rw [hrn1.1, hrn1.2.1]; exact Nat.le_refl _) (hr1.of fun m hm => by rw [restrict_get, if_pos hm]) (fun m hm => by rw [hrn1.1]; exact mH1.lt (mHX.lt (hlr m hm))) hndr
    refine genV_mod (H := ext H1 []) (W := r.blks) r.blks (mH1.ok (mHX.ok hok)) (by simp only [ruU, entryE, Nat.reduceLT, Nat.reduceAdd, Nat.reduceMul, Nat.reduceEqDiff]) (by kernel_rfl) hr1.ne (fun m hm => mH1.lt (mHX.lt (hlr m hm))) (fun _ h => h) (v := .tuple #[]) (g := g2) (by simp only [ruU, entryE, Nat.reduceLT, Nat.reduceAdd, Nat.reduceMul, Nat.reduceEqDiff]; exact hc2) m2 (by simp only [all2_cons, hA, true_or, and_true, all2_nil]) ?_
    intro H2 D2 mH2 hF2 _ _ _
    simp (maxDischargeDepth := 6) only [Try.results85, ruD, ruW, putL, Nat.reduceLeDiff, xF, ruU, entryE, Nat.reduceLT, Nat.reduceAdd, Nat.reduceMul, Nat.reduceEqDiff]
    refine ⟨((mHX.mono (by simp [Rr.blks])).trans (mH1.mono sl)).trans (mH2.mono sr), ?_⟩
    simp only [Rr.balance, hf2]
    refine ⟨⟨id, ?_⟩, t1'.mod mH2 (fun m hm => ?_) (fun m hm => ?_), t2.of fun m hm => hF2 m (by rw [Rr.balance_blks] at hm; exact hm)⟩
    · rw [(mH2.bk hb1 hnr).trans hn1, Rr.balance_val, Rr.balance_val]; rfl
    · rw [Rr.balance_blks] at hm; exact mH1.lt (mHX.lt (hll m hm))
    · rw [Rr.balance_blks] at hm; exact hlr2 m hm

theorem rgone_c (o : Nat) (y : Rw) (id : Int) (t : Rr) (H : AHeap) (h : OwnAt H o y) (ho : o < H.next) (ht : RefAt H t) :
    CallA Try.prog 83 [.pointer (some ⟨o, 0, none⟩), .int .i64 id, t.val] H (fun out H1 => out = .ok (.tuple #[]) ∧ Mod [o] H H1 ∧ OwnAt H1 o { y with sel := if y.sel = id then t.abs.first else y.sel }) := by
  obtain ⟨b, hb⟩ : ∃ b, H.next = b := ⟨_, rfl⟩
  have hob : o < b := hb ▸ ho
  have h1 := h
  simp only [OwnAt, Rw.cells] at h1
  refine callE_fn mixed Try.func83 rfl Try.ntmps83 (Nat.le_of_ble_eq_true rfl) ?_
  by_cases hs : y.sel = id
  · rw [if_pos hs]
    simp (maxDischargeDepth := 6) only [hb, hob, h1, hs, decide_true, ruW, putL, Nat.reduceLeDiff, xF, ruU, entryE, Nat.reduceLT, Nat.reduceAdd, Nat.reduceMul, Nat.reduceEqDiff]
    refine (rfirst_c t (ext H []) ht).to ?_
    simp (maxDischargeDepth := 6) only [hb, hob, h1, Try.results83, ruW, putL, Nat.reduceLeDiff, xF, ruU, entryE, Nat.reduceLT, Nat.reduceAdd, Nat.reduceMul, Nat.reduceEqDiff]
    refine ⟨trivial, Mod.uw (by simp), ?_⟩
    rw [OwnAt, ext_nil, bk_uw_eq, h1]
    rfl
  · rw [if_neg hs]
    simp (maxDischargeDepth := 6) only [hb, hob, h1, hs, decide_false, Try.results83, ruW, putL, Nat.reduceLeDiff, xF, ruU, entryE, Nat.reduceLT, Nat.reduceAdd, Nat.reduceMul, Nat.reduceEqDiff]
    exact ⟨trivial, Mod.refl, h⟩

end Go.Proofs.Ytiedpcmdimgboaa

/- What the reference's methods come to: Select, Only, Balance, SetSize, Split. -/
namespace Go.Proofs.Ytiedpcmdimgboaa
open Go.Ax
set_option linter.unusedSimpArgs false
set_option maxRecDepth 10000

theorem rselect_d (o : Nat) (y : Rw) (id : Int) (H : AHeap) (g : RGood H o y) : RDoes 60 [.int .i64 id] H o y (.int .i64 (y.abs.select id).1) (y.abs.select id).2 := by
  obtain ⟨b, hb⟩ : ∃ b, H.next = b := ⟨_, rfl⟩
  have h1 := g.at'
  simp only [Rw.cells] at h1
  have ho : o < b := hb ▸ g.lt
  refine callE_fn mixed Try.func60 rfl Try.ntmps60 (Nat.le_of_ble_eq_true rfl) ?_
  simp (maxDischargeDepth := 6) only [ruW, putL, Nat.reduceLeDiff, xF, ruU, entryE, Nat.reduceLT, Nat.reduceAdd, Nat.reduceMul, Nat.reduceEqDiff]
  refine (rknown_c o y id (ext H []) g.at' g.ref).to ?_
  unfold Ast.select
  cases hf : y.abs.root.find id with
  | none =>
    have hi : ¬ id ∈ y.root.abs.ids := Atr.find_none id _ hf
    simp (maxDischargeDepth := 6) only [hi, if_false, hb, ho, h1, Int.reduceEq, decide_false, decide_true, Try.results60, ruW, putL, Nat.reduceLeDiff, xF, ruU, entryE, Nat.reduceLT, Nat.reduceAdd, Nat.reduceMul, Nat.reduceEqDiff]
    exact ⟨by trivial, y, RStep.same g Mod.refl, rfl⟩
  | some d =>
    have hi : id ∈ y.root.abs.ids := Atr.find_iff.2 ⟨d, hf⟩
    simp (maxDischargeDepth := 6) only [hi, if_true, hb, ho, h1, Int.reduceEq, decide_false, decide_true, Try.results60, ruW, putL, Nat.reduceLeDiff, xF, ruU, entryE, Nat.reduceLT, Nat.reduceAdd, Nat.reduceMul, Nat.reduceEqDiff]
    refine ⟨by trivial, { y with sel := id }, RStep.own g (Mod.uw (by simp)) rfl ?_, rfl⟩
    rw [ext_nil, bk_uw_eq, h1]
    rfl

theorem ronly_d (o : Nat) (y : Rw) (id : Int) (H : AHeap) (g : RGood H o y) : RDoes 56 [.int .i64 id] H o y (.int .i64 (y.abs.only id).1) (y.abs.only id).2 := by
  obtain ⟨b, hb⟩ : ∃ b, H.next = b := ⟨_, rfl⟩
  have h1 := g.at'
  simp only [Rw.cells] at h1
  have ho : o < b := hb ▸ g.lt
  have hbase : H.base ≤ b := hb ▸ g.ok
  refine callE_fn mixed Try.func56 rfl Try.ntmps56 (Nat.le_of_ble_eq_true rfl) ?_
  simp (maxDischargeDepth := 6) only [ruW, putL, Nat.reduceLeDiff, xF, ruU, entryE, Nat.reduceLT, Nat.reduceAdd, Nat.reduceMul, Nat.reduceEqDiff]
  refine (rknown_c o y id (ext H []) g.at' g.ref).to ?_
  unfold Ast.only
  cases hf : y.abs.root.find id with
  | none =>
    have hi : ¬ id ∈ y.root.abs.ids := Atr.find_none id _ hf
    simp (maxDischargeDepth := 6) only [hi, if_false, hb, ho, h1, Int.reduceEq, decide_false, decide_true, Try.results56, ruW, putL, Nat.reduceLeDiff, xF, ruU, entryE, Nat.reduceLT, Nat.reduceAdd, Nat.reduceMul, Nat.reduceEqDiff]
    exact ⟨by trivial, y, RStep.same g Mod.refl, rfl⟩
  | some d =>
    have hi : id ∈ y.root.abs.ids := Atr.find_iff.2 ⟨d, hf⟩
    simp (maxDischargeDepth := 6) only [hi, if_true, hb, ho, hbase, h1, Int.reduceEq, decide_false, decide_true, Try.results56, ruW, putL, Nat.reduceLeDiff, xF, ruU, entryE, Nat.reduceLT, Nat.reduceAdd, Nat.reduceMul, Nat.reduceEqDiff]
    generalize hU : uw H o 0 [.pointer (some ⟨b + 0, 0, none⟩)] = U
    have mU : Mod [o] H U := hU ▸ Mod.uw (by simp)
    have hU1 : bk U o = some ⟨60, false, [.pointer (some ⟨b + 0, 0, none⟩), .int .i64 y.h, .int .i64 y.w, .int .i64 y.last, .int .i64 y.sel]⟩ := by rw [← hU, bk_uw_eq, h1]; rfl
    generalize hV : uw U o 4 [.int .i64 id] = V
    have mV : Mod [o] U V := hV ▸ Mod.uw (by simp)
    have hV1 : bk V o = some ⟨60, false, [.pointer (some ⟨b + 0, 0, none⟩), .int .i64 y.h, .int .i64 y.w, .int .i64 y.last, .int .i64 id]⟩ := by rw [← hV, bk_uw_eq, hU1]; rfl
    have hVn : V.next = b := by rw [← hV, uw_next, ← hU, uw_next, hb]
    have mT := mU.trans mV
    have mE := mT.trans (Mod.ext (L := [⟨100, false, [.int .i64 id, .bool false, .int .i64 0, .pointer none, .pointer none]⟩]) (mT.ok g.ok))
    refine ⟨by trivial, ⟨.leaf (b + 0) id, y.h, y.w, y.last, id⟩, ⟨⟨?_, ?_, mE.lt g.lt, fun n hn => ?_, by simp [Rr.blks], fun hn => ?_, mE.ok g.ok⟩, mE.mono (by simp), fun n hn => .inr ?_⟩, rfl⟩
    · rw [bk_old (by rw [hVn]; exact ho), hV1]; rfl
    · exact ⟨false, 0, by rw [bk_at hVn (by simp)]; rfl⟩
    · simp only [Rr.blks, List.mem_singleton] at hn
      subst hn
      rw [ext_next, hVn]; simp
    · simp only [Rr.blks, List.mem_singleton] at hn
      omega
    · simp only [Rr.blks, List.mem_singleton] at hn
      omega

theorem RStep.tree {H Z : AHeap} {o : Nat} {y : Rw} {t : Rr} (g : RGood H o y) (m : Mod y.root.blks H Z) (ht : RefAt Z t) (hr : t.root = y.root.root) (hb : t.blks = y.root.blks) : RStep H o y Z { y with root := t } := by
  refine ⟨⟨?_, ht, m.lt g.lt, fun k hk => m.lt (g.lts k (hb ▸ hk)), by show t.blks.Nodup; rw [hb]; exact g.nd, by show o ∉ t.blks; rw [hb]; exact g.nO, m.ok g.ok⟩, m.mono fun k hk => List.mem_cons_of_mem _ hk, fun k hk => .inl (hb ▸ hk)⟩
  rw [m.bk g.lt g.nO, g.at']
  simp only [Rw.cells, Rr.val, hr]

theorem rbalance_d (o : Nat) (y : Rw) (H : AHeap) (g : RGood H o y) (hsz : y.abs.root.size < 1000000) : RDoes 58 [] H o y (.int .i64 0) y.abs.balance := by
  obtain ⟨b, hb⟩ : ∃ b, H.next = b := ⟨_, rfl⟩
  have h1 := g.at'
  simp only [Rw.cells, Rr.val] at h1
  have ho : o < b := hb ▸ g.lt
  have hbase : H.base ≤ b := hb ▸ g.ok
  refine callE_fn mixed Try.func58 rfl Try.ntmps58 (Nat.le_of_ble_eq_true rfl) ?_
  simp (maxDischargeDepth := 6) only [ruW, putL, Nat.reduceLeDiff, xF, ruU, entryE, Nat.reduceLT, Nat.reduceAdd, Nat.reduceMul, Nat.reduceEqDiff]
  refine w_drawB [(6, 3), (6, 5)] [] (by kernel_rfl) (by kernel_rfl) rfl fun ops anc hA hG => ?_
  simp only [all2_cons] at hA
  simp (maxDischargeDepth := 6) only [hb, ho, h1, hA, ruD, ruW, putL, Nat.reduceLeDiff, xF, ruU, entryE, Nat.reduceLT, Nat.reduceAdd, Nat.reduceMul, Nat.reduceEqDiff]
  refine genV_quiet (v := y.frame.val) [o] (by simp (maxDischargeDepth := 6) only [ruU, entryE, Nat.reduceLT, Nat.reduceAdd, Nat.reduceMul, Nat.reduceEqDiff]) (by kernel_rfl) (by decide) (fun m hm => by simp (maxDischargeDepth := 6) only [List.mem_singleton] at hm; subst hm; exact bk_ne (H := H) h1) (fun K _ hg => ?_) (by simp (maxDischargeDepth := 6) only [ruD, ruW, putL, Nat.reduceLeDiff, xF, ruU, entryE, Nat.reduceLT, Nat.reduceAdd, Nat.reduceMul, Nat.reduceEqDiff]) ?_
  · simp only [ruU, entryE, Nat.reduceLT, Nat.reduceAdd, Nat.reduceMul, Nat.reduceEqDiff]
    exact rall_c o y K ((bk_get (hg o (by simp))).trans g.at')
  simp (maxDischargeDepth := 6) only [hb, hA, ruD, ruW, putL, Nat.reduceLeDiff, xF, ruU, entryE, Nat.reduceLT, Nat.reduceAdd, Nat.reduceMul, Nat.reduceEqDiff]
  have hrn := restrict_next H y.root.blks
  obtain ⟨_, k, hc, rfl, m1, t1⟩ := rbalance_c y.root y.frame (H.restrict y.root.blks) (by rw [hrn.1, hrn.2.1]; exact Nat.le_refl _) (g.ref.of fun m hm => by rw [restrict_get, if_pos hm]) (fun m hm => by rw [hrn.1]; exact g.lts m hm) g.nd hsz
  refine genV_mod (H := ext H []) (W := y.root.blks) y.root.blks g.ok (by simp only [ruU, entryE, Nat.reduceLT, Nat.reduceAdd, Nat.reduceMul, Nat.reduceEqDiff]) (by kernel_rfl) g.ref.ne g.lts (fun _ h => h) (v := .tuple #[]) (g := k) (by simp only [ruU, entryE, Nat.reduceLT, Nat.reduceAdd, Nat.reduceMul, Nat.reduceEqDiff]; exact hc) m1 (by simp only [all2_cons, hA, true_or, and_true, all2_nil]) ?_
  intro H1 D mH1 hF _ _ _
  simp (maxDischargeDepth := 6) only [Try.results58, ruD, ruW, putL, Nat.reduceLeDiff, xF, ruU, entryE, Nat.reduceLT, Nat.reduceAdd, Nat.reduceMul, Nat.reduceEqDiff]
  refine ⟨{ y with root := y.root.balance y.frame }, RStep.tree g mH1 (t1.of fun m hm => hF m (by rw [Rr.balance_blks] at hm; exact hm)) (Rr.balance_root _ _) (Rr.balance_blks _ _), ?_⟩
  simp only [Rw.abs, Ast.balance, Rr.balance_abs]
  rfl

theorem rsetSize_d (o : Nat) (y : Rw) (h w : Int) (H : AHeap) (g : RGood H o y) {n : Int} (v : Inv y.abs n) : RDoes 59 [.int .i64 h, .int .i64 w] H o y (.int .i64 (y.abs.setSize h w).1) (y.abs.setSize h w).2 := by
  obtain ⟨b, hb⟩ : ∃ b, H.next = b := ⟨_, rfl⟩
  have h1 := g.at'
  simp only [Rw.cells, Rr.val] at h1
  have ho : o < b := hb ▸ g.lt
  have hbase : H.base ≤ b := hb ▸ g.ok
  have et : ∀ be, y.abs.root.least be = y.root.abs.least be := fun _ => rfl
  refine callE_fn mixed Try.func59 rfl Try.ntmps59 (Nat.le_of_ble_eq_true rfl) ?_
  simp (maxDischargeDepth := 6) only [ruW, putL, Nat.reduceLeDiff, xF, ruU, entryE, Nat.reduceLT, Nat.reduceAdd, Nat.reduceMul, Nat.reduceEqDiff]
  refine (rwithin_c h w (ext H [])).to ?_
  unfold Ast.setSize
  simp only [et]
  cases hin : inside h w with
  | false =>
    rw [if_pos (.inl rfl)]
    simp (maxDischargeDepth := 6) only [Bool.not_false, Try.results59, ruW, putL, Nat.reduceLeDiff, xF, ruU, entryE, Nat.reduceLT, Nat.reduceAdd, Nat.reduceMul, Nat.reduceEqDiff]
    exact ⟨by trivial, y, RStep.same g Mod.refl, rfl⟩
  | true =>
    have l1 := rleast_c true y.root (ext H []) g.ref
    have l2 := rleast_c false y.root (ext H []) g.ref
    simp only [Rr.val] at l1 l2
    simp (maxDischargeDepth := 6) only [Bool.not_true, hb, ho, h1, ruW, putL, Nat.reduceLeDiff, xF, ruU, entryE, Nat.reduceLT, Nat.reduceAdd, Nat.reduceMul, Nat.reduceEqDiff]
    refine l1.to ?_
    by_cases c1 : h < y.root.abs.least true
    · rw [if_pos (.inr (.inl c1))]
      simp (maxDischargeDepth := 6) only [c1, hb, ho, h1, decide_true, Try.results59, ruW, putL, Nat.reduceLeDiff, xF, ruU, entryE, Nat.reduceLT, Nat.reduceAdd, Nat.reduceMul, Nat.reduceEqDiff]
      exact ⟨by trivial, y, RStep.same g Mod.refl, rfl⟩
    simp (maxDischargeDepth := 6) only [c1, hb, ho, h1, decide_false, ruW, putL, Nat.reduceLeDiff, xF, ruU, entryE, Nat.reduceLT, Nat.reduceAdd, Nat.reduceMul, Nat.reduceEqDiff]
    refine l2.to ?_
    by_cases c2 : w < y.root.abs.least false
    · rw [if_pos (.inr (.inr c2))]
      simp (maxDischargeDepth := 6) only [c2, hb, ho, h1, decide_true, Try.results59, ruW, putL, Nat.reduceLeDiff, xF, ruU, entryE, Nat.reduceLT, Nat.reduceAdd, Nat.reduceMul, Nat.reduceEqDiff]
      exact ⟨by trivial, y, RStep.same g Mod.refl, rfl⟩
    rw [if_neg (by simp [c1, c2])]
    simp (maxDischargeDepth := 6) only [c1, c2, hb, ho, h1, decide_false, ruW, putL, Nat.reduceLeDiff, xF, ruU, entryE, Nat.reduceLT, Nat.reduceAdd, Nat.reduceMul, Nat.reduceEqDiff]
    refine w_drawB [(9, 3), (9, 7)] [] (by kernel_rfl) (by kernel_rfl) rfl fun ops anc hA hG => ?_
    simp only [all2_cons] at hA
    simp (maxDischargeDepth := 6) only [hb, ho, h1, hA, ruD, ruW, putL, Nat.reduceLeDiff, xF, ruU, entryE, Nat.reduceLT, Nat.reduceAdd, Nat.reduceMul, Nat.reduceEqDiff]
    have hrn := restrict_next H y.root.blks
    obtain ⟨_, k, hc, rfl, m1, t1⟩ := rresize_c true y.root y.h h (H.restrict y.root.blks) (by rw [hrn.1, hrn.2.1]; exact Nat.le_refl _) (g.ref.of fun m hm => by rw [restrict_get, if_pos hm]) (fun m hm => by rw [hrn.1]; exact g.lts m hm) g.nd
    refine genV_mod (H := ext H []) (W := y.root.blks) y.root.blks g.ok (by simp only [ruU, entryE, Nat.reduceLT, Nat.reduceAdd, Nat.reduceMul, Nat.reduceEqDiff]) (by kernel_rfl) g.ref.ne g.lts (fun _ h => h) (v := .tuple #[]) (g := k) (by simp only [ruU, entryE, Nat.reduceLT, Nat.reduceAdd, Nat.reduceMul, Nat.reduceEqDiff]; exact hc) m1 (by simp only [all2_cons, hA, true_or, and_true, all2_nil]) ?_
    intro H1 D mH1 hF _ _ _
    have s1 : RStep H o y H1 { y with root := y.root.resize true y.h h } := RStep.tree g mH1 (t1.of fun m hm => hF m (by rw [Rr.resize_blks] at hm; exact hm)) (Rr.resize_root _ _ _ _) (Rr.resize_blks _ _ _ _)
    have g1 := s1.good
    have k1 := g1.at'
    simp only [Rw.cells, Rr.val, Rr.resize_root] at k1
    have ho1 := g1.lt
    rw [show H1 = ext H1 [] from rfl]
    simp (maxDischargeDepth := 6) only [ruD, ruW, putL, Nat.reduceLeDiff, xF, ruU, entryE, Nat.reduceLT, Nat.reduceAdd, Nat.reduceMul, Nat.reduceEqDiff]
    refine w_drawB [(9, 3), (9, 7)] [] (by kernel_rfl) (by kernel_rfl) rfl fun ops anc hA hG => ?_
    simp only [all2_cons] at hA
    simp (maxDischargeDepth := 6) only [ho1, k1, hA, ruD, ruW, putL, Nat.reduceLeDiff, xF, ruU, entryE, Nat.reduceLT, Nat.reduceAdd, Nat.reduceMul, Nat.reduceEqDiff]
    have hrn1 := restrict_next H1 (y.root.resize true y.h h).blks
    obtain ⟨_, k2, hc2, rfl, m2, t2⟩ := rresize_c false (y.root.resize true y.h h) y.w w (H1.restrict (y.root.resize true y.h h).blks) (by rw [hrn1.1, hrn1.2.1]; exact Nat.le_refl _) (g1.ref.of fun m hm => by rw [restrict_get, if_pos hm]) (fun m hm => by rw [hrn1.1]; exact g1.lts m hm) g1.nd
    simp only [Rr.val, Rr.resize_root] at hc2
    refine genV_mod (H := ext H1 []) (W := (y.root.resize true y.h h).blks) (y.root.resize true y.h h).blks g1.ok (by simp only [ruU, entryE, Nat.reduceLT, Nat.reduceAdd, Nat.reduceMul, Nat.reduceEqDiff]) (by kernel_rfl) g1.ref.ne g1.lts (fun _ h => h) (v := .tuple #[]) (g := k2) (by simp only [ruU, entryE, Nat.reduceLT, Nat.reduceAdd, Nat.reduceMul, Nat.reduceEqDiff]; exact hc2) m2 (by simp only [all2_cons, hA, true_or, and_true, all2_nil]) ?_
    intro H2 D mH2 hF2 _ _ _
    have s2 : RStep H1 o { y with root := y.root.resize true y.h h } H2 { y with root := (y.root.resize true y.h h).resize false y.w w } := RStep.tree (y := { y with root := y.root.resize true y.h h }) g1 mH2 (t2.of fun m hm => hF2 m (by rw [Rr.resize_blks] at hm; exact hm)) (Rr.resize_root _ _ _ _) (Rr.resize_blks _ _ _ _)
    have g2 := s2.good
    have k2' := g2.at'
    simp only [Rw.cells, Rr.val, Rr.resize_root] at k2'
    have ho2 := g2.lt
    rw [show H2 = ext H2 [] from rfl]
    simp (maxDischargeDepth := 6) only [ho2, k2', Try.results59, ruD, ruW, putL, Nat.reduceLeDiff, xF, ruU, entryE, Nat.reduceLT, Nat.reduceAdd, Nat.reduceMul, Nat.reduceEqDiff]
    generalize hU : uw H2 o 1 [.int .i64 h] = U
    have mU : Mod [o] H2 U := hU ▸ Mod.uw (by simp)
    have hU1 : bk U o = some ⟨60, false, [.pointer (some ⟨y.root.root, 0, none⟩), .int .i64 h, .int .i64 y.w, .int .i64 y.last, .int .i64 y.sel]⟩ := by rw [← hU, bk_uw_eq, k2']; rfl
    have s3 : RStep H2 o { y with root := (y.root.resize true y.h h).resize false y.w w } (ext (uw U o 2 [.int .i64 w]) []) { y with root := (y.root.resize true y.h h).resize false y.w w, h := h, w := w } := by
      refine RStep.own g2 (mU.trans (Mod.uw (by simp))) rfl ?_
      rw [ext_nil, bk_uw_eq, hU1]
      simp only [Rw.cells, Rr.val, Rr.resize_root]
      rfl
    refine ⟨_, (s1.trans g.ok s2).trans g.ok s3, ?_⟩
    have hts := v.tsize
    have hi := inside_iff.1 v.inn
    have hi2 := inside_iff.1 hin
    have q1 := Atr.rresize_eq true y.abs.root y.abs.frame.dim h v.fit (by omega) (by have := v.size true; rw [← Rc.dim_eq] at this; omega) (by omega) (by rw [← Atr.least_eq true _ (by omega)]; rw [et]; omega)
    have f1 := Atr.resize_fits true y.abs.root y.abs.frame.dim h v.fit (by omega) (by have := v.size true; rw [← Rc.dim_eq] at this; omega) (by omega) (by rw [← Atr.least_eq true _ (by omega)]; rw [et]; omega)
    have e1 : (y.abs.frame.dim.set true h) false = y.w := rfl
    have q2 := Atr.rresize_eq false (y.abs.root.resize true (y.abs.frame.dim true) h) (y.abs.frame.dim.set true h) w f1 (by rw [Atr.size_resize]; omega) (by rw [e1]; have := hi.2.2.2; show y.abs.w ≤ _; omega) (by omega) (by rw [Atr.lst_resize, ← Atr.least_eq false _ (by omega)]; rw [et]; omega)
    rw [e1] at q2
    simp only [Rw.abs, Rr.resize_abs]
    have q1' : y.root.abs.rresize true y.h h = y.root.abs.resize true y.h h := q1
    have q2' : (y.root.abs.resize true y.h h).rresize false y.w w = (y.root.abs.resize true y.h h).resize false y.w w := q2
    rw [q1', q2']

set_option maxHeartbeats 1000000 in
theorem rsplit_d (o : Nat) (y : Rw) (id : Int) (be : Bool) (n : Int) (H : AHeap) (g : RGood H o y) {m : Int} (v : Inv y.abs m) :
    RDoes 54 [.int .i64 id, .bool be, .int .i64 n] H o y (.tuple #[.int .i64 (y.abs.split id be n).1, .int .i64 (y.abs.split id be n).2.1]) (y.abs.split id be n).2.2 := by
  obtain ⟨b, hb⟩ : ∃ b, H.next = b := ⟨_, rfl⟩
  have h1 := g.at'
  simp only [Rw.cells, Rr.val] at h1
  have ho : o < b := hb ▸ g.lt
  have hbase : H.base ≤ b := hb ▸ g.ok
  have hts := v.tsize
  have hsz : y.root.size < 64 := by rw [Rr.size_abs]; exact hts
  have hlen := rw_len y
  have hne := rw_ne y
  refine callE_fn mixed Try.func54 rfl Try.ntmps54 (Nat.le_of_ble_eq_true rfl) ?_
  simp (maxDischargeDepth := 6) only [ruW, putL, Nat.reduceLeDiff, xF, ruU, entryE, Nat.reduceLT, Nat.reduceAdd, Nat.reduceMul, Nat.reduceEqDiff]
  refine (rknown_c o y id (ext H []) g.at' g.ref).to ?_
  unfold Ast.split
  cases hf : y.abs.root.find id with
  | none =>
    have hi : ¬ id ∈ y.root.abs.ids := Atr.find_none id _ hf
    simp (maxDischargeDepth := 6) only [hi, if_false, hb, ho, h1, Int.reduceEq, ne_eq, not_true_eq_false, not_false_eq_true, decide_false, decide_true, Try.results54, ruW, putL, Nat.reduceLeDiff, xF, ruU, entryE, Nat.reduceLT, Nat.reduceAdd, Nat.reduceMul, Nat.reduceEqDiff]
    exact ⟨by trivial, y, RStep.same g Mod.refl, rfl⟩
  | some d =>
    have hi : id ∈ y.root.abs.ids := Atr.find_iff.2 ⟨d, hf⟩
    have era : y.abs.rects = y.rects := rfl
    simp (maxDischargeDepth := 6) only [hi, if_true, hb, ho, h1, Int.reduceEq, ne_eq, not_true_eq_false, not_false_eq_true, decide_false, decide_true, era, ruW, putL, Nat.reduceLeDiff, xF, ruU, entryE, Nat.reduceLT, Nat.reduceAdd, Nat.reduceMul, Nat.reduceEqDiff]
    refine (rRects_c o y (ext H []) g.at' g.ref (by omega)).to ?_
    rw [rowsV_ne hne, rowsM_ne hne]
    by_cases h64 : 64 ≤ y.rects.length
    · have h64' : (64 : Int) ≤ (y.rects.length : Int) := by omega
      rw [if_pos h64]
      simp (maxDischargeDepth := 6) only [hb, ho, h1, h64', decide_true, Try.results54, ruW, putL, Nat.reduceLeDiff, xF, ruU, entryE, Nat.reduceLT, Nat.reduceAdd, Nat.reduceMul, Nat.reduceEqDiff]
      exact ⟨by trivial, y, RStep.same g (Mod.ext g.ok), rfl⟩
    · have h64' : ¬ (64 : Int) ≤ (y.rects.length : Int) := by omega
      rw [if_neg h64]
      by_cases hn : n < 0
      · rw [if_pos hn]
        simp (maxDischargeDepth := 6) only [hb, ho, h1, h64', hn, decide_true, decide_false, Try.results54, ruW, putL, Nat.reduceLeDiff, xF, ruU, entryE, Nat.reduceLT, Nat.reduceAdd, Nat.reduceMul, Nat.reduceEqDiff]
        exact ⟨by trivial, y, RStep.same g (Mod.ext g.ok), rfl⟩
      · rw [if_neg hn]
        simp (maxDischargeDepth := 6) only [hb, ho, h1, h64', hn, decide_false, ruW, putL, Nat.reduceLeDiff, xF, ruU, entryE, Nat.reduceLT, Nat.reduceAdd, Nat.reduceMul, Nat.reduceEqDiff]
        have gE : RGood (ext H [⟨35, true, rowsOf y.rects⟩]) o y := g.ext
        refine (rRect_c o y id (ext H [⟨35, true, rowsOf y.rects⟩]) gE.at' gE.ref (by omega)).to ?_
        have hro : rectOf id y.rects = ({ y.root.abs.rectAt y.frame d with id := id }, true) := Atr.rectOf_find hf
        rw [hro]
        generalize hrc : ({ y.root.abs.rectAt y.frame d with id := id } : Rc) = rc
        have hrs : y.abs.splitW d be = w64 (rc.size be - bar be) := by rw [← hrc]; cases be <;> rfl
        simp (maxDischargeDepth := 6) only [Rc.val, hb, hbase, ruW, putL, Nat.reduceLeDiff, xF, ruU, entryE, Nat.reduceLT, Nat.reduceAdd, Nat.reduceMul, Nat.reduceEqDiff]
        refine (rsize_c rc be (ext H (_ :: _))).to ?_
        simp (maxDischargeDepth := 6) only [ruW, putL, Nat.reduceLeDiff, xF, ruU, entryE, Nat.reduceLT, Nat.reduceAdd, Nat.reduceMul, Nat.reduceEqDiff]
        refine (rbar_c be (ext H (_ :: _))).to ?_
        simp (maxDischargeDepth := 6) only [hb, ho, ruW, putL, Nat.reduceLeDiff, xF, ruU, entryE, Nat.reduceLT, Nat.reduceAdd, Nat.reduceMul, Nat.reduceEqDiff]
        rw [show IntKind.i64.wrap (rc.size be - bar be) = y.abs.splitW d be from hrs.symm]
        have eN : y.abs.splitN d be n = if n = 0 then w64 ((y.abs.splitW d be).tdiv 2) else n := rfl
        generalize hW : y.abs.splitW d be = W at eN ⊢
        generalize hN : y.abs.splitN d be n = n' at eN ⊢
        generalize hX : ext H (_ :: _) = X
        have mX : Mod [] H X := hX ▸ Mod.ext g.ok
        have hbX : b ≤ X.next := by have := mX.next; omega
        have gX := g.mod mX (by simp) (by simp)
        have kX := gX.at'
        simp only [Rw.cells, Rr.val] at kX
        obtain ⟨c, hc⟩ : ∃ c, X.next = c := ⟨_, rfl⟩
        have lo : o < c := hc ▸ gX.lt
        have hbc : X.base ≤ c := hc ▸ gX.ok
        refine condC_join (fun E' H' => H' = ext X [] ∧ E' 0 = .pointer (some ⟨o, 0, none⟩) ∧ E' 1 = .int .i64 id ∧ E' 2 = .bool be ∧ E' 3 = .int .i64 n' ∧ E' 12 = .int .i64 W) (fun h0 => ?_) (fun h0 => ?_) ?_
        · have h0 := of_decide_eq_true h0
          rw [if_pos h0] at eN
          rw [show X = ext X [] from rfl]
          simp (maxDischargeDepth := 6) only [Int.reduceEq, ruW, putL, Nat.reduceLeDiff, xF, ruU, entryE, Nat.reduceLT, Nat.reduceAdd, Nat.reduceMul, Nat.reduceEqDiff]
          rw [joinC_normal]
          exact ⟨_, rfl, rfl, by simp only [ruU, entryE, Nat.reduceLT, Nat.reduceAdd, Nat.reduceMul, Nat.reduceEqDiff], by simp only [ruU, entryE, Nat.reduceLT, Nat.reduceAdd, Nat.reduceMul, Nat.reduceEqDiff], by simp only [ruU, entryE, Nat.reduceLT, Nat.reduceAdd, Nat.reduceMul, Nat.reduceEqDiff], by rw [eN]; simp only [ruU, entryE, Nat.reduceLT, Nat.reduceAdd, Nat.reduceMul, Nat.reduceEqDiff], by simp only [ruU, entryE, Nat.reduceLT, Nat.reduceAdd, Nat.reduceMul, Nat.reduceEqDiff]⟩
        · have h0 := of_decide_eq_false h0
          rw [if_neg h0] at eN
          rw [show X = ext X [] from rfl]
          simp (maxDischargeDepth := 6) only [ruW, putL, Nat.reduceLeDiff, xF, ruU, entryE, Nat.reduceLT, Nat.reduceAdd, Nat.reduceMul, Nat.reduceEqDiff]
          rw [joinC_normal]
          exact ⟨_, rfl, rfl, by simp only [ruU, entryE, Nat.reduceLT, Nat.reduceAdd, Nat.reduceMul, Nat.reduceEqDiff], by simp only [ruU, entryE, Nat.reduceLT, Nat.reduceAdd, Nat.reduceMul, Nat.reduceEqDiff], by simp only [ruU, entryE, Nat.reduceLT, Nat.reduceAdd, Nat.reduceMul, Nat.reduceEqDiff], by rw [eN]; simp only [ruU, entryE, Nat.reduceLT, Nat.reduceAdd, Nat.reduceMul, Nat.reduceEqDiff], by simp only [ruU, entryE, Nat.reduceLT, Nat.reduceAdd, Nat.reduceMul, Nat.reduceEqDiff]⟩
        · rintro E _ ⟨hH, e0, e1, e2, e3, e12⟩
          rw [hH]
          simp (maxDischargeDepth := 6) only [e0, e1, e2, e3, e12, hc, lo, kX, ruW, putL, Nat.reduceLeDiff, xF, ruU, entryE, Nat.reduceLT, Nat.reduceAdd, Nat.reduceMul, Nat.reduceEqDiff]
          obtain ⟨q, hq, hleaf⟩ := rleaf_c y.root id d (ext X []) gX.ref hf
          simp only [Rr.val] at hleaf
          refine hleaf.to ?_
          have hql : RefAt X (.leaf q id) := Rr.sub_at y.root d _ hq gX.ref
          have hqm : q ∈ y.root.blks := Rr.sub_blks y.root d _ hq q (by simp [Rr.blks])
          have lq : q < c := hc ▸ gX.lts q hqm
          have hqo : q ≠ o := fun e => gX.nO (e ▸ hqm)
          have hls := fun (L : AHeap) (h : RefAt L (.leaf q id)) => rleast_c be (.leaf q id) L h
          simp only [Rr.val, Rr.root, Rr.abs, Atr.least] at hls
          by_cases c1 : W < n'
          · rw [if_pos (.inl c1)]
            simp (maxDischargeDepth := 6) only [e0, e1, e2, e3, e12, c1, decide_true, Try.results54, ruW, putL, Nat.reduceLeDiff, xF, ruU, entryE, Nat.reduceLT, Nat.reduceAdd, Nat.reduceMul, Nat.reduceEqDiff]
            exact ⟨by trivial, y, RStep.same g mX, rfl⟩
          simp (maxDischargeDepth := 6) only [e0, e1, e2, e3, e12, c1, decide_false, ruW, putL, Nat.reduceLeDiff, xF, ruU, entryE, Nat.reduceLT, Nat.reduceAdd, Nat.reduceMul, Nat.reduceEqDiff]
          refine (hls (ext X []) hql).to ?_
          by_cases c2 : n' < mins be
          · rw [if_pos (.inr (.inl c2))]
            simp (maxDischargeDepth := 6) only [e0, e1, e2, e3, e12, c2, decide_true, Try.results54, ruW, putL, Nat.reduceLeDiff, xF, ruU, entryE, Nat.reduceLT, Nat.reduceAdd, Nat.reduceMul, Nat.reduceEqDiff]
            exact ⟨by trivial, y, RStep.same g mX, rfl⟩
          simp (maxDischargeDepth := 6) only [e0, e1, e2, e3, e12, c2, decide_false, ruW, putL, Nat.reduceLeDiff, xF, ruU, entryE, Nat.reduceLT, Nat.reduceAdd, Nat.reduceMul, Nat.reduceEqDiff]
          refine (hls (ext X []) hql).to ?_
          by_cases c3 : w64 (W - n') < mins be
          · rw [if_pos (.inr (.inr c3))]
            simp (maxDischargeDepth := 6) only [e0, e1, e2, e3, e12, c3, decide_true, Try.results54, ruW, putL, Nat.reduceLeDiff, xF, ruU, entryE, Nat.reduceLT, Nat.reduceAdd, Nat.reduceMul, Nat.reduceEqDiff]
            exact ⟨by trivial, y, RStep.same g mX, rfl⟩
          rw [if_neg (by simp only [c1, c2, c3, or_self, not_false_eq_true])]
          simp (maxDischargeDepth := 6) only [e0, e1, e2, e3, e12, c3, hc, lo, kX, hbc, decide_false, ruW, putL, Nat.reduceLeDiff, xF, ruU, entryE, Nat.reduceLT, Nat.reduceAdd, Nat.reduceMul, Nat.reduceEqDiff]
          generalize hU : uw X o 3 [.int .i64 (IntKind.i64.wrap (y.last + 1))] = U
          generalize hl' : IntKind.i64.wrap (y.last + 1) = last' at hU
          have mU : Mod [o] X U := hU ▸ Mod.uw (by simp)
          have kU : bk U o = some ⟨60, false, [.pointer (some ⟨y.root.root, 0, none⟩), .int .i64 y.h, .int .i64 y.w, .int .i64 last', .int .i64 y.sel]⟩ := by rw [← hU, bk_uw_eq, kX]; rfl
          have s1 : RStep X o y U { y with last := last' } := RStep.own gX mU rfl (by rw [kU]; rfl)
          have gU := s1.good
          have hcU : U.next = c := by rw [← hU, uw_next, hc]
          have hbU : U.base ≤ c := by rw [← hU, uw_base]; exact hbc
          obtain ⟨bq, fq, hqU⟩ := Rr.sub_at y.root d _ hq gU.ref
          simp (maxDischargeDepth := 6) only [hcU, lo, lq, kU, hqU, hbU, ruW, putL, Nat.reduceLeDiff, xF, ruU, entryE, Nat.reduceLT, Nat.reduceAdd, Nat.reduceMul, Nat.reduceEqDiff]
          generalize hf' : IntKind.i64.wrap (W - n') = f'
          generalize hV : uw U q 0 _ = V
          have mV : Mod [q] U V := hV ▸ Mod.uw (by simp)
          have hcV : V.next = c := by rw [← hV, uw_next, hcU]
          have kV : bk V o = _ := (mV.bk (hcU ▸ lo) (by simpa using Ne.symm hqo)).trans kU
          have kQ : bk V q = some ⟨100, false, [.int .i64 0, .bool be, .int .i64 f', .pointer (some ⟨c + 0, 0, none⟩), .pointer (some ⟨c + 1, 0, none⟩)]⟩ := by rw [← hV, bk_uw_eq, hqU]; rfl
          simp (maxDischargeDepth := 6) only [e0, hcV, lo, kV, Try.results54, ruW, putL, Nat.reduceLeDiff, xF, ruU, entryE, Nat.reduceLT, Nat.reduceAdd, Nat.reduceMul, Nat.reduceEqDiff]
          have er : (Rr.leaf q id).root = q := rfl
          generalize hY : ext V [_, _] = Y
          have mY : Mod [q] V Y := hY ▸ Mod.ext (mV.ok gU.ok)
          have hYn : Y.next = c + 2 := by rw [← hY, ext_next, hcV]; rfl
          have mT := mV.trans mY
          have tn : RefAt Y (.split q be f' (.leaf (c + 0) id) (.leaf (c + 1) last')) := by
            refine ⟨⟨0, ?_⟩, ⟨false, 0, ?_⟩, ⟨false, 0, ?_⟩⟩
            · rw [← hY, bk_old (hcV.symm ▸ lq), kQ]; rfl
            · rw [← hY, bk_at hcV (by simp)]; rfl
            · rw [← hY, bk_at hcV (by simp)]; rfl
          have s2 : RStep U o { y with last := last' } Y { y with root := y.root.put d (.split q be f' (.leaf (c + 0) id) (.leaf (c + 1) last')), last := last' } := by
            refine RStep.part (y := { y with last := last' }) (n := .split q be f' (.leaf (c + 0) id) (.leaf (c + 1) last')) gU hq mT tn rfl (fun k hk => ?_) (fun k hk => ?_) ?_
            · simp only [Rr.blks, List.mem_cons, List.mem_append, List.not_mem_nil, or_false] at hk ⊢
              omega
            · simp only [Rr.blks, List.mem_cons, List.mem_append, List.not_mem_nil, or_false] at hk
              omega
            · simp only [Rr.blks, List.nodup_cons, List.mem_append, List.mem_singleton, List.cons_append, List.nil_append, List.mem_cons, List.not_mem_nil, or_false, not_false_eq_true, List.nodup_nil, and_true]
              omega
          refine ⟨by rw [← hl']; rfl, _, ((RStep.same g mX).trans g.ok s1).trans g.ok s2, ?_⟩
          simp only [Rw.abs, Rr.abs_put, Rr.abs]
          rw [← hl', ← hf']

end Go.Proofs.Ytiedpcmdimgboaa
