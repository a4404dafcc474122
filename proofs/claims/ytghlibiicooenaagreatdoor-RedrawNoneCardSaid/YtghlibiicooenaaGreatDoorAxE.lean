/- The abstract executor: its operations on values are the model's. -/
import Derived.Test.YtghlibiicooenaaGreatDoorAxD
namespace Go.Ax

def Ren.dfr (ρ : Ren) (d : Deferred) : Deferred :=
  match d.target with
  | .collected r => ⟨.collected (ρ.blk r), d.args⟩
  | .fn f cap => ⟨.fn (ρ.fn f) (ρ.valA cap), ρ.valA d.args⟩
  | _ => d

def Ren.act (ρ : Ren) (a : AAct) : Act := ⟨ρ.tmps a.env, a.defers.map ρ.dfr⟩

theorem tmps_get? (ρ : Ren) (e : RV) (t : Nat) : (ρ.tmps e)[t]? = if t < e.n then some (ρ.val (e.get t)) else none := by
  unfold Ren.tmps
  by_cases h : t < e.n
  · simp [h]
  · simp [h]

theorem tmps_getD (ρ : Ren) (e : RV) (t : Nat) : (ρ.tmps e).getD t undef = if t < e.n then ρ.val (e.get t) else undef := by
  rw [Array.getD_eq_getD_getElem?, tmps_get?]
  split <;> rfl

@[simp] theorem tmps_size (ρ : Ren) (e : RV) : (ρ.tmps e).size = e.n := by simp [Ren.tmps]

theorem blt_false {a b : Nat} (h : ¬ a < b) : Nat.blt a b = false := by
  cases e : Nat.blt a b with
  | false => rfl
  | true => exact absurd (blt_lt e) h

theorem act_tmp (ρ : Ren) (a : AAct) (t : Nat) : (ρ.act a).tmps.getD t undef = ρ.val (a.tmp t) := by
  simp only [Ren.act, tmps_getD, AAct.tmp]
  by_cases h : t < a.env.n
  · simp [h, blt_of h]
  · simp [h, blt_false h]

theorem tmps_set (ρ : Ren) (e : RV) (d : Nat) (v : Value) : (ρ.tmps e).setIfInBounds d (ρ.val v) = ρ.tmps (if Nat.blt d e.n then e.set d v else e) := by
  apply Array.ext_getElem?
  intro i
  rw [Array.getElem?_setIfInBounds, tmps_get?, tmps_get?, tmps_size]
  by_cases h : d < e.n
  · rw [blt_of h, if_pos rfl, RV.n_set, RV.get_set]
    by_cases e1 : d = i
    · subst e1; simp [h]
    · have e2 : ¬ i = d := fun h => e1 h.symm
      simp [e1, e2]
  · rw [blt_false h]
    by_cases e1 : d = i
    · subst e1; simp [h]
    · rw [if_neg e1]; simp

theorem act_put (ρ : Ren) (a : AAct) (dst : Option Tmp) (v : Value) : (ρ.act a).put dst (ρ.val v) = ρ.act (a.put dst v) := by
  cases dst with
  | none => rfl
  | some d =>
    simp only [Act.put, AAct.put, Ren.act, tmps_set]
    split <;> rfl

section
variable {P : Program} {ρ : Ren} {H : AHeap} {w : World}

theorem aeval_run (_r : Rel P ρ H w) {a : AAct} {x : Operand} {v : Value} (h : aeval a x = some v) : (ρ.act a).eval x = ρ.val v := by
  cases x with
  | tmp t => simp only [aeval, Option.some.injEq] at h; subst h; exact act_tmp ρ a t
  | const c =>
    simp only [aeval] at h
    split at h
    · rename_i ha
      simp only [Option.some.injEq] at h
      subst h
      rw [val_af ρ _ ha]; rfl
    · cases h
  | global g => cases h
  | func f => simp only [aeval, Option.some.injEq] at h; subst h; simp [Act.eval, Ren.val, Ren.fn, Ren.valA, Ren.valL]

theorem aevals_run (r : Rel P ρ H w) {a : AAct} : ∀ {xs : List Operand} {vs : List Value}, aevals a xs = some vs → xs.map (ρ.act a).eval = vs.map ρ.val
  | [], vs, h => by simp only [aevals, Option.some.injEq] at h; subst h; rfl
  | x :: xs, vs, h => by
    simp only [aevals, Option.bind_eq_bind, Option.bind_eq_some_iff, Option.some.injEq] at h
    obtain ⟨v, hv, us, hu, rfl⟩ := h
    simp [aeval_run r hv, aevals_run r hu]

theorem pairs_run (r : Rel P ρ H w) {a : AAct} : ∀ {xs : List (Nat × Operand)} {vs : List (Nat × Value)}, pairs a xs = some vs → xs.map (fun p => (p.1, (ρ.act a).eval p.2)) = vs.map (fun p => (p.1, ρ.val p.2))
  | [], vs, h => by simp only [pairs, Option.some.injEq] at h; subst h; rfl
  | (i, x) :: xs, vs, h => by
    simp only [pairs, Option.bind_eq_bind, Option.bind_eq_some_iff, Option.some.injEq] at h
    obtain ⟨v, hv, us, hu, rfl⟩ := h
    simp [aeval_run r hv, pairs_run r hu]

theorem optEval_run (r : Rel P ρ H w) {a : AAct} {x : Option Operand} {v : Option Value} (h : optEval a x = some v) : x.map (ρ.act a).eval = v.map ρ.val := by
  cases x with
  | none => simp only [optEval, Option.some.injEq] at h; subst h; rfl
  | some x =>
    simp only [optEval, Option.map_eq_some_iff] at h
    obtain ⟨u, hu, rfl⟩ := h
    simp [aeval_run r hu]

theorem aPart_run {t : TypeId} {cs : List Value} {off : Nat} {x : Value} (h : aPart P t cs off = some x) : (part t (cs.map ρ.val).toArray off).run P w = .ok (ρ.val x) w := by
  simp only [aPart, Option.bind_eq_bind, Option.bind_eq_some_iff] at h
  obtain ⟨b, hb, h⟩ := h
  cases b with
  | true =>
    simp only [Option.bind_eq_some_iff, Option.some.injEq] at h
    obtain ⟨sz, hsz, rfl⟩ := h
    simp only [part, Sem.run_bind, run_aggT hb, Result.andThen_ok, if_true, run_szOf hsz, Sem.run_pure, Ren.val, Ren.valA, Ren.valL_eq]
    congr 2
    apply Array.ext'
    simp only [Array.toList_extract, List.extract_eq_take_drop, List.map_take, List.map_drop]
    congr 1; omega
  | false =>
    simp only at h
    simp [part, run_aggT hb, h]

theorem aField_run {t : TypeId} {x v : Value} {f : Nat} (h : aField P t x f = some v) : (Instr.field t (ρ.val x) f).run P w = .ok (ρ.val v) w := by
  unfold aField at h
  split at h
  · rename_i fields cs hu
    split at h
    · rename_i fd hfd
      have hfd' : fields[f]? = some fd := by simpa using hfd
      have hp := aPart_run (w := w) (ρ := ρ) h
      have hcs : ρ.val (.agg cs) = .agg (cs.toList.map ρ.val).toArray := by rw [Ren.val, Ren.valA_eq]; congr 1; apply Array.ext'; simp
      rw [hcs]
      simp [Instr.field, run_und hu, hfd', asAgg, hp]
    · cases h
  · cases h

theorem add_val (ρ : Ren) (a : Addr) (k : Nat) : ρ.val (.pointer (some (a.add k))) = .pointer (some ((Addr.mk (ρ.blk a.block) (a.off + ρ.sh a.block) a.spot).add k)) := by
  unfold Addr.add
  by_cases h : k = 0
  · simp [h, Ren.val]
  · simp only [h, if_false, Ren.val]
    congr 3; omega

theorem aFieldAddr_run {t : TypeId} {x v : Value} {f : Nat} (h : aFieldAddr P t x f = some v) : (Instr.fieldAt t (ρ.val x) f).run P w = .ok (ρ.val v) w := by
  unfold aFieldAddr at h
  split at h
  · rename_i fields a hu
    split at h
    · rename_i fd hfd
      have hfd' : fields[f]? = some fd := by simpa using hfd
      split at h
      · cases h
      · rename_i k hne hk
        simp only [Option.some.injEq] at h
        subst h
        have hk0 : k ≠ 0 := fun e => hne e
        rw [add_val]
        simp only [Ren.val, Instr.fieldAt, Sem.run_bind, run_und hu, Result.andThen_ok, hfd', Instr.sureAddr, Sem.run_pure, fieldPlace, run_szOf hk, hk0, if_false]
      · cases h
    · cases h
  · cases h

theorem aIndex_run {t : TypeId} {x i v : Value} (h : aIndex P t x i = some v) : (Instr.index t (ρ.val x) (ρ.val i)).run P w = .ok (ρ.val v) w := by
  unfold aIndex at h
  split at h
  · rename_i len elem cs k n hu
    simp only [Option.bind_eq_bind, Option.bind_eq_some_iff] at h
    obtain ⟨sz, hsz, h⟩ := h
    split at h
    · rename_i hin
      have hp := aPart_run (w := w) (ρ := ρ) h
      have hcs : ρ.val (.agg cs) = .agg (cs.toList.map ρ.val).toArray := by rw [Ren.val, Ren.valA_eq]; congr 1; apply Array.ext'; simp
      rw [hcs]
      simp [Instr.index, asIntOf, Ren.val, run_und hu, hin, run_szOf hsz, hp]
    · cases h
  · cases h

theorem aIndexAddr_run {t : TypeId} {x i v : Value} (h : aIndexAddr P t x i = some v) : (Instr.indexAt t (ρ.val x) (ρ.val i)).run P w = .ok (ρ.val v) w := by
  unfold aIndexAddr at h
  split at h
  · rename_i len elem a k n hu
    simp only [Option.bind_eq_bind, Option.bind_eq_some_iff] at h
    obtain ⟨sz, hsz, h⟩ := h
    split at h
    · rename_i hin
      simp only [Option.some.injEq] at h
      subst h
      rw [add_val]
      simp [Instr.indexAt, asIntOf, Ren.val, run_und hu, hin, run_szOf hsz, Instr.sureAddr]
    · cases h
  · rename_i elem a len cap k n hu
    simp only [Option.bind_eq_bind, Option.bind_eq_some_iff] at h
    obtain ⟨sz, hsz, h⟩ := h
    split at h
    · rename_i hin
      simp only [Option.some.injEq] at h
      subst h
      simp [Instr.indexAt, asIntOf, Ren.val, run_und hu, hin, run_szOf hsz, addr_add]
      omega
    · cases h
  · cases h

/-! slices -/
theorem bound_none {d k : Nat} (h : bound d none = some k) : k = d := by simpa [bound] using h.symm

theorem bound_some {d k : Nat} {v : Value} (h : bound d (some v) = some k) : ∃ kd, v = .int kd (k : Int) := by
  unfold bound at h
  split at h
  · rename_i heq; cases heq
  · rename_i kd i heq
    split at h
    · rename_i h0
      cases heq
      simp only [Option.some.injEq] at h
      exact ⟨kd, by rw [← h, Int.toNat_of_nonneg h0]⟩
    · cases h
  · cases h

theorem run_sliceBound {kd : IntKind} {k y : Nat} (code : BoundsCode) (h : k ≤ y) : (Instr.sliceBound (.int kd k) y code).run P w = .ok k w := by
  simp [Instr.sliceBound, asIntOf, h]

theorem run_sliceBounds (isS : Bool) {len cap l h : Nat} {lo hi : Option Value} (hl : bound 0 lo = some l) (hh : bound len hi = some h) (h1 : hi = none ∨ h ≤ cap) (h2 : l ≤ h) :
    (Instr.sliceBounds isS len cap (lo.map ρ.val) (hi.map ρ.val) none).run P w = .ok (l, h, cap) w := by
  cases hi with
  | none =>
    have := bound_none hh
    subst this
    cases lo with
    | none => have := bound_none hl; subst this; simp [Instr.sliceBounds]
    | some v => obtain ⟨kd, rfl⟩ := bound_some hl; simp [Instr.sliceBounds, Ren.val, run_sliceBound _ h2]
  | some u =>
    obtain ⟨kd, rfl⟩ := bound_some hh
    have hc : h ≤ cap := by simpa using h1
    cases lo with
    | none => have := bound_none hl; subst this; simp [Instr.sliceBounds, Ren.val, run_sliceBound _ hc]
    | some v => obtain ⟨kd, rfl⟩ := bound_some hl; simp [Instr.sliceBounds, Ren.val, run_sliceBound _ h2, run_sliceBound _ hc]

theorem run_sliceBounds3 {len cap l h m : Nat} {kd : IntKind} {lo hi : Option Value} (hl : bound 0 lo = some l) (hh : bound len hi = some h) (hhi : hi ≠ none) (h0 : m ≤ cap) (h1 : h ≤ m) (h2 : l ≤ h) :
    (Instr.sliceBounds true len cap (lo.map ρ.val) (hi.map ρ.val) (some (.int kd m))).run P w = .ok (l, h, m) w := by
  cases hi with
  | none => exact absurd rfl hhi
  | some u =>
    obtain ⟨kd, rfl⟩ := bound_some hh
    cases lo with
    | none => have := bound_none hl; subst this; simp [Instr.sliceBounds, Ren.val, run_sliceBound _ h0, run_sliceBound _ h1]
    | some v => obtain ⟨kd, rfl⟩ := bound_some hl; simp [Instr.sliceBounds, Ren.val, run_sliceBound _ h0, run_sliceBound _ h1, run_sliceBound _ h2]

/-- a Sem's value is the abstract one's, in a world that the abstract heap stands for -/
def VOk (P : Program) (ρ : Ren) (H : AHeap) (w : World) (s : Sem Value) (v : Value) (H1 : AHeap) : Prop :=
  ∃ ρ1 w1, St P ρ H w ρ1 H1 w1 ∧ s.run P w = .ok (ρ1.val v) w1

theorem VOk.same (r : Rel P ρ H w) {s : Sem Value} {v : Value} (h : s.run P w = .ok (ρ.val v) w) : VOk P ρ H w s v H := ⟨ρ, w, St.refl r, h⟩

theorem isOpen_cells {n : Nat} {b : Bool} (h : isOpen H n = some b) : ∃ v e, cellsAt H n = some (v, e, b) := by
  unfold isOpen at h
  split at h
  · rename_i c e f o v hg
    simp only [Option.some.injEq] at h
    subst h
    exact ⟨v, e, by simp [cellsAt, hg]⟩
  · cases h

/-- a slice whose capacity is known -/
theorem exact_cap (r : Rel P ρ H w) {a : Addr} {len cap : Nat} (h : exactAt H a = some true) : ρ.val (.slice (some a) len cap) = .slice (some ⟨ρ.blk a.block, a.off + ρ.sh a.block, none⟩) len cap := by
  unfold exactAt at h
  split at h
  · rename_i s hs; simp [Ren.val, hs]
  · rename_i hs
    simp only [Option.map_eq_some_iff] at h
    obtain ⟨b, hb, hb'⟩ := h
    have hbf : b = false := by cases b <;> simp_all
    subst hbf
    obtain ⟨v, e, hc⟩ := isOpen_cells hb
    obtain ⟨c, fz, hC⟩ := r.cells hc
    simp [Ren.val, hs, (hC.shut rfl).2.2.1]

theorem inexact {a : Addr} (h : exactAt H a = some false) : a.spot = none ∧ isOpen H a.block = some true := by
  unfold exactAt at h
  split at h
  · cases h
  · rename_i hs
    simp only [Option.map_eq_some_iff] at h
    obtain ⟨b, hb, hb'⟩ := h
    have : b = true := by cases b <;> simp_all
    subst this
    exact ⟨hs, hb⟩

theorem optAdd (b o m l sz : Nat) : (if m = l then some (Addr.mk b o none) else (some (Addr.mk b o none)).map (·.add (l * sz))) = some ⟨b, if m = l then o else o + l * sz, none⟩ := by
  by_cases h : m = l
  · simp [h]
  · simp [h, addr_add]

theorem ite_add (c : Prop) [Decidable c] (a b s : Nat) : (if c then a + s else a + s + b) = (if c then a else a + b) + s := by split <;> omega

theorem aSlice3_run (r : Rel P ρ H w) {t e : TypeId} {sz : Nat} {a : Option Addr} {len cap m : Nat} {kd : IntKind} {lo hi : Option Value} {v : Value} {H1 : AHeap}
    (hu : P.underlying t = some (.slice e)) (hsz : szOf P e = some sz) (hhi : hi ≠ none) (h : aSlice3 H sz a len cap lo hi m = some (v, H1)) :
    VOk P ρ H w (Instr.slice t (ρ.val (.slice a len cap)) (lo.map ρ.val) (hi.map ρ.val) (some (.int kd m))) v H1 := by
  simp only [aSlice3, Option.bind_eq_bind, Option.bind_eq_some_iff] at h
  obtain ⟨l, hl, hh, hhh, h⟩ := h
  split at h
  · rename_i hc
    obtain ⟨c1, c2, c3⟩ := hc
    cases a with
    | none =>
      simp only [Option.some.injEq, Prod.mk.injEq] at h
      obtain ⟨rfl, rfl⟩ := h
      refine VOk.same r ?_
      simp only [Ren.val, Instr.slice, Sem.run_bind, run_und hu, Result.andThen_ok, run_sliceBounds3 hl hhh hhi c1 c2 c3, run_szOf hsz, Sem.run_pure, Option.map_none, ite_self]
    | some a =>
      simp only [Option.some.injEq, Prod.mk.injEq] at h
      obtain ⟨rfl, rfl⟩ := h
      refine VOk.same r ?_
      have hcap : m ≤ (if a.spot.isSome then cap else cap + ρ.ex a.block) := by split <;> omega
      simp only [Ren.val, Instr.slice, Sem.run_bind, run_und hu, Result.andThen_ok, run_sliceBounds3 hl hhh hhi hcap c2 c3, run_szOf hsz, Sem.run_pure, optAdd]
      simp only [Option.isSome_some, if_true, ite_add]
  · cases h

theorem aSlice2_run (r : Rel P ρ H w) {t e : TypeId} {sz : Nat} {a : Option Addr} {len cap : Nat} {lo hi : Option Value} {v : Value} {H1 : AHeap}
    (hu : P.underlying t = some (.slice e)) (hsz : szOf P e = some sz) (h : aSlice2 H sz a len cap lo hi = some (v, H1)) :
    VOk P ρ H w (Instr.slice t (ρ.val (.slice a len cap)) (lo.map ρ.val) (hi.map ρ.val) none) v H1 := by
  simp only [aSlice2, Option.bind_eq_bind, Option.bind_eq_some_iff] at h
  obtain ⟨l, hl, hh, hhh, h⟩ := h
  split at h
  · rename_i hc
    obtain ⟨c1, c2⟩ := hc
    cases a with
    | none =>
      simp only [Option.some.injEq, Prod.mk.injEq] at h
      obtain ⟨rfl, rfl⟩ := h
      refine VOk.same r ?_
      simp only [Ren.val, Instr.slice, Sem.run_bind, run_und hu, Result.andThen_ok, run_sliceBounds true hl hhh (.inr c1) c2, run_szOf hsz, Sem.run_pure, Option.map_none, ite_self]
    | some a =>
      simp only [Option.bind_eq_some_iff] at h
      obtain ⟨b, hb, h⟩ := h
      cases b with
      | true =>
        simp only [Option.some.injEq, Prod.mk.injEq] at h
        obtain ⟨rfl, rfl⟩ := h
        refine VOk.same r ?_
        rw [exact_cap r hb]
        simp only [Instr.slice, Sem.run_bind, run_und hu, Result.andThen_ok, run_sliceBounds true hl hhh (.inr c1) c2, run_szOf hsz, Sem.run_pure, optAdd, Ren.val, Option.isSome_some, if_true, ite_add]
      | false =>
        obtain ⟨hs, ho⟩ := inexact hb
        have hval : ρ.val (.slice (some a) len cap) = .slice (some ⟨ρ.blk a.block, a.off + ρ.sh a.block, none⟩) len (cap + ρ.ex a.block) := by simp [Ren.val, hs]
        have hrun : (Instr.slice t (ρ.val (.slice (some a) len cap)) (lo.map ρ.val) (hi.map ρ.val) none).run P w =
            .ok (.slice (some ⟨ρ.blk a.block, if cap + ρ.ex a.block = l then a.off + ρ.sh a.block else a.off + ρ.sh a.block + l * sz, none⟩) (hh - l) (cap + ρ.ex a.block - l)) w := by
          rw [hval]
          simp only [Instr.slice, Sem.run_bind, run_und hu, Result.andThen_ok, run_sliceBounds (cap := cap + ρ.ex a.block) true hl hhh (.inr (by omega)) c2, run_szOf hsz, Sem.run_pure, optAdd]
        simp only at h
        split at h
        · rename_i hl0
          simp only [Option.some.injEq, Prod.mk.injEq] at h
          obtain ⟨rfl, rfl⟩ := h
          refine VOk.same r ?_
          rw [hrun]
          subst hl0
          simp [Ren.val]
        · split at h
          · rename_i hl0 hlc
            simp only [Option.some.injEq, Prod.mk.injEq] at h
            obtain ⟨rfl, rfl⟩ := h
            refine VOk.same r ?_
            rw [hrun, if_neg (by omega)]
            simp only [Ren.val, Option.isSome_none, Bool.false_eq_true, if_false]
            rw [show a.off + ρ.sh a.block + l * sz = a.off + l * sz + ρ.sh a.block from by omega, show cap + ρ.ex a.block - l = cap - l + ρ.ex a.block from by omega]
          · rename_i hl0 hlc
            simp only [Option.bind_eq_some_iff] at h
            obtain ⟨⟨v0, e0, o0⟩, hc0, h⟩ := h
            have hle : l = cap := by omega
            have hhl : hh = l := by omega
            obtain ⟨v1, e1, hc1⟩ := isOpen_cells ho
            have : (v0, e0, o0) = (v1, e1, true) := by rw [hc1] at hc0; simpa using hc0.symm
            cases this
            obtain ⟨c, fz, hC⟩ := r.cells hc0
            obtain ⟨cc, ff, hg⟩ := cellsAt_get hc0
            obtain ⟨hsize, hfz⟩ := hC.open_ rfl
            simp only at h
            split at h
            · rename_i hend
              have hend := ble_le hend
              simp only [Option.some.injEq, Prod.mk.injEq] at h
              obtain ⟨rfl, rfl⟩ := h
              refine ⟨_, w, St.move r (if cap + ρ.ex a.block = l then a.off + ρ.sh a.block else a.off + ρ.sh a.block + l * sz) (ρ.ex a.block) (ne_none hg) ?_ ?_ hC.at_ rfl (fun _ _ => rfl) rfl rfl rfl, ?_⟩
              · simp [sco]
              · simp only [Fits]
                refine ⟨c, fz, rfl, fun i hi => absurd hi (Nat.not_lt_zero _), fun h => (by cases h), fun _ => ⟨?_, hfz⟩⟩
                simp only [Ren.at_sh, Ren.at_ex]
                split
                · rename_i h0
                  have : ρ.ex a.block = 0 := by omega
                  rw [this] at hsize ⊢
                  simp only [Nat.zero_mul, Nat.add_zero] at hsize ⊢
                  have : a.off ≤ v0.n := by
                    have := Nat.zero_le (cap * sz)
                    omega
                  omega
                · rw [hle]; omega
              · rw [hrun]
                simp [Ren.val, hhl, hle]
            · cases h
  · cases h

end
end Go.Ax
