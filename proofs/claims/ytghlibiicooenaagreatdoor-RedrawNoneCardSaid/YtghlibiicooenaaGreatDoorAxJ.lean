/- The abstract executor: builtins and calls are the model's. -/
import Derived.Test.YtghlibiicooenaaGreatDoorAxI
namespace Go.Ax
section
variable {P : Program} {ρ : Ren} {H : AHeap} {w : World}

theorem val_slice (ρ : Ren) (base : Option Addr) (len cap : Nat) : ∃ base' cap', ρ.val (.slice base len cap) = .slice base' len cap' := by
  cases base with
  | none => exact ⟨none, cap, by simp [Ren.val]⟩
  | some a => exact ⟨_, _, by rw [Ren.val]⟩

theorem aAppend_run (r : Rel P ρ H w) {ts : Array TypeId} {ty : TypeId} {s x v : Value} {H1 : AHeap} (h : aAppend P H ts s x = some (v, H1)) :
    VOk P ρ H w (Builtin.append_ ts ty #[ρ.val s, ρ.val x]) v H1 := by
  unfold aAppend at h
  split at h
  · rename_i st xt rest base len cap hts
    simp only [Option.bind_eq_bind, Option.bind_eq_some_iff] at h
    obtain ⟨d, hu, h⟩ := h
    split at h
    · rename_i e
      simp only [Option.bind_eq_some_iff] at h
      obtain ⟨sz, hsz, by1, hby, z, hz, b, hbt, h⟩ := h
      obtain ⟨hzr, hza⟩ := run_zeroOf (w := w) hz
      obtain ⟨base', cap', hv⟩ := val_slice ρ base len cap
      split at h
      · rename_i l
        split at h
        · rename_i hc
          obtain ⟨c1, c2, c3⟩ := hc
          obtain ⟨s1, s2⟩ := small_le c2
          have hxu : ∃ k, P.underlying xt = some (.int k) := by
            unfold intTy at hbt
            split at hbt
            · rename_i k hk; exact ⟨k, hk⟩
            · cases hbt
            · cases hbt
          obtain ⟨k, hxu⟩ := hxu
          have hlb : l * (by1 : Int) ≤ 1000000000 := by
            have h1 : l.toNat * by1 ≤ (len + l.toNat) * by1 := Nat.mul_le_mul_right _ (by omega)
            have h2 : l * (by1 : Int) = ((l.toNat * by1 : Nat) : Int) := by rw [Int.natCast_mul, Int.toNat_of_nonneg c1]
            rw [h2]; omega
          have happ : ∀ w' : World, w'.heap = w.heap → (if l.toNat * sz = 0 then (pure #[] : Sem (Array Value)) else do pure (Builtin.zeroCells (← zeroValue e).cells l.toNat)).run P w' = .ok ((zerosL z.cells.toList l.toNat).map ρ.val).toArray w' := by
            intro w' _
            rw [zerosL_map ρ _ (af_list ρ hza)]
            by_cases h0 : l.toNat * sz = 0
            · have : (zerosL z.cells.toList l.toNat) = [] := List.eq_nil_of_length_eq_zero (by rw [zerosL_len, c3]; exact h0)
              simp [h0, this]
            · have hzc : Builtin.zeroCells z.cells l.toNat = (zerosL z.cells.toList l.toNat).toArray := by
                unfold Builtin.zeroCells
                exact zeros_range _ _
              simp [h0, (run_zeroOf (w := w') hz).1, hzc]
          obtain ⟨ρ1, w1, hst, hrun⟩ := aAppend2_run (x := .int .i64 l) (zeros := true) r hv c2 hby hsz hz c3 (by rw [zerosL_len, c3]) happ h
          refine ⟨ρ1, w1, hst, ?_⟩
          rw [← hrun, hv, Ren.val]
          exact append_eq0 hts hu hsz hxu rfl c1 (by omega) hby hlb
        · cases h
      · cases h
      · simp only [Option.bind_eq_some_iff] at h
        obtain ⟨n, hn, new, hnew, h⟩ := h
        split at h
        · rename_i hc
          obtain ⟨c1, c2, c3⟩ := hc
          have hxu : ∃ d, P.underlying xt = some d ∧ ∀ k, d ≠ .int k := by
            unfold intTy at hbt
            split at hbt
            · cases hbt
            · rename_i d hne hd; exact ⟨d, hd, fun k e => hne k e⟩
            · cases hbt
          obtain ⟨d, hxu, hd⟩ := hxu
          obtain ⟨ρ1, w1, hst, hrun⟩ := aAppend2_run (x := ρ.val x) (zeros := false) r hv c2 hby hsz hz c3 c1 (fun w' hw' => firstC_run (w := w') (r.heap hw') hnew) h
          refine ⟨ρ1, w1, hst, ?_⟩
          rw [← hrun]
          exact append_eq hts hu hsz hxu hd hv (lenV_run hn)
        · cases h
    · cases h
  · cases h

theorem aCopy_run (r : Rel P ρ H w) {ts : Array TypeId} {ty : TypeId} {d s v : Value} {H1 : AHeap} (h : aCopy P H ts d s = some (v, H1)) :
    VOk P ρ H w (Builtin.copy_ ts ty #[ρ.val d, ρ.val s]) v H1 := by
  unfold aCopy at h
  split at h
  · rename_i dt rest base dl cap hts
    obtain ⟨lt⟩ := ts
    simp only at hts
    subst hts
    simp only [Option.bind_eq_bind, Option.bind_eq_some_iff] at h
    obtain ⟨dd, hu, h⟩ := h
    split at h
    · rename_i e
      simp only [Option.bind_eq_some_iff] at h
      obtain ⟨sz, hsz, sl, hsl, cs, hcs, h⟩ := h
      cases base with
      | none =>
        simp only [Option.some.injEq, Prod.mk.injEq] at h
        obtain ⟨rfl, rfl⟩ := h
        refine VOk.same r ?_
        simp [Builtin.copy_, run_und hu, Ren.val, lenV_run hsl, run_szOf hsz, firstC_run r hcs, goInt]
      | some a =>
        simp only [Option.bind_eq_some_iff, Option.some.injEq, Prod.mk.injEq] at h
        obtain ⟨g, hg, rfl, rfl⟩ := h
        obtain ⟨w1, hst, hrun⟩ := aWrite_run r hg
        refine ⟨ρ, w1, hst, ?_⟩
        have hv : ∃ c, ρ.val (.slice (some a) dl cap) = .slice (some ⟨ρ.blk a.block, a.off + ρ.sh a.block, none⟩) dl c := ⟨_, by rw [Ren.val]⟩
        obtain ⟨c, hv⟩ := hv
        rw [hv]
        simp only [Builtin.copy_, List.getElem?_toArray, List.getElem?_cons_zero, List.getElem?_cons_succ, Sem.run_bind, run_und hu, Result.andThen_ok, lenV_run hsl, run_szOf hsz, firstC_run r hcs, hrun, Sem.run_pure, goInt, Ren.val]
    · cases h
  · cases h

theorem aLen_run (r : Rel P ρ H w) {ts : Array TypeId} {ty t : TypeId} {rest : List TypeId} {x v : Value} (hts : ts.toList = t :: rest) (h : aLen P H t x = some v) :
    (Builtin.len_ ts ty #[ρ.val x]).run P w = .ok (ρ.val v) w := by
  obtain ⟨lt⟩ := ts
  simp only at hts
  subst hts
  unfold aLen at h
  split at h
  · rename_i e a n c hu
    simp only [Option.some.injEq] at h
    subst h
    obtain ⟨b', c', hv⟩ := val_slice ρ a n c
    rw [hv]
    simp [Builtin.len_, run_und hu, goInt, Ren.val]
  · rename_i s hu
    simp only [Option.some.injEq] at h
    subst h
    simp [Builtin.len_, run_und hu, goInt, Ren.val]
  · rename_i k e hu
    simp only [Option.some.injEq] at h
    subst h
    simp [Builtin.len_, run_und hu, goInt, Ren.val]
  · rename_i k e m hu
    split at h
    · rename_i es clock op v0 hg
      simp only [Option.some.injEq] at h
      subst h
      obtain ⟨o', hw, hf⟩ := r.obj _ _ hg
      simp only [Fits] at hf
      subst hf
      simp [Builtin.len_, run_und hu, goInt, Ren.val, getObj, Sem.run, hw]
    · cases h
  · rename_i n e hu
    simp only [Option.some.injEq] at h
    subst h
    simp [Builtin.len_, run_und hu, goInt, Ren.val]
  · cases h

theorem aCap_run (r : Rel P ρ H w) {ts : Array TypeId} {ty t : TypeId} {rest : List TypeId} {x v : Value} (hts : ts.toList = t :: rest) (h : aCap P H t x = some v) :
    (Builtin.cap_ ts ty #[ρ.val x]).run P w = .ok (ρ.val v) w := by
  obtain ⟨lt⟩ := ts
  simp only at hts
  subst hts
  unfold aCap at h
  split at h
  · rename_i e n c hu
    simp only [Option.some.injEq] at h
    subst h
    simp [Builtin.cap_, run_und hu, goInt, Ren.val]
  · rename_i e a n c hu
    split at h
    · rename_i hx
      simp only [Option.some.injEq] at h
      subst h
      rw [exact_cap r hx]
      simp [Builtin.cap_, run_und hu, goInt, Ren.val]
    · cases h
  · rename_i n e hu
    simp only [Option.some.injEq] at h
    subst h
    simp [Builtin.cap_, run_und hu, goInt, Ren.val]
  · cases h

theorem aMax_run {ts : Array TypeId} {ty : TypeId} {args : List Value} {v : Value} (h : aMinMax true args = some v) : (Builtin.max_ ts ty (args.map ρ.val).toArray).run P w = .ok (ρ.val v) w := by
  unfold aMinMax at h
  split at h
  · rename_i k x k' y
    simp only [if_true, Option.some.injEq] at h
    subst h
    simp [Builtin.max_, Builtin.max2, Ren.val]
  · cases h

theorem aMin_run {ts : Array TypeId} {ty : TypeId} {args : List Value} {v : Value} (h : aMinMax false args = some v) : (Builtin.min_ ts ty (args.map ρ.val).toArray).run P w = .ok (ρ.val v) w := by
  unfold aMinMax at h
  split at h
  · rename_i k x k' y
    simp only [Bool.false_eq_true, if_false, Option.some.injEq] at h
    subst h
    simp [Builtin.min_, Builtin.min2, Ren.val]
  · cases h

/-- a Sem's next is the abstract one's -/
def NRun (ρ1 : Ren) (x : ANext) (res : Result Next) (w1 : World) : Prop :=
  match x with
  | .value v => res = .ok (.value (ρ1.val v)) w1
  | .skip => res = .ok .skip w1
  | .enter f args => res = .ok (.enter f (args.map ρ1.val).toArray) w1
  | .round rd => ∃ fn, res = .ok (.round (ρ1.blk rd.l) fn (ρ1.tmps rd.env) rd.assign rd.body) w1
  | .panic v => res = .halt (.panic (ρ1.val v)) w1

def NOk (P : Program) (ρ : Ren) (H : AHeap) (w : World) (s : Sem Next) (x : ANext) (H1 : AHeap) : Prop :=
  ∃ ρ1 w1, St P ρ H w ρ1 H1 w1 ∧ NRun ρ1 x (s.run P w) w1

theorem NOk.of {s : Sem Value} {x : ANext} {H1 : AHeap} (h : ROk P ρ H w s x H1) : NOk P ρ H w (do pure (.value (← s))) x H1 := by
  obtain ⟨ρ1, w1, hst, hr⟩ := h
  refine ⟨ρ1, w1, hst, ?_⟩
  cases x <;> simp_all [NRun]

theorem NOk.ofV {s : Sem Value} {v : Value} {H1 : AHeap} (h : VOk P ρ H w s v H1) : NOk P ρ H w (do pure (.value (← s))) (.value v) H1 := NOk.of (ROk.of h)

theorem NOk.val (r : Rel P ρ H w) {s : Sem Value} {v : Value} (h : s.run P w = .ok (ρ.val v) w) : NOk P ρ H w (do pure (.value (← s))) (.value v) H := NOk.of (ROk.val r h)

end
end Go.Ax
