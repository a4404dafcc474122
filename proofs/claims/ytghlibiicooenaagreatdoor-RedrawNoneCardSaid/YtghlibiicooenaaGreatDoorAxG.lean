/- The abstract executor: comparisons, type assertions, append, calls are the model's. -/
import Derived.Test.YtghlibiicooenaaGreatDoorAxF
namespace Go.Ax
section
variable {P : Program} {ρ : Ren} {H : AHeap} {w : World}

theorem wrap_small {n : Int} (h0 : 0 ≤ n) (h1 : n ≤ 1000000000) : IntKind.i64.wrap n = n := by
  have : n % (2 ^ IntKind.i64.bits : Int) = n := by
    have e : (2 ^ IntKind.i64.bits : Int) = 18446744073709551616 := by decide
    rw [e]; omega
  have h2 : (2 ^ (IntKind.i64.bits - 1) : Int) = 9223372036854775808 := by decide
  simp only [IntKind.wrap, this, h2]
  split
  · rename_i hc
    simp only [Bool.and_eq_true, decide_eq_true_eq] at hc
    omega
  · rfl

theorem small_le {n b : Nat} (h : small n b = true) : n * b ≤ 1000000000 ∧ n ≤ 1000000000 := by
  simp only [small, Bool.and_eq_true] at h
  exact ⟨ble_le h.1, ble_le h.2⟩

theorem aMakeSlice_run (r : Rel P ρ H w) {t : TypeId} {l c : Value} {v : Value} {H1 : AHeap} (h : aMakeSlice P H t l c = some (v, H1)) :
    VOk P ρ H w (Instr.makeSlice t (ρ.val l) (ρ.val c)) v H1 := by
  unfold aMakeSlice at h
  split at h
  · rename_i l c
    simp only [Option.bind_eq_bind, Option.bind_eq_some_iff] at h
    obtain ⟨d, hu, h⟩ := h
    split at h
    · rename_i e
      simp only [Option.bind_eq_some_iff] at h
      obtain ⟨by1, hby, sz, hsz, z, hz, h⟩ := h
      split at h
      · rename_i hc
        obtain ⟨c1, c2, c3, c4⟩ := hc
        simp only [Option.bind_eq_some_iff, Option.some.injEq, Prod.mk.injEq] at h
        obtain ⟨g, hg, rfl, rfl⟩ := h
        obtain ⟨hzr, hza⟩ := run_zeroOf (w := w) hz
        obtain ⟨inf, hinf, hib⟩ := bytesOf_info hby
        obtain ⟨s1, s2⟩ := small_le c3
        have wl : IntKind.i64.wrap l = l := wrap_small c1 (by omega)
        have wc : IntKind.i64.wrap c = c := wrap_small (by omega) (by omega)
        have hbig : ¬ ((by1 : Int) * c > 2 ^ 48) := by
          have : ((by1 : Int) * c) = ((c.toNat * by1 : Nat) : Int) := by
            rw [Int.natCast_mul, Int.toNat_of_nonneg (by omega), Int.mul_comm]
          rw [this]; omega
        refine ⟨_, _, aNew_shut r hg, ?_⟩
        have t1 : (decide (c < 0) || decide ((by1 : Int) * c > 2 ^ 48)) = false := by simp; omega
        have t2 : ¬ (((decide (c < 0) || decide ((by1 : Int) * c > 2 ^ 48)) || decide (l < 0) || decide (l > c)) = true) := by rw [t1]; simp; omega
        by_cases h0 : c.toNat * sz = 0
        · have hnil : (zerosL z.cells.toList c.toNat) = [] := List.eq_nil_of_length_eq_zero (by rw [zerosL_len, c4]; exact h0)
          simp only [Ren.val, Instr.makeSlice, Sem.run_bind, run_und hu, Result.andThen_ok, asInt, asIntOf, Sem.run_pure, run_info hinf, hib, wl, wc, run_szOf hsz, t2, if_false, run_askRoom, h0, if_true, hnil]
          simp [newRow, run_szOf hsz, h0, show Array.range 0 = #[] from rfl]
        · have hz2 : (Array.range (c.toNat * sz)).map (fun i => z.cells[i % z.cells.size]!) = (zerosL z.cells.toList c.toNat).toArray := by
            have : sz = z.cells.size := by simpa using c4.symm
            rw [this]; exact zeros_range _ _
          simp only [Ren.val, Instr.makeSlice, Sem.run_bind, run_und hu, Result.andThen_ok, asInt, asIntOf, Sem.run_pure, run_info hinf, hib, wl, wc, run_szOf hsz, t2, if_false, run_askRoom, h0, hzr, hz2, zerosL_map ρ _ (af_list ρ hza)]
          simp [newRow, run_szOf hsz, h0, hzr, hz2]
      · cases h
    · cases h
  · cases h

theorem aTypeAssert_run {x v : Value} {xt t : TypeId} {ok : Bool} (h : aTypeAssert P x t ok = some v) : (Instr.typeAssert (ρ.val x) xt t ok).run P w = .ok (ρ.val v) w := by
  unfold aTypeAssert at h
  split at h
  · rename_i want u y hu
    split at h
    · rename_i i hi
      split at h
      · rename_i hm
        simp only [Option.some.injEq] at h
        subst h
        cases ok <;> simp [Instr.typeAssert, Ren.val, run_und hu, run_info hi, hm, Ren.valA_eq]
      · rename_i m hm
        split at h
        · rename_i hok
          simp only [Option.map_eq_some_iff] at h
          obtain ⟨z, hz, rfl⟩ := h
          obtain ⟨hzr, hza⟩ := run_zeroOf (w := w) hz
          simp [Instr.typeAssert, Ren.val, run_und hu, run_info hi, hm, Ren.valA_eq, hok, hzr, val_af ρ z hza]
        · cases h
    · cases h
  · rename_i d hu
    split at h
    · rename_i hok
      simp only [Option.map_eq_some_iff] at h
      obtain ⟨z, hz, rfl⟩ := h
      obtain ⟨hzr, hza⟩ := run_zeroOf (w := w) hz
      cases d <;> simp [Instr.typeAssert, Ren.val, run_und hu, Ren.valA_eq, hok, hzr, val_af ρ z hza]
    · cases h
  · rename_i d u y hnot hu
    split at h
    · rename_i heq
      simp only [Option.some.injEq] at h
      subst h
      cases d <;> cases ok <;> first
        | (exact absurd rfl (hnot _)) 
        | simp [Instr.typeAssert, Ren.val, run_und hu, Ren.valA_eq, heq]
    · rename_i hne
      split at h
      · rename_i hok
        simp only [Option.map_eq_some_iff] at h
        obtain ⟨z, hz, rfl⟩ := h
        obtain ⟨hzr, hza⟩ := run_zeroOf (w := w) hz
        cases d <;> first
          | (exact absurd rfl (hnot _))
          | simp [Instr.typeAssert, Ren.val, run_und hu, Ren.valA_eq, hok, hne, hzr, val_af ρ z hza]
      · cases h
  · cases h

end
end Go.Ax
