/- The abstract executor: slices, literals, comparisons, append are the model's. -/
import Derived.Test.YtghlibiicooenaaGreatDoorAxE
namespace Go.Ax
section
variable {P : Program} {ρ : Ren} {H : AHeap} {w : World}

theorem aSlice_run (r : Rel P ρ H w) {t : TypeId} {x : Value} {lo hi mx : Option Value} {v : Value} {H1 : AHeap} (h : aSlice P H t x lo hi mx = some (v, H1)) :
    VOk P ρ H w (Instr.sliceAt t (ρ.val x) (lo.map ρ.val) (hi.map ρ.val) (mx.map ρ.val)) v H1 := by
  unfold aSlice at h
  split at h
  · rename_i s hu
    simp only [Option.bind_eq_bind, Option.bind_eq_some_iff] at h
    obtain ⟨l, hl, hh, hhh, h⟩ := h
    split at h
    · rename_i hc
      simp only [Option.some.injEq, Prod.mk.injEq] at h
      obtain ⟨rfl, rfl⟩ := h
      refine VOk.same r ?_
      simp only [Instr.sliceAt, Instr.slice, Sem.run_bind, run_und hu, Result.andThen_ok, Ren.val, Option.map_none, Option.isSome_none, Bool.false_eq_true, if_false, run_sliceBounds false hl hhh (.inr hc.1) hc.2, Sem.run_pure]
    · cases h
  · rename_i e a len cap hu
    simp only [Option.bind_eq_bind, Option.bind_eq_some_iff] at h
    obtain ⟨sz, hsz, h⟩ := h
    obtain ⟨ρ1, w1, hst, hr⟩ := aSlice2_run r hu hsz h
    refine ⟨ρ1, w1, hst, ?_⟩
    rw [← hr]
    simp only [Instr.sliceAt, Sem.run_bind, run_und hu, Result.andThen_ok, Option.map_none]
  · rename_i e a len cap kd m hu
    simp only [Option.bind_eq_bind] at h
    split at h
    · rename_i hm
      simp only [Option.bind_eq_some_iff] at h
      obtain ⟨sz, hsz, h⟩ := h
      have hhi : hi ≠ none := by intro e; rw [e] at hm; simp at hm
      obtain ⟨ρ1, w1, hst, hr⟩ := aSlice3_run (kd := kd) r hu hsz hhi h
      refine ⟨ρ1, w1, hst, ?_⟩
      rw [← hr]
      simp only [Instr.sliceAt, Sem.run_bind, run_und hu, Result.andThen_ok, Option.map_some, Ren.val, Int.toNat_of_nonneg hm.1]
    · cases h
  · rename_i n e a hu
    simp only [Option.bind_eq_bind, Option.bind_eq_some_iff] at h
    obtain ⟨l, hl, hh, hhh, sz, hsz, h⟩ := h
    split at h
    · rename_i hc
      obtain ⟨c1, c2, c3⟩ := hc
      simp only [Option.some.injEq, Prod.mk.injEq] at h
      obtain ⟨rfl, rfl⟩ := h
      refine VOk.same r ?_
      obtain ⟨b, o, s⟩ := a
      simp only at c3
      subst c3
      simp only [Instr.sliceAt, Sem.run_bind, run_und hu, Result.andThen_ok, Ren.val, Instr.sureAddr, Sem.run_pure, Option.map_none, run_sliceBounds false hl hhh (.inr c1) c2, run_szOf hsz, addr_add, Option.isSome_some, if_true]
      congr 4
      split <;> simp <;> omega
    · cases h
  · cases h

/-! literals -/
theorem zipIdx_fold_map (ρ : Ren) (off : Nat) : ∀ (l : List Value) (k : Nat) (cells : Array Value),
    ((l.map ρ.val).zipIdx k).foldl (fun cs (x : Value × Nat) => cs.setIfInBounds (off + x.2) x.1) (cells.map ρ.val) =
      ((l.zipIdx k).foldl (fun cs (x : Value × Nat) => cs.setIfInBounds (off + x.2) x.1) cells).map ρ.val
  | [], k, cells => by simp
  | v :: l, k, cells => by
    simp only [List.map_cons, List.zipIdx_cons, List.foldl_cons]
    have : (cells.map ρ.val).setIfInBounds (off + k) (ρ.val v) = (cells.setIfInBounds (off + k) v).map ρ.val := by simp
    rw [this, zipIdx_fold_map ρ off l (k + 1)]

theorem fill_map (ρ : Ren) (place : Nat → Option (Nat × Nat)) : ∀ (parts : List (Nat × Value)) (cells : Array Value),
    Instr.fill place (cells.map ρ.val) (parts.map fun p => (p.1, ρ.val p.2)) = (Instr.fill place cells parts).map fun c => c.map ρ.val
  | [], cells => by simp [Instr.fill]
  | (i, v) :: parts, cells => by
    simp only [List.map_cons, Instr.fill]
    cases hp : place i with
    | none => rfl
    | some os =>
      obtain ⟨off, size⟩ := os
      simp only [Ren.val_cells, Array.size_map]
      split
      · rfl
      · have hz := zipIdx_fold_map ρ off v.cells.toList 0 cells
        have h1 : (v.cells.map ρ.val).zipIdx.foldl (fun cs (x : Value × Nat) => cs.setIfInBounds (off + x.2) x.1) (cells.map ρ.val) =
            (v.cells.zipIdx.foldl (fun cs (x : Value × Nat) => cs.setIfInBounds (off + x.2) x.1) cells).map ρ.val := by
          rw [← Array.foldl_toList, ← Array.foldl_toList]
          simpa using hz
        have h2 := fill_map ρ place parts (v.cells.zipIdx.foldl (fun cs (x : Value × Nat) => cs.setIfInBounds (off + x.2) x.1) cells)
        rw [← h1] at h2
        exact h2

theorem af_cells (ρ : Ren) {z : Value} (h : af z = true) : z.cells.map ρ.val = z.cells := by rw [← Ren.val_cells, val_af ρ z h]

theorem aBuild_run {t : TypeId} {parts : List (Nat × Value)} {v : Value} (h : aBuild P t parts = some v) :
    (Instr.build t (parts.map fun p => (p.1, ρ.val p.2)).toArray).run P w = .ok (ρ.val v) w := by
  simp only [aBuild, Option.bind_eq_bind, Option.bind_eq_some_iff] at h
  obtain ⟨z, hz, h⟩ := h
  obtain ⟨hzr, hza⟩ := run_zeroOf (w := w) hz
  split at h
  · rename_i fields hu
    simp only [Option.bind_eq_some_iff, Option.map_eq_some_iff] at h
    obtain ⟨places, hp, cells, hc, rfl⟩ := h
    have hf := fill_map ρ (places[·]?) parts z.cells
    rw [af_cells ρ hza, hc] at hf
    simp only [Instr.build, Sem.run_bind, hzr, Result.andThen_ok, run_und hu, peval_run _ hp, hf, Option.map_some, Sem.run_pure, Ren.val, Ren.valA_eq]
  · rename_i len elem hu
    simp only [Option.bind_eq_some_iff, Option.map_eq_some_iff] at h
    obtain ⟨sz, hsz, cells, hc, rfl⟩ := h
    have hf := fill_map ρ (fun i => some (i * sz, sz)) parts z.cells
    rw [af_cells ρ hza, hc] at hf
    simp only [Instr.build, Sem.run_bind, hzr, Result.andThen_ok, run_und hu, run_szOf hsz, hf, Option.map_some, Sem.run_pure, Ren.val, Ren.valA_eq]
  · cases h

theorem zerosL_len (z : List Value) (n : Nat) : (zerosL z n).length = n * z.length := by
  induction n with
  | zero => simp [zerosL]
  | succ n ih => simp [zerosL, ih, Nat.succ_mul]; omega

theorem zerosL_get (z : List Value) : ∀ (n i : Nat), i < n * z.length → (zerosL z n)[i]? = z[i % z.length]?
  | 0, i, h => by simp at h
  | n + 1, i, h => by
    have hz : 0 < z.length := by
      rcases Nat.eq_zero_or_pos z.length with h0 | h0
      · rw [h0] at h; simp at h
      · exact h0
    by_cases hi : i < z.length
    · rw [zerosL, List.getElem?_append_left hi, Nat.mod_eq_of_lt hi]
    · rw [zerosL, List.getElem?_append_right (by omega), zerosL_get z n (i - z.length) (by rw [Nat.succ_mul] at h; omega)]
      rw [← Nat.mod_eq_sub_mod (by omega)]

theorem zeros_range (z : Array Value) (n : Nat) : (Array.range (n * z.size)).map (fun i => z[i % z.size]!) = (zerosL z.toList n).toArray := by
  apply Array.ext_getElem?
  intro i
  by_cases h : i < n * z.size
  · have hz : 0 < z.size := by
      rcases Nat.eq_zero_or_pos z.size with h0 | h0
      · rw [h0] at h; simp at h
      · exact h0
    have hm : i % z.size < z.size := Nat.mod_lt _ hz
    have := zerosL_get z.toList n i (by simpa using h)
    simp only [List.getElem?_toArray, this]
    simp [h, hm]
  · rw [Array.getElem?_eq_none (by simpa using h), Array.getElem?_eq_none (by simpa [zerosL_len] using h)]

theorem zerosL_map (ρ : Ren) (z : List Value) (h : z.map ρ.val = z) (n : Nat) : (zerosL z n).map ρ.val = zerosL z n := by
  induction n with
  | zero => rfl
  | succ n ih => simp [zerosL, ih, h]

theorem af_list (ρ : Ren) {z : Value} (h : af z = true) : z.cells.toList.map ρ.val = z.cells.toList := by
  have := congrArg Array.toList (af_cells ρ h)
  simpa using this

theorem val_new (ρ : Ren) (n b s e : Nat) : (ρ.at n b s e).val (.pointer (some ⟨n, 0, none⟩)) = .pointer (some ⟨b, s, none⟩) := by simp [val_ptr]

theorem aBuildSlice_run (r : Rel P ρ H w) {t : TypeId} {len : Nat} {parts : List (Nat × Value)} {v : Value} {H1 : AHeap} (h : aBuildSlice P H t len parts = some (v, H1)) :
    VOk P ρ H w (Instr.buildSlice t len (parts.map fun p => (p.1, ρ.val p.2)).toArray) v H1 := by
  simp only [aBuildSlice, Option.bind_eq_bind, Option.bind_eq_some_iff] at h
  obtain ⟨d, hu, h⟩ := h
  split at h
  · rename_i e
    simp only [Option.bind_eq_some_iff] at h
    obtain ⟨sz, hsz, z, hz, h⟩ := h
    split at h
    · rename_i hc
      obtain ⟨c1, c2⟩ := hc
      simp only [Option.bind_eq_some_iff, Option.some.injEq, Prod.mk.injEq] at h
      obtain ⟨cells, hf0, g, hg, rfl, rfl⟩ := h
      obtain ⟨hzr, hza⟩ := run_zeroOf (w := w) hz
      have hf := fill_map ρ (fun i => some (i * sz, sz)) parts (zerosL z.cells.toList len).toArray
      rw [hf0] at hf
      have hzm : (zerosL z.cells.toList len).toArray.map ρ.val = (zerosL z.cells.toList len).toArray := by
        simp [zerosL_map ρ _ (af_list ρ hza) len]
      rw [hzm] at hf
      refine ⟨_, _, aNew_shut r hg, ?_⟩
      have hbig : ¬ (len * sz > 2 ^ 24) := by omega
      have hm : Array.map ρ.val cells = (cells.toList.map ρ.val).toArray := by apply Array.ext'; simp
      have h00 : Array.range 0 = #[] := rfl
      by_cases h0 : len * sz = 0
      · have hnil : (zerosL z.cells.toList len) = [] := List.eq_nil_of_length_eq_zero (by rw [zerosL_len, c2]; exact h0)
        rw [hnil] at hf
        simp only [Instr.buildSlice, Sem.run_bind, run_und hu, Result.andThen_ok, run_szOf hsz, hbig, if_false, Sem.run_pure, h0, if_true]
        simp [hf, newRow, Ren.val, h00, hm]
      · have hz2 : (Array.range (len * sz)).map (fun i => z.cells[i % z.cells.size]!) = (zerosL z.cells.toList len).toArray := by
          have : sz = z.cells.size := by simpa using c2.symm
          rw [this]; exact zeros_range _ _
        simp only [Instr.buildSlice, Sem.run_bind, run_und hu, Result.andThen_ok, run_szOf hsz, hbig, if_false, Sem.run_pure, h0, hzr, hz2, hf, Option.map_some]
        simp [newRow, Ren.val, hm]
    · cases h
  · cases h

end
end Go.Ax
