/- The abstract executor: heaps in parts, and put together again. -/
import Derived.Test.YtghlibiicooenaaGreatDoorAxM
namespace Go.Ax

mutual
theorem ids_of_scb {N : Nat} : ∀ v, scb N v = true → ∀ n ∈ idsV v, n < N
  | .bool _, _, n, hn => by simp [idsV] at hn
  | .int _ _, _, n, hn => by simp [idsV] at hn
  | .float _ _, _, n, hn => by simp [idsV] at hn
  | .complex _ _ _, _, n, hn => by simp [idsV] at hn
  | .string _, _, n, hn => by simp [idsV] at hn
  | .pointer none, _, n, hn => by simp [idsV] at hn
  | .pointer (some a), h, n, hn => by
    simp only [idsV, List.mem_singleton] at hn
    subst hn
    exact blt_lt (by simpa [scb] using h)
  | .slice none _ _, _, n, hn => by simp [idsV] at hn
  | .slice (some a) _ _, h, n, hn => by
    simp only [idsV, List.mem_singleton] at hn
    subst hn
    exact blt_lt (by simpa [scb] using h)
  | .map none, _, n, hn => by simp [idsV] at hn
  | .map (some r), h, n, hn => by
    simp only [idsV, List.mem_singleton] at hn
    subst hn
    exact blt_lt (by simpa [scb] using h)
  | .chan none, _, n, hn => by simp [idsV] at hn
  | .chan (some r), h, n, hn => by
    simp only [idsV, List.mem_singleton] at hn
    subst hn
    exact blt_lt (by simpa [scb] using h)
  | .func f a b, h, n, hn => by
    cases f with
    | yield l =>
      simp only [scb, Bool.and_eq_true] at h
      simp only [idsV, List.mem_cons, List.mem_append] at hn
      rcases hn with rfl | hn | hn
      · exact blt_lt h.1.1
      · exact idsA_of_scb a h.1.2 n hn
      · exact idsA_of_scb b h.2 n hn
    | _ =>
      simp only [scb, Bool.and_eq_true] at h
      simp only [idsV, List.mem_append] at hn
      rcases hn with hn | hn
      · exact idsA_of_scb a h.1 n hn
      · exact idsA_of_scb b h.2 n hn
  | .nilFunc, _, n, hn => by simp [idsV] at hn
  | .iface t v, h, n, hn => ids_of_scb v (by simpa [scb] using h) n (by simpa [idsV] using hn)
  | .nilIface, _, n, hn => by simp [idsV] at hn
  | .agg cs, h, n, hn => idsA_of_scb cs (by simpa [scb] using h) n (by simpa [idsV] using hn)
  | .tuple cs, h, n, hn => idsA_of_scb cs (by simpa [scb] using h) n (by simpa [idsV] using hn)
theorem idsA_of_scb {N : Nat} : ∀ c, scbA N c = true → ∀ n ∈ idsA c, n < N
  | ⟨l⟩, h, n, hn => idsL_of_scb l (by simpa [scbA] using h) n (by simpa [idsA] using hn)
theorem idsL_of_scb {N : Nat} : ∀ l, scbL N l = true → ∀ n ∈ idsL l, n < N
  | [], _, n, hn => by simp [idsL] at hn
  | v :: r, h, n, hn => by
    simp only [scbL, Bool.and_eq_true] at h
    simp only [idsL, List.mem_append] at hn
    rcases hn with hn | hn
    · exact ids_of_scb v h.1 n hn
    · exact idsL_of_scb r h.2 n hn
end

/-- two renamings agree at a block -/
def Agree (ρ ρ' : Ren) (n : Nat) : Prop := ρ'.blk n = ρ.blk n ∧ ρ'.sh n = ρ.sh n ∧ ρ'.ex n = ρ.ex n ∧ ρ'.op n = ρ.op n

mutual
theorem val_ids {ρ ρ' : Ren} : ∀ v, (∀ n ∈ idsV v, Agree ρ ρ' n) → ρ'.val v = ρ.val v
  | .bool _, _ => by rw [Ren.val, Ren.val]
  | .int _ _, _ => by rw [Ren.val, Ren.val]
  | .float _ _, _ => by rw [Ren.val, Ren.val]
  | .complex _ _ _, _ => by rw [Ren.val, Ren.val]
  | .string _, _ => by rw [Ren.val, Ren.val]
  | .pointer none, _ => by rw [Ren.val, Ren.val]
  | .pointer (some a), h => by
    obtain ⟨h1, h2, h3, h4⟩ := h a.block (by simp [idsV])
    simp only [Ren.val, h1, h2]
  | .slice none _ _, _ => by rw [Ren.val, Ren.val]
  | .slice (some a) _ _, h => by
    obtain ⟨h1, h2, h3, h4⟩ := h a.block (by simp [idsV])
    simp only [Ren.val, h1, h2, h3]
  | .map none, _ => by rw [Ren.val, Ren.val]
  | .map (some r), h => by
    obtain ⟨h1, h2, h3, h4⟩ := h r (by simp [idsV])
    simp only [Ren.val, h1]
  | .chan none, _ => by rw [Ren.val, Ren.val]
  | .chan (some r), h => by
    obtain ⟨h1, h2, h3, h4⟩ := h r (by simp [idsV])
    simp only [Ren.val, h4]
  | .func f a b, h => by
    cases f with
    | yield l =>
      simp only [idsV, List.mem_cons, List.mem_append] at h
      simp only [Ren.val, Ren.fn, (h l (.inl rfl)).1, valA_ids a (fun n hn => h n (.inr (.inl hn))), valA_ids b (fun n hn => h n (.inr (.inr hn)))]
    | _ =>
      simp only [idsV, List.mem_append] at h
      simp only [Ren.val, Ren.fn, valA_ids a (fun n hn => h n (.inl hn)), valA_ids b (fun n hn => h n (.inr hn))]
  | .nilFunc, _ => by rw [Ren.val, Ren.val]
  | .iface t v, h => by rw [Ren.val, Ren.val, val_ids v (fun n hn => h n (by simpa [idsV] using hn))]
  | .nilIface, _ => by rw [Ren.val, Ren.val]
  | .agg cs, h => by rw [Ren.val, Ren.val, valA_ids cs (fun n hn => h n (by simpa [idsV] using hn))]
  | .tuple cs, h => by rw [Ren.val, Ren.val, valA_ids cs (fun n hn => h n (by simpa [idsV] using hn))]
theorem valA_ids {ρ ρ' : Ren} : ∀ c, (∀ n ∈ idsA c, Agree ρ ρ' n) → ρ'.valA c = ρ.valA c
  | ⟨l⟩, h => by rw [Ren.valA, Ren.valA, valL_ids l (fun n hn => h n (by simpa [idsA] using hn))]
theorem valL_ids {ρ ρ' : Ren} : ∀ l, (∀ n ∈ idsL l, Agree ρ ρ' n) → ρ'.valL l = ρ.valL l
  | [], _ => rfl
  | v :: r, h => by
    simp only [idsL, List.mem_append] at h
    rw [Ren.valL, Ren.valL, val_ids v (fun n hn => h n (.inl hn)), valL_ids r (fun n hn => h n (.inr hn))]
end

theorem mem_idsL {l : List Value} {v : Value} (h : v ∈ l) {n : Nat} (hn : n ∈ idsV v) : n ∈ idsL l := by
  induction l with
  | nil => cases h
  | cons x r ih =>
    simp only [idsL, List.mem_append]
    rcases List.mem_cons.1 h with rfl | h
    · exact .inl hn
    · exact .inr (ih h)

theorem of_mem_idsL {l : List Value} {n : Nat} (hn : n ∈ idsL l) : ∃ v ∈ l, n ∈ idsV v := by
  induction l with
  | nil => simp [idsL] at hn
  | cons x r ih =>
    simp only [idsL, List.mem_append] at hn
    rcases hn with hn | hn
    · exact ⟨x, List.mem_cons_self .., hn⟩
    · obtain ⟨v, hv, h⟩ := ih hn; exact ⟨v, List.mem_cons_of_mem _ hv, h⟩

theorem mem_gets {v : RV} {i : Nat} (h : i < v.n) : v.get i ∈ v.gets 0 v.n := by
  rw [RV.gets_eq]
  exact List.mem_map.2 ⟨i, List.mem_range.2 h, by simp⟩

theorem of_mem_gets {v : RV} {x : Value} (h : x ∈ v.gets 0 v.n) : ∃ i, i < v.n ∧ x = v.get i := by
  rw [RV.gets_eq] at h
  obtain ⟨i, hi, rfl⟩ := List.mem_map.1 h
  exact ⟨i, List.mem_range.1 hi, by simp⟩

theorem ids_key {k : Value} (h : keyOk k = true) : idsV k = [] := by cases k <;> simp_all [keyOk, idsV]

theorem ids_of_sco {N : Nat} {o : AObj} (h : sco N o) : ∀ n ∈ idsO o, n < N := by
  obtain ⟨ob, op, v⟩ := o
  intro n hn
  cases ob with
  | cells c e f =>
    simp only [sco] at h
    simp only [idsO] at hn
    obtain ⟨x, hx, hnx⟩ := of_mem_idsL hn
    obtain ⟨i, hi, rfl⟩ := of_mem_gets hx
    exact ids_of_scb _ (h i hi) n hnx
  | map es clock =>
    simp only [sco] at h
    simp only [idsO, List.mem_flatMap] at hn
    obtain ⟨e, he, hn⟩ := hn
    have := h e (by simpa using he)
    rw [ids_key this.1, List.nil_append] at hn
    exact ids_of_scb _ this.2 n hn
  | loop r =>
    simp only [sco] at h
    simp only [idsO, List.mem_cons] at hn
    rcases hn with rfl | hn
    · exact h.1
    · obtain ⟨x, hx, hnx⟩ := of_mem_idsL hn
      obtain ⟨i, hi, rfl⟩ := of_mem_gets hx
      exact ids_of_scb _ (h.2 i hi) n hnx
  | _ => simp [idsO] at hn

theorem Fits.agree {P : Program} {ρ ρ' : Ren} {n : Nat} {o : AObj} {o' : Obj} (h : Fits P ρ n o o') (hn : Agree ρ ρ' n) (hi : ∀ k ∈ idsO o, Agree ρ ρ' k) : Fits P ρ' n o o' := by
  obtain ⟨ob, op, v⟩ := o
  cases ob with
  | cells c0 t f0 =>
    simp only [Fits] at h ⊢
    obtain ⟨c, fz, h1, h2, h3, h4⟩ := h
    refine ⟨c, fz, h1, fun i hi' => ?_, ?_, ?_⟩
    · rw [hn.2.1, h2 i hi', val_ids _ (fun k hk => hi k (by simp only [idsO]; exact mem_idsL (mem_gets hi') hk))]
    · rw [hn.2.1, hn.2.2.1]; exact h3
    · rw [hn.2.1, hn.2.2.1]; exact h4
  | map es clock =>
    simp only [Fits] at h ⊢
    rw [h]
    congr 1
    apply Array.map_congr_left
    intro x hx
    simp only [Ren.entry]
    rw [val_ids _ (fun k hk => hi k (by simp only [idsO, List.mem_flatMap]; exact ⟨x, by simpa using hx, List.mem_append_right _ hk⟩))]
  | loop r =>
    simp only [Fits] at h ⊢
    obtain ⟨fn, h⟩ := h
    refine ⟨fn, ?_⟩
    have ht : ρ'.tmps v = ρ.tmps v := by
      unfold Ren.tmps
      congr 1
      funext i
      exact val_ids _ (fun k hk => hi k (by simp only [idsO, List.mem_cons]; exact .inr (mem_idsL (mem_gets i.2) hk)))
    rw [h, ht, (hi r.defers (by simp [idsO])).1]
  | stringIter s p => exact ⟨h.1, by rw [hn.2.1]; exact h.2⟩
  | deferred ds =>
    cases ds with
    | none => exact h
    | some l => cases l <;> exact h
  | _ => exact h

/-! a part of a heap, and what became of it put back -/
theorem memN_iff {n : Nat} {l : List Nat} : memN n l = true ↔ n ∈ l := by
  induction l with
  | nil => simp [memN]
  | cons m r ih =>
    rw [memN, Bool.or_eq_true, ih, List.mem_cons]
    constructor
    · rintro (h | h)
      · exact .inl (Nat.eq_of_beq_eq_true h).symm
      · exact .inr h
    · rintro (h | h)
      · exact .inl (by rw [h]; exact Nat.beq_refl m)
      · exact .inr h

theorem lay_get (H : AHeap) : ∀ (F : List Nat) (g : AHeap) (n : Nat), (AHeap.lay g H F).get n = if n ∈ F then H.get n else g.get n
  | [], g, n => by simp [AHeap.lay]
  | m :: r, g, n => by
    rw [AHeap.lay, lay_get H r, AHeap.get_put]
    by_cases h1 : n ∈ r
    · simp [h1]
    · by_cases h2 : n = m
      · subst h2; simp
      · simp [h1, h2]

theorem none_get (N n : Nat) : (AHeap.none N).get n = none := by simp [AHeap.none, AHeap.get]

theorem restrict_get (H : AHeap) (F : List Nat) (n : Nat) : (H.restrict F).get n = if n ∈ F then H.get n else none := by
  rw [AHeap.restrict, lay_get, none_get]

theorem lay_next (H : AHeap) : ∀ (F : List Nat) (g : AHeap), (AHeap.lay g H F).next = g.next ∧ (AHeap.lay g H F).base = g.base ∧ (AHeap.lay g H F).dirty = g.dirty
  | [], g => ⟨rfl, rfl, rfl⟩
  | m :: r, g => lay_next H r (g.put m (H.get m))

theorem restrict_next (H : AHeap) (F : List Nat) : (H.restrict F).next = H.next ∧ (H.restrict F).base = H.next ∧ (H.restrict F).dirty = [] := lay_next H F _

theorem mergeW_get (g : AHeap) : ∀ (W : List Nat) (H : AHeap) (n : Nat), (AHeap.mergeW H g W).get n = if n ∈ W then g.get n else H.get n
  | [], H, n => by simp [AHeap.mergeW]
  | m :: r, H, n => by
    rw [AHeap.mergeW, mergeW_get g r, AHeap.get_upd]
    by_cases h1 : n ∈ r
    · simp [h1]
    · by_cases h2 : n = m
      · subst h2; simp
      · simp [h1, h2]

theorem mergeW_next (g : AHeap) : ∀ (W : List Nat) (H : AHeap), (AHeap.mergeW H g W).next = H.next ∧ (AHeap.mergeW H g W).base = H.base ∧ (∀ n, n ∈ H.dirty → n ∈ (AHeap.mergeW H g W).dirty) ∧ (∀ n ∈ W, n < H.base → n ∈ (AHeap.mergeW H g W).dirty)
  | [], H => ⟨rfl, rfl, fun _ h => h, fun _ h => by cases h⟩
  | m :: r, H => by
    obtain ⟨h1, h2, h3, h4⟩ := mergeW_next g r (H.upd m (g.get m))
    refine ⟨h1, h2, fun n hn => h3 n ?_, fun n hn hb => ?_⟩
    · simp only [AHeap.upd]; split
      · exact List.mem_cons_of_mem _ hn
      · exact hn
    · rcases List.mem_cons.1 hn with rfl | hn
      · exact h3 n (by simp [AHeap.upd, blt_of hb])
      · exact h4 n hn hb

theorem mergeN_get (g : AHeap) : ∀ (k n0 : Nat) (H : AHeap) (n : Nat), (AHeap.mergeN H g n0 k).get n = if n0 ≤ n ∧ n < n0 + k then g.get n else H.get n
  | 0, n0, H, n => by rw [AHeap.mergeN, if_neg (by omega)]
  | k + 1, n0, H, n => by
    rw [AHeap.mergeN, mergeN_get g k (n0 + 1), AHeap.get_put]
    by_cases h1 : n0 + 1 ≤ n ∧ n < n0 + 1 + k
    · rw [if_pos h1, if_pos (by omega)]
    · rw [if_neg h1]
      by_cases h2 : n = n0
      · subst h2; rw [if_pos rfl, if_pos (by omega)]
      · rw [if_neg h2, if_neg (by omega)]

theorem mergeN_next (g : AHeap) : ∀ (k n0 : Nat) (H : AHeap), (AHeap.mergeN H g n0 k).base = H.base ∧ (AHeap.mergeN H g n0 k).dirty = H.dirty
  | 0, n0, H => ⟨rfl, rfl⟩
  | k + 1, n0, H => mergeN_next g k (n0 + 1) (H.put n0 (g.get n0))

/-- is the block one that the part has written or made? -/
def Wrt (H g : AHeap) (n : Nat) : Prop := n ∈ g.dirty ∨ (H.next ≤ n ∧ n < g.next)

instance (H g : AHeap) (n : Nat) : Decidable (Wrt H g n) := by unfold Wrt; exact inferInstance

theorem merge_get (H g : AHeap) (hle : H.next ≤ g.next) (n : Nat) : (H.merge g).get n = if Wrt H g n then g.get n else H.get n := by
  have h : (H.merge g).get n = (AHeap.mergeN (AHeap.mergeW H g g.dirty) g H.next (g.next - H.next)).get n := rfl
  rw [h, mergeN_get, mergeW_get]
  by_cases h1 : H.next ≤ n ∧ n < g.next
  · have hw : Wrt H g n := Or.inr h1
    rw [if_pos (by omega), if_pos hw]
  · rw [if_neg (by omega)]
    by_cases h2 : n ∈ g.dirty
    · have hw : Wrt H g n := Or.inl h2
      rw [if_pos h2, if_pos hw]
    · have hw : ¬ Wrt H g n := fun h => h.elim h2 h1
      rw [if_neg h2, if_neg hw]

theorem merge_facts (H g : AHeap) : (H.merge g).next = g.next ∧ (H.merge g).base = H.base ∧ (∀ n, n ∈ H.dirty → n ∈ (H.merge g).dirty) ∧ (∀ n ∈ g.dirty, n < H.base → n ∈ (H.merge g).dirty) := by
  obtain ⟨h1, h2, h3, h4⟩ := mergeW_next g g.dirty H
  obtain ⟨k1, k2⟩ := mergeN_next g (g.next - H.next) H.next (AHeap.mergeW H g g.dirty)
  refine ⟨rfl, k1.trans h2, fun n hn => ?_, fun n hn hb => ?_⟩
  · show n ∈ (AHeap.mergeN (AHeap.mergeW H g g.dirty) g H.next (g.next - H.next)).dirty
    rw [k2]; exact h3 n hn
  · show n ∈ (AHeap.mergeN (AHeap.mergeW H g g.dirty) g H.next (g.next - H.next)).dirty
    rw [k2]; exact h4 n hn hb

theorem merge_pos (H g : AHeap) (hle : H.next ≤ g.next) {n : Nat} (h : Wrt H g n) : (H.merge g).get n = g.get n := by rw [merge_get H g hle, if_pos h]
theorem merge_neg (H g : AHeap) (hle : H.next ≤ g.next) {n : Nat} (h : ¬ Wrt H g n) : (H.merge g).get n = H.get n := by rw [merge_get H g hle, if_neg h]

section
variable {P : Program} {ρ : Ren} {H : AHeap} {w : World}

theorem restrict_rel (r : Rel P ρ H w) (F : List Nat) : Rel P ρ (H.restrict F) w := by
  obtain ⟨h1, h2, h3⟩ := restrict_next H F
  have hg : ∀ n o, (H.restrict F).get n = some o → H.get n = some o := fun n o h => by
    rw [restrict_get] at h
    split at h
    · exact h
    · cases h
  have hg' : ∀ n, (H.restrict F).get n ≠ none → H.get n ≠ none := fun n h => by
    cases e : (H.restrict F).get n with
    | none => exact absurd e h
    | some o => exact ne_none (hg n o e)
  refine ⟨by rw [h1, h2]; exact Nat.le_refl _, by rw [h1]; exact r.glob, fun m n hm hn => r.inj m n (hg' m hm) (hg' n hn), fun n o ho => ?_, fun n o ho => r.obj n o (hg n o ho)⟩
  rw [h1]; exact r.dom n o (hg n o ho)

/-- what happened to a part happened to the whole -/
theorem merge_st (r : Rel P ρ H w) {F : List Nat} {ρ1 : Ren} {g : AHeap} {w1 : World} (hF : ∀ n ∈ F, H.get n ≠ none) (s : St P ρ (H.restrict F) w ρ1 g w1) (hd : ∀ n ∈ g.dirty, n ∈ F) :
    St P ρ H w ρ1 (H.merge g) w1 := by
  obtain ⟨k1, k2, k3⟩ := restrict_next H F
  have hle : H.next ≤ g.next := by have := s.le.next; rw [k1] at this; exact this
  obtain ⟨m1, m2, m3, m4⟩ := merge_facts H g
  have hLin : ∀ n, n ∈ F → (H.restrict F).get n = H.get n := fun n hn => by rw [restrict_get, if_pos hn]
  have hLout : ∀ n, n ∉ F → (H.restrict F).get n = none := fun n hn => by rw [restrict_get, if_neg hn]
  have hdl : ∀ n ∈ g.dirty, n < H.next := fun n hn => r.lt (hF n (hd n hn))
  -- of a block that was not written: it lies in the part unturned, or outside
  have hkeep : ∀ n, n ∈ F → ¬ Wrt H g n → g.get n = H.get n := fun n hn hw => by
    rw [← hLin n hn]
    exact s.le.keep n (by rw [k2]; exact r.lt (hF n hn)) (fun h => hw (.inl h))
  have hgout : ∀ n, n < H.next → n ∉ F → g.get n = none := fun n hn hf => s.le.gone n (by rw [k1]; exact hn) (hLout n hf)
  have hext : Ext H.next ρ ρ1 := by have := s.ext; rw [k1] at this; exact this
  -- where a block of the merged heap comes from
  have hfrom : ∀ n o, (H.merge g).get n = some o → (g.get n = some o ∧ (n ∈ F ∨ H.next ≤ n)) ∨ (n ∉ F ∧ n < H.next ∧ H.get n = some o) := by
    intro n o ho
    by_cases hw : Wrt H g n
    · rw [merge_pos H g hle hw] at ho
      refine .inl ⟨ho, ?_⟩
      rcases hw with h | h
      · exact .inl (hd n h)
      · exact .inr h.1
    · rw [merge_neg H g hle hw] at ho
      by_cases hf : n ∈ F
      · exact .inl ⟨by rw [hkeep n hf hw]; exact ho, .inl hf⟩
      · exact .inr ⟨hf, (r.dom n o ho).1, ho⟩
  have hout : ∀ n, n ∉ F → H.get n ≠ none → w1.heap[ρ.blk n]? = w.heap[ρ.blk n]? := fun n hf hn => by
    refine s.old _ (r.blk_lt hn) fun m hm hdm hgm => ?_
    rw [k1] at hm
    have hmF : m ∈ F := by
      rcases Classical.em (m ∈ F) with h | h
      · exact h
      · exact absurd (hLout m h) hgm
    exact fun e => hf (r.inj m n (hF m hmF) hn e ▸ hmF)
  refine ⟨hext, ⟨by rw [m1]; exact hle, m2, m3, fun n hb hn => ?_, fun n hn h0 => ?_⟩, ⟨?_, ?_, ?_, ?_, ?_⟩, s.os, s.tape, s.output, s.size, ?_, ?_⟩
  · refine merge_neg H g hle (fun hw => ?_)
    rcases hw with h | h
    · exact hn (m4 n h hb)
    · have := r.base; omega
  · by_cases hw : Wrt H g n
    · rw [merge_pos H g hle hw]
      rcases hw with h | h
      · exact absurd h0 (hF n (hd n h))
      · omega
    · rw [merge_neg H g hle hw]; exact h0
  · rw [m1, m2]; exact Nat.le_trans r.base hle
  · rw [m1]; exact ⟨Nat.le_trans r.glob.1 hle, s.rel.glob.2⟩
  · -- one to one
    intro a b ha hb he
    obtain ⟨oa, hoa⟩ : ∃ o, (H.merge g).get a = some o := Option.ne_none_iff_exists'.1 ha
    obtain ⟨ob, hob⟩ : ∃ o, (H.merge g).get b = some o := Option.ne_none_iff_exists'.1 hb
    have cross : ∀ x y ox oy, g.get x = some ox → (x ∈ F ∨ H.next ≤ x) → y ∉ F → y < H.next → H.get y = some oy → ρ1.blk x = ρ1.blk y → False := by
      intro x y ox oy hx hxF hy hyn hoy he
      rw [hext.blk y hyn] at he
      rcases Nat.lt_or_ge x H.next with hlt | hge
      · have hxF : x ∈ F := hxF.elim id (fun h => by omega)
        rw [hext.blk x hlt] at he
        exact hy (r.inj x y (hF x hxF) (ne_none hoy) he ▸ hxF)
      · rcases s.fresh x (by rw [k1]; exact hge) (ne_none hx) with h | ⟨m, hm1, hm2, hm3, hm4⟩
        · have := r.blk_lt (ne_none hoy); omega
        · rw [hm4] at he
          have hmF : m ∈ F := by
            rcases Classical.em (m ∈ F) with h | h
            · exact h
            · exact absurd (hLout m h) hm2
          exact hy (r.inj m y (hF m hmF) (ne_none hoy) he ▸ hmF)
    rcases hfrom a oa hoa with ⟨h1, h2⟩ | ⟨h1, h2, h3⟩ <;> rcases hfrom b ob hob with ⟨j1, j2⟩ | ⟨j1, j2, j3⟩
    · exact s.rel.inj a b (ne_none h1) (ne_none j1) he
    · exact (cross a b oa ob h1 h2 j1 j2 j3 he).elim
    · exact (cross b a ob oa j1 j2 h1 h2 h3 he.symm).elim
    · rw [hext.blk a h2, hext.blk b j2] at he
      exact r.inj a b (ne_none h3) (ne_none j3) he
  · intro n o ho
    rw [m1]
    rcases hfrom n o ho with ⟨h1, _⟩ | ⟨_, h2, h3⟩
    · exact s.rel.dom n o h1
    · exact ⟨Nat.lt_of_lt_of_le h2 hle, (r.dom n o h3).2.mono hle⟩
  · intro n o ho
    rcases hfrom n o ho with ⟨h1, _⟩ | ⟨h1, h2, h3⟩
    · exact s.rel.obj n o h1
    · obtain ⟨o', hw, hf⟩ := r.obj n o h3
      have hdm := r.dom n o h3
      refine ⟨o', ?_, hf.ext hdm.1 hdm.2 hext⟩
      rw [hext.blk n h2, hout n h1 (ne_none h3)]; exact hw
  · intro b hb hc
    refine s.old b hb fun m hm hdm hgm => ?_
    rw [k1] at hm
    have hmF : m ∈ F := by
      rcases Classical.em (m ∈ F) with h | h
      · exact h
      · exact absurd (hLout m h) hgm
    rcases hdm with h | h
    · rw [k2] at h; omega
    · refine hc m hm ?_ (hF m hmF)
      rcases Nat.lt_or_ge m H.base with hb' | hb'
      · exact .inr (m4 m h hb')
      · exact .inl hb'
  · intro n hn hgn
    obtain ⟨o, ho⟩ : ∃ o, (H.merge g).get n = some o := Option.ne_none_iff_exists'.1 hgn
    rcases hfrom n o ho with ⟨h1, _⟩ | ⟨_, h2, _⟩
    · rcases s.fresh n (by rw [k1]; exact hn) (ne_none h1) with h | ⟨m, hm1, hm2, hm3, hm4⟩
      · exact .inl h
      · rw [k1] at hm1
        have hmF : m ∈ F := by
          rcases Classical.em (m ∈ F) with h | h
          · exact h
          · exact absurd (hLout m h) hm2
        refine .inr ⟨m, hm1, hF m hmF, ?_, hm4⟩
        rcases hm3 with h | h
        · rw [k2] at h; omega
        · rcases Nat.lt_or_ge m H.base with hb' | hb'
          · exact .inr (m4 m h hb')
          · exact .inl hb'
    · omega

end
end Go.Ax
