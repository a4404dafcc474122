/- The abstract executor: a region that draws its order, run in the order of the text. -/
import Derived.Test.YtghlibiicooenaaGreatDoorAxN
namespace Go.Ax

structure OpD where
  on : Bool
  v : Value
  F : List Nat
  g : AHeap

/-- what the run in the text's order did at one operation -/
def OpFact (P : Program) (ops : Array Oper) (D : Nat → OpD) (A : Nat → AAct) (HH : Nat → AHeap) (i : Nat) : Prop :=
  ∃ o, ops[i]? = some o ∧ A (i + 1) = (A i).put o.dst (D i).v ∧ wantA ops (A i) o = some (D i).on ∧
    ((D i).on = true → OpS P (A i) ((HH i).restrict (D i).F) o (.ok (D i).v) (D i).g ∧ (∀ n ∈ (D i).F, (HH i).get n ≠ none) ∧ (∀ n ∈ (D i).g.dirty, n ∈ (D i).F) ∧ HH (i + 1) = (HH i).merge (D i).g) ∧
    ((D i).on = false → (D i).v = undef ∧ HH (i + 1) = HH i)

def fpAt (D : Nat → OpD) (HH : Nat → AHeap) (i : Nat) : Fp := ⟨i, (D i).F, (D i).g.dirty, (HH i).next, (D i).g.next⟩

def PairFact (anc : List Nat) (D : Nat → OpD) (HH : Nat → AHeap) (j : Nat) (r : Fp) : Prop :=
  (D j).on = true → fpOk (anc.getD j 0) (D j).F (D j).v (D j).g (HH j).next r = true

theorem runDraw_text {P : Program} {rec : Rec} (hrec : Sound P rec) {ops : Array Oper} {anc : List Nat} : ∀ (rest : List Oper) (k : Nat) (fps : List Fp) (a : AAct) (H : AHeap) (a1 : AAct) (H1 : AHeap),
    ops.toList.drop k = rest → runDraw P rec ops anc rest k fps a H = some (a1, H1) →
    ∃ (D : Nat → OpD) (A : Nat → AAct) (HH : Nat → AHeap), A k = a ∧ HH k = H ∧ A (k + rest.length) = a1 ∧ HH (k + rest.length) = H1 ∧
      (∀ i, k ≤ i → i < k + rest.length → OpFact P ops D A HH i) ∧
      (∀ i j, k ≤ i → i < j → j < k + rest.length → (D i).on = true → PairFact anc D HH j (fpAt D HH i)) ∧
      (∀ r ∈ fps, ∀ j, k ≤ j → j < k + rest.length → PairFact anc D HH j r)
  | [], k, fps, a, H, a1, H1, _, h => by
    simp only [runDraw, Option.some.injEq, Prod.mk.injEq] at h
    obtain ⟨rfl, rfl⟩ := h
    refine ⟨fun _ => ⟨false, undef, [], H⟩, fun _ => a, fun _ => H, rfl, rfl, rfl, rfl, ?_, ?_, ?_⟩
    · intro i h1 h2; simp at h2; omega
    · intro i j h1 h2 h3; simp at h3; omega
    · intro r _ j h1 h2; simp at h2; omega
  | o :: rest, k, fps, a, H, a1, H1, hd, h => by
    have hk : ops[k]? = some o := by
      have := congrArg (·[0]?) hd
      simpa using this
    have hd' : ops.toList.drop (k + 1) = rest := by
      have := congrArg List.tail hd
      simpa using this
    -- the operation's own record laid before those of the rest
    have build : ∀ (d : OpD) (fps' : List Fp) (H2 : AHeap), (∀ r ∈ fps, r ∈ fps') → runDraw P rec ops anc rest (k + 1) fps' (a.put o.dst d.v) H2 = some (a1, H1) →
        wantA ops a o = some d.on →
        (d.on = true → OpS P a (H.restrict d.F) o (.ok d.v) d.g ∧ (∀ n ∈ d.F, H.get n ≠ none) ∧ (∀ n ∈ d.g.dirty, n ∈ d.F) ∧ H2 = H.merge d.g ∧ (⟨k, d.F, d.g.dirty, H.next, d.g.next⟩ : Fp) ∈ fps' ∧
          ∀ r ∈ fps, fpOk (anc.getD k 0) d.F d.v d.g H.next r = true) →
        (d.on = false → d.v = undef ∧ H2 = H) →
        ∃ (D : Nat → OpD) (A : Nat → AAct) (HH : Nat → AHeap), A k = a ∧ HH k = H ∧ A (k + (o :: rest).length) = a1 ∧ HH (k + (o :: rest).length) = H1 ∧
          (∀ i, k ≤ i → i < k + (o :: rest).length → OpFact P ops D A HH i) ∧
          (∀ i j, k ≤ i → i < j → j < k + (o :: rest).length → (D i).on = true → PairFact anc D HH j (fpAt D HH i)) ∧
          (∀ r ∈ fps, ∀ j, k ≤ j → j < k + (o :: rest).length → PairFact anc D HH j r) := by
      intro d fps' H2 hsub hrun hwant hon hoff
      obtain ⟨D, A, HH, e1, e2, e3, e4, f1, f2, f3⟩ := runDraw_text hrec rest (k + 1) fps' _ H2 a1 H1 hd' hrun
      have hlen : k + (o :: rest).length = k + 1 + rest.length := by simp only [List.length_cons]; omega
      have hne : ∀ {i}, k + 1 ≤ i → ¬ i = k := fun h => by omega
      refine ⟨fun i => if i = k then d else D i, fun i => if i = k then a else A i, fun i => if i = k then H else HH i, by simp, by simp, ?_, ?_, ?_, ?_, ?_⟩
      · rw [hlen]; show (if k + 1 + rest.length = k then a else A (k + 1 + rest.length)) = a1
        rw [if_neg (by omega)]; exact e3
      · rw [hlen]; show (if k + 1 + rest.length = k then H else HH (k + 1 + rest.length)) = H1
        rw [if_neg (by omega)]; exact e4
      · intro i h1 h2
        rw [hlen] at h2
        by_cases e : i = k
        · subst e
          refine ⟨o, hk, ?_, ?_, ?_, ?_⟩
          · simp only [if_pos, if_neg (show ¬ i + 1 = i by omega)]; rw [e1]
          · simp only [if_pos]; exact hwant
          · simp only [if_pos, if_neg (show ¬ i + 1 = i by omega)]
            intro h; obtain ⟨x1, x2, x3, x4, _⟩ := hon h
            exact ⟨x1, x2, x3, by rw [e2]; exact x4⟩
          · simp only [if_pos, if_neg (show ¬ i + 1 = i by omega)]
            intro h; obtain ⟨x1, x2⟩ := hoff h
            exact ⟨x1, by rw [e2]; exact x2⟩
        · obtain ⟨o', y1, y2, y3, y4, y5⟩ := f1 i (by omega) h2
          refine ⟨o', y1, ?_, ?_, ?_, ?_⟩
          · simp only [if_neg e, if_neg (show ¬ i + 1 = k by omega)]; exact y2
          · simp only [if_neg e]; exact y3
          · simp only [if_neg e, if_neg (show ¬ i + 1 = k by omega)]; exact y4
          · simp only [if_neg e, if_neg (show ¬ i + 1 = k by omega)]; exact y5
      · intro i j h1 h2 h3 h4
        rw [hlen] at h3
        have hj : ¬ j = k := by omega
        by_cases e : i = k
        · subst e
          simp only [if_pos] at h4
          obtain ⟨_, _, _, _, x5, _⟩ := hon h4
          have := f3 _ x5 j (by omega) h3
          simp only [PairFact, fpAt, if_neg hj, if_pos] at this ⊢
          exact this
        · simp only [if_neg e] at h4
          have := f2 i j (by omega) h2 h3 h4
          simp only [PairFact, fpAt, if_neg hj, if_neg e] at this ⊢
          exact this
      · intro r hr j h1 h2
        rw [hlen] at h2
        by_cases e : j = k
        · subst e
          simp only [PairFact, if_pos]
          intro h
          exact (hon h).2.2.2.2.2 r hr
        · have := f3 r (hsub r hr) j (by omega) h2
          simp only [PairFact, if_neg e] at this ⊢
          exact this
    simp only [runDraw] at h
    split at h
    · rename_i hw
      split at h
      · rename_i v g hop
        split at h
        · rename_i hc
          simp only [Bool.and_eq_true, List.all_eq_true] at hc
          obtain ⟨⟨c1, c2⟩, c3⟩ := hc
          refine build ⟨true, v, foot o.op a H, g⟩ _ _ (fun r hr => List.mem_cons_of_mem _ hr) h hw (fun _ => ⟨opF_opS hrec hop, fun n hn => ?_, fun n hn => memN_iff.1 (c2 n hn), rfl, List.mem_cons_self .., c3⟩) (fun h => by cases h)
          have := c1 n hn
          intro e
          rw [e] at this
          cases this
        · cases h
      · cases h
    · rename_i hw
      exact build ⟨false, undef, [], H⟩ fps H (fun r hr => hr) h hw (fun h => by cases h) (fun _ => ⟨rfl, rfl⟩)
    · cases h

section
variable {P : Program} {ρ : Ren} {H : AHeap} {w : World}

theorem wideF_wide : WideF Fence.wide := ⟨fun _ => trivial, rfl⟩

/-- what holds wherever an operation leads holds -/
theorem wpIn_const {n : Nat} {a : Act} {o : Oper} {φ : Prop} (h : o.wpIn Fence.wide n P a w (fun _ _ => φ) (fun _ _ _ => φ)) : φ := by
  obtain ⟨_, h⟩ := h
  generalize (o.semAt Fence.wide.round a.eval).run P w = res at h
  cases res with
  | ok x w' =>
    cases x with
    | value v => exact h
    | skip => exact h
    | defer d => exact h
    | enter f args =>
      obtain ⟨_, _, hc⟩ := h
      obtain ⟨e, w1, fr, hR, _⟩ := hc [] (room_wide _)
      cases e with
      | returned v => exact hR
      | panicked c => exact hR
      | outgrown => obtain ⟨_, _, h⟩ := hR; exact h
    | row r args =>
      obtain ⟨_, hc⟩ := h
      obtain ⟨v, w1, hR, _⟩ := hc default [] (room_wide _)
      exact hR
    | round l f tmps assign body =>
      obtain ⟨_, _, hc⟩ := h
      obtain ⟨e, w1, hR, _⟩ := hc default [] (room_wide _)
      cases e with
      | returned v => exact hR
      | panicked c => exact hR
      | outgrown => obtain ⟨_, _, h⟩ := hR; exact h
    | _ => exact h.elim
  | halt x w' =>
    cases x with
    | panic v => exact h
    | _ => exact h.elim

theorem opS_ex (r : Rel P ρ H w) {a : AAct} (hs : scA H.next a) {o : Oper} {v : Value} {g : AHeap} (h : OpS P a H o (.ok v) g) :
    ∃ ρ1 w1, St P ρ H w ρ1 g w1 ∧ scb g.next v = true := by
  refine wpIn_const (P := P) (w := w) (n := 0) (o := o) (a := ρ.act a) (h ρ w r hs _ (fun _ _ => rfl) _ _ _ _ wideF_wide ?_)
  intro ρ1 w1 hst hsc
  exact ⟨ρ1, w1, hst, hsc⟩

/-- the run in the text's order stands for something -/
theorem text_ex (r : Rel P ρ H w) {ops : Array Oper} {D : Nat → OpD} {A : Nat → AAct} {HH : Nat → AHeap} {m : Nat} (h0 : HH 0 = H) (hs : scA H.next (A 0))
    (hf : ∀ i, i < m → OpFact P ops D A HH i) : ∀ i, i ≤ m → ∃ ρi wi, St P ρ H w ρi (HH i) wi ∧ scA (HH i).next (A i) := by
  intro i
  induction i with
  | zero => intro _; exact ⟨ρ, w, by rw [h0]; exact St.refl r, by rw [h0]; exact hs⟩
  | succ i ih =>
    intro hi
    obtain ⟨ρi, wi, hst, hsa⟩ := ih (by omega)
    obtain ⟨o, h1, h2, h3, h4, h5⟩ := hf i (by omega)
    cases hon : (D i).on with
    | true =>
      obtain ⟨x1, x2, x3, x4⟩ := h4 hon
      obtain ⟨ρ1, w1, hst1, hsc⟩ := opS_ex (restrict_rel hst.rel (D i).F) (by rw [(restrict_next _ _).1]; exact hsa) x1
      have hm := merge_st hst.rel x2 hst1 x3
      have hn : ((HH i).merge (D i).g).next = (D i).g.next := (merge_facts _ _).1
      refine ⟨ρ1, w1, by rw [x4]; exact hst.trans hm, ?_⟩
      rw [x4, hn, h2]
      refine (hsa.mono ?_).put _ hsc
      have := hm.le.next
      rw [hn] at this
      exact this
    | false =>
      obtain ⟨x1, x2⟩ := h5 hon
      refine ⟨ρi, wi, by rw [x2]; exact hst, ?_⟩
      rw [x2, h2, x1]
      exact hsa.put _ (scb_undef _)

end

/-! who must come before whom -/
theorem edgeBits_spec {acc : List Nat} {k : Nat} : ∀ (es : List Edge) (s : Nat), (edgeBits acc es s).testBit k = true → s.testBit k = true ∨ ∃ e ∈ es, Region.binds .any e = true ∧ (k = e.on ∨ (acc.getD e.on 0).testBit k = true)
  | [], s, h => .inl h
  | e :: es, s, h => by
    rcases edgeBits_spec es _ h with h | ⟨e', he, hb, hk⟩
    · split at h
      · rename_i hb
        rw [Nat.testBit_or, Nat.testBit_or, Bool.or_eq_true, Bool.or_eq_true] at h
        rcases h with (h | h) | h
        · exact .inl h
        · refine .inr ⟨e, List.mem_cons_self .., hb, .inl ?_⟩
          rw [Nat.testBit_shiftLeft, Bool.and_eq_true] at h
          have h1 : e.on ≤ k := by simpa using h.1
          have h2 : k - e.on = 0 := by
            have := h.2
            rcases Nat.eq_zero_or_pos (k - e.on) with h0 | h0
            · exact h0
            · obtain ⟨j, hj⟩ : ∃ j, k - e.on = j + 1 := ⟨k - e.on - 1, by omega⟩
              rw [hj, Nat.testBit_succ] at this
              simp at this
          omega
        · exact .inr ⟨e, List.mem_cons_self .., hb, .inr h⟩
      · exact .inl h
    · exact .inr ⟨e', List.mem_cons_of_mem _ he, hb, hk⟩

theorem ancsFrom_spec : ∀ (l : List Oper) (acc : List Nat), (∀ j, j < acc.length → (ancsFrom l acc).getD j 0 = acc.getD j 0) ∧ (ancsFrom l acc).length = acc.length + l.length ∧
    ∀ i o, l[i]? = some o → ∃ acc', (ancsFrom l acc).getD (acc.length + i) 0 = edgeBits acc' o.after.toList 0 ∧ ∀ j, (acc'.getD j 0) ≠ 0 → acc'.getD j 0 = (ancsFrom l acc).getD j 0
  | [], acc => ⟨fun _ _ => rfl, by simp [ancsFrom], fun i o h => by simp at h⟩
  | o :: l, acc => by
    obtain ⟨h1, h2, h3⟩ := ancsFrom_spec l (acc ++ [edgeBits acc o.after.toList 0])
    simp only [ancsFrom]
    refine ⟨fun j hj => ?_, ?_, fun i o' ho => ?_⟩
    · rw [h1 j (by simp; omega), List.getD, List.getD, List.getElem?_append_left hj]
    · rw [h2]; simp; omega
    · cases i with
      | zero =>
        simp only [List.getElem?_cons_zero, Option.some.injEq] at ho
        subst ho
        refine ⟨acc, ?_, fun j hj => ?_⟩
        · rw [Nat.add_zero, h1 acc.length (by simp), List.getD, List.getElem?_append_right (Nat.le_refl _)]; simp
        · have hlt : j < acc.length := by
            rcases Nat.lt_or_ge j acc.length with h | h
            · exact h
            · exact absurd (by simp [List.getD, List.getElem?_eq_none h]) hj
          rw [h1 j (by simp; omega), List.getD, List.getD, List.getElem?_append_left hlt]
      | succ i =>
        simp only [List.getElem?_cons_succ] at ho
        obtain ⟨acc', g1, g2⟩ := h3 i o' ho
        refine ⟨acc', ?_, g2⟩
        rw [← g1]
        congr 1
        simp; omega

theorem ancs_spec {ops : Array Oper} {j k : Nat} {o : Oper} (ho : ops[j]? = some o) (h : ((ancs ops).getD j 0).testBit k = true) :
    ∃ e ∈ o.after, Region.binds .any e = true ∧ (k = e.on ∨ ((ancs ops).getD e.on 0).testBit k = true) := by
  obtain ⟨_, _, h3⟩ := ancsFrom_spec ops.toList []
  obtain ⟨acc', g1, g2⟩ := h3 j o (by simpa using ho)
  simp only [List.length_nil, Nat.zero_add] at g1
  unfold ancs at h ⊢
  rw [g1] at h
  rcases edgeBits_spec _ _ h with h | ⟨e, he, hb, hk⟩
  · simp at h
  · refine ⟨e, by simpa using he, hb, hk.imp id (fun hk => ?_)⟩
    rw [← g2 e.on (fun h0 => by rw [h0] at hk; simp at hk)]; exact hk

theorem static_spec {ops : Array Oper} {anc : List Nat} : ∀ (l : List Oper) (k : Nat), ops.toList.drop k = l → staticFrom ops anc l k = true →
    ∀ j oj, k ≤ j → ops[j]? = some oj → (∀ i oi, i < j → ops[i]? = some oi → (anc.getD j 0).testBit i = true ∨ oi.apart ops oj = true) ∧ ∀ e ∈ oj.after, Region.binds .any e = true → e.on < j
  | [], k, hd, _, j, oj, hj, ho => by
    have : ops.size ≤ k := by
      have := congrArg List.length hd
      simp at this
      omega
    have hlt : j < ops.size := by
      rcases Nat.lt_or_ge j ops.size with h | h
      · exact h
      · simp [Array.getElem?_eq_none h] at ho
    omega
  | o :: l, k, hd, h, j, oj, hj, ho => by
    have hk : ops[k]? = some o := by
      have := congrArg (·[0]?) hd
      simpa using this
    have hd' : ops.toList.drop (k + 1) = l := by
      have := congrArg List.tail hd
      simpa using this
    simp only [staticFrom, Bool.and_eq_true] at h
    obtain ⟨⟨h1, h2⟩, h3⟩ := h
    by_cases e : j = k
    · subst e
      rw [hk] at ho
      cases ho
      refine ⟨fun i oi hi hoi => ?_, fun e he hb => ?_⟩
      · have key : ∀ (l : List Oper) (b i : Nat) (oi : Oper), pairsOk ops o (anc.getD j 0) l b = true → l[i]? = some oi → apartA ops (anc.getD j 0) (b + i) oi o = true := by
          intro l
          induction l with
          | nil => intro b i oi _ h; simp at h
          | cons x l ih =>
            intro b i oi hp hx
            simp only [pairsOk, Bool.and_eq_true] at hp
            cases i with
            | zero => simp at hx; subst hx; exact hp.1
            | succ i =>
              have := ih (b + 1) i oi hp.2 (by simpa using hx)
              rw [show b + (i + 1) = b + 1 + i from by omega]; exact this
        have := key (ops.toList.take j) 0 i oi h1 (by rw [List.getElem?_take_of_lt hi]; simpa using hoi)
        simp only [apartA, Nat.zero_add, Bool.or_eq_true] at this
        exact this
      · have := List.all_eq_true.1 h2 e (by simpa using he)
        rw [hb] at this
        simp only [Bool.not_true, Bool.false_or] at this
        exact blt_lt this
    · exact static_spec l (k + 1) hd' h3 j oj (by omega) ho

end Go.Ax
