/- The abstract executor: a region that draws its order comes to the text's end, whatever the order. -/
import Derived.Test.YtghlibiicooenaaGreatDoorAxP
namespace Go.Ax

theorem disj_spec {a b : List Nat} (h : disj a b = true) {n : Nat} (hn : n ∈ a) : n ∉ b := fun hb => by
  have := List.all_eq_true.1 h n hn
  rw [memN_iff.2 hb] at this
  cases this

theorem avoids_spec {lo hi : Nat} {l : List Nat} (h : avoids lo hi l = true) {n : Nat} (hn : n ∈ l) : n < lo ∨ hi ≤ n := by
  have := List.all_eq_true.1 h n hn
  simp only [Bool.or_eq_true] at this
  exact this.imp blt_lt ble_le

theorem fpOk_spec {anc : Nat} {F : List Nat} {v : Value} {g : AHeap} {next : Nat} {r : Fp} (h : fpOk anc F v g next r = true) (ha : anc.testBit r.i = false) :
    (∀ n ∈ r.W, n ∉ F) ∧ (∀ n ∈ r.F, n ∉ g.dirty) ∧ (r.lo < r.hi → (∀ n ∈ F, n < r.lo ∨ r.hi ≤ n) ∧ ∀ n ∈ outIds v g next, n < r.lo ∨ r.hi ≤ n) := by
  simp only [fpOk, ha, Bool.false_or, Bool.and_eq_true] at h
  obtain ⟨⟨h1, h2⟩, h3⟩ := h
  refine ⟨fun n hn => disj_spec h1 hn, fun n hn => disj_spec h2 hn, fun hlt => ?_⟩
  simp only [Bool.or_eq_true, Bool.and_eq_true] at h3
  rcases h3 with h3 | h3
  · have := ble_le h3; omega
  · exact ⟨fun n hn => avoids_spec h3.1 hn, fun n hn => avoids_spec h3.2 hn⟩

theorem mem_rangeFrom {n : Nat} : ∀ (k a : Nat), a ≤ n → n < a + k → n ∈ rangeFrom a k
  | 0, a, h1, h2 => by omega
  | k + 1, a, h1, h2 => by
    rw [rangeFrom, List.mem_cons]
    by_cases e : n = a
    · exact .inl e
    · exact .inr (mem_rangeFrom k (a + 1) (by omega) (by omega))

theorem of_mem_rangeFrom {n : Nat} : ∀ (k a : Nat), n ∈ rangeFrom a k → a ≤ n ∧ n < a + k
  | 0, a, h => by simp [rangeFrom] at h
  | k + 1, a, h => by
    rw [rangeFrom, List.mem_cons] at h
    rcases h with rfl | h
    · omega
    · have := of_mem_rangeFrom k (a + 1) h; omega

structure Txt (P : Program) (ops : Array Oper) (D : Nat → OpD) (A : Nat → AAct) (HH : Nat → AHeap) (ρ0 : Ren) (w0 : World) : Prop where
  rel : Rel P ρ0 (HH 0) w0
  sc : scA (HH 0).next (A 0)
  fact : ∀ i, i < ops.size → OpFact P ops D A HH i
  pair : ∀ i j, i < j → j < ops.size → (D i).on = true → PairFact (ancs ops) D HH j (fpAt D HH i)
  stat : ∀ j oj, ops[j]? = some oj → (∀ i oi, i < j → ops[i]? = some oi → ((ancs ops).getD j 0).testBit i = true ∨ oi.apart ops oj = true) ∧ ∀ e ∈ oj.after, Region.binds .any e = true → e.on < j
  ex : ∀ i, i ≤ ops.size → ∃ ρi wi, St P ρ0 (HH 0) w0 ρi (HH i) wi ∧ scA (HH i).next (A i)

section
variable {P : Program} {ops : Array Oper} {D : Nat → OpD} {A : Nat → AAct} {HH : Nat → AHeap} {ρ0 : Ren} {w0 : World}

/-- what the text's run says of an operation that ran -/
structure Loc (P : Program) (D : Nat → OpD) (HH : Nat → AHeap) (i : Nat) : Prop where
  F : ∀ n ∈ (D i).F, (HH i).get n ≠ none
  W : ∀ n ∈ (D i).g.dirty, n ∈ (D i).F
  merge : HH (i + 1) = (HH i).merge (D i).g
  le : (HH i).next ≤ (D i).g.next
  lt : ∀ n, (HH i).get n ≠ none → n < (HH i).next
  dom : ∀ n o, (D i).g.get n = some o → n < (D i).g.next ∧ sco (D i).g.next o
  domH : ∀ n o, (HH i).get n = some o → n < (HH i).next ∧ sco (HH i).next o
  keep : ∀ n, n ∈ (D i).F → n ∉ (D i).g.dirty → (D i).g.get n = (HH i).get n
  gone : ∀ n, n < (HH i).next → n ∉ (D i).F → (D i).g.get n = none
  v : scb (D i).g.next (D i).v = true
  glob : P.globals.size ≤ (HH i).next

theorem Txt.loc (T : Txt P ops D A HH ρ0 w0) {i : Nat} (hi : i < ops.size) (hon : (D i).on = true) : Loc P D HH i := by
  obtain ⟨o, h1, h2, h3, h4, _⟩ := T.fact i hi
  obtain ⟨x1, x2, x3, x4⟩ := h4 hon
  obtain ⟨ρi, wi, hst, hsa⟩ := T.ex i (by omega)
  obtain ⟨ρ1, w1, s, hsc⟩ := opS_ex (restrict_rel hst.rel (D i).F) (by rw [(restrict_next _ _).1]; exact hsa) x1
  obtain ⟨k1, k2, k3⟩ := restrict_next (HH i) (D i).F
  refine ⟨x2, x3, x4, by have := s.le.next; rw [k1] at this; exact this, fun n hn => hst.rel.lt hn, s.rel.dom, hst.rel.dom, fun n hn hd => ?_, fun n hn hf => ?_, hsc, hst.rel.glob.1⟩
  · rw [s.le.keep n (by rw [k2]; exact hst.rel.lt (x2 n hn)) hd, restrict_get, if_pos hn]
  · exact s.le.gone n (by rw [k1]; exact hn) (by rw [restrict_get, if_neg hf])

theorem Txt.step (T : Txt P ops D A HH ρ0 w0) {i : Nat} (hi : i < ops.size) :
    (HH i).next ≤ (HH (i + 1)).next ∧ ((D i).on = true → (HH (i + 1)).next = (D i).g.next) ∧ ((D i).on = false → HH (i + 1) = HH i) ∧ (HH (i + 1)).base = (HH i).base ∧ (∀ n, n ∈ (HH i).dirty → n ∈ (HH (i + 1)).dirty) ∧
      ((D i).on = true → ∀ n ∈ (D i).g.dirty, n < (HH i).base → n ∈ (HH (i + 1)).dirty) := by
  obtain ⟨o, h1, h2, h3, h4, h5⟩ := T.fact i hi
  cases hon : (D i).on with
  | true =>
    have L := T.loc hi hon
    obtain ⟨m1, m2, m3, m4⟩ := merge_facts (HH i) (D i).g
    rw [L.merge]
    exact ⟨by rw [m1]; exact L.le, fun _ => m1, (fun h => by cases h), m2, m3, fun _ => m4⟩
  | false =>
    obtain ⟨x1, x2⟩ := h5 hon
    rw [x2]
    exact ⟨Nat.le_refl _, (fun h => by cases h), fun _ => rfl, rfl, fun _ h => h, (fun h => by cases h)⟩

theorem Txt.mono (T : Txt P ops D A HH ρ0 w0) {i : Nat} : ∀ {j : Nat}, i ≤ j → j ≤ ops.size → (HH i).next ≤ (HH j).next ∧ (HH j).base = (HH i).base ∧ ∀ n, n ∈ (HH i).dirty → n ∈ (HH j).dirty
  | 0, h, _ => by
    have : i = 0 := by omega
    subst this; exact ⟨Nat.le_refl _, rfl, fun _ h => h⟩
  | j + 1, h, hj => by
    by_cases e : i = j + 1
    · subst e; exact ⟨Nat.le_refl _, rfl, fun _ h => h⟩
    · obtain ⟨h1, h2, h3⟩ := Txt.mono T (i := i) (j := j) (by omega) (by omega)
      obtain ⟨s1, _, _, s4, s5, _⟩ := T.step (i := j) (by omega)
      exact ⟨Nat.le_trans h1 s1, s4.trans h2, fun n hn => s5 n (h3 n hn)⟩

theorem Txt.hx_all (T : Txt P ops D A HH ρ0 w0) {n : Nat} : ∀ k, k ≤ ops.size → hx D HH (fun _ => true) k n = (HH k).get n
  | 0, _ => rfl
  | k + 1, hk => by
    rw [hx, Txt.hx_all T k (by omega)]
    cases hon : (D k).on with
    | true =>
      have L := T.loc (i := k) (by omega) hon
      rw [L.merge, merge_get _ _ L.le]
      by_cases hw : Wrt (HH k) (D k).g n
      · rw [if_pos ⟨rfl, hon, hw⟩, if_pos hw]
      · rw [if_neg (fun h => hw h.2.2), if_neg hw]
    | false =>
      rw [if_neg (fun h => by have := h.2.1; rw [hon] at this; cases this), (T.step (i := k) (by omega)).2.2.1 hon]

theorem Txt.ax_all (T : Txt P ops D A HH ρ0 w0) : ∀ k, k ≤ ops.size → ax ops D (A 0) (fun _ => true) k = A k
  | 0, _ => rfl
  | k + 1, hk => by
    obtain ⟨o, h1, h2, _⟩ := T.fact k (by omega)
    rw [ax, if_pos rfl, Txt.ax_all T k (by omega), h2, dstAt, h1]
    rfl

theorem Txt.env_n (T : Txt P ops D A HH ρ0 w0) {k : Nat} (hk : k ≤ ops.size) : (A k).env.n = (A 0).env.n ∧ (A k).defers = (A 0).defers := by
  rw [← T.ax_all k hk]; exact ax_n k

/-- what X holds is closed under 'before' -/
def Closed (ops : Array Oper) (X : Nat → Bool) : Prop := ∀ j oj, ops[j]? = some oj → X j = true → ∀ e ∈ oj.after, Region.binds .any e = true → X e.on = true

theorem Txt.anc (T : Txt P ops D A HH ρ0 w0) {X : Nat → Bool} (hc : Closed ops X) {k : Nat} : ∀ (j : Nat), j < ops.size → X j = true → ((ancs ops).getD j 0).testBit k = true → X k = true := by
  intro j
  induction j using Nat.strongRecOn with
  | _ j ih =>
    intro hj hX h
    obtain ⟨oj, hoj⟩ : ∃ o, ops[j]? = some o := ⟨ops[j], by simp [hj]⟩
    obtain ⟨e, he, hb, hk⟩ := ancs_spec hoj h
    have hlt := (T.stat j oj hoj).2 e he hb
    have hXe := hc j oj hoj hX e he hb
    rcases hk with rfl | hk
    · exact hXe
    · exact ih e.on hlt (by omega) hXe hk

theorem Txt.anc_ready (T : Txt P ops D A HH ρ0 w0) {X : Nat → Bool} (hc : Closed ops X) {i k : Nat} {o : Oper} (ho : ops[i]? = some o) (hr : ∀ e ∈ o.after, Region.binds .any e = true → X e.on = true) (hi : i < ops.size)
    (h : ((ancs ops).getD i 0).testBit k = true) : X k = true := by
  obtain ⟨e, he, hb, hk⟩ := ancs_spec ho h
  have hlt := (T.stat i o ho).2 e he hb
  rcases hk with rfl | hk
  · exact hr e he hb
  · exact T.anc hc e.on (by omega) (hr e he hb) hk

/-- the blocks that may be named once X has run -/
def Named (ops : Array Oper) (HH : Nat → AHeap) (X : Nat → Bool) (n : Nat) : Prop := n < (HH 0).next ∨ ∃ k, k < ops.size ∧ X k = true ∧ (HH k).next ≤ n ∧ n < (HH (k + 1)).next

theorem Txt.part (T : Txt P ops D A HH ρ0 w0) {n : Nat} : ∀ k, k ≤ ops.size → n < (HH k).next → n < (HH 0).next ∨ ∃ j, j < k ∧ (HH j).next ≤ n ∧ n < (HH (j + 1)).next
  | 0, _, h => .inl h
  | k + 1, hk, h => by
    rcases Nat.lt_or_ge n (HH k).next with h1 | h1
    · rcases Txt.part T k (by omega) h1 with h2 | ⟨j, h2, h3⟩
      · exact .inl h2
      · exact .inr ⟨j, by omega, h3⟩
    · exact .inr ⟨k, Nat.lt_succ_self _, h1, h⟩

/-- the place of an operation that may come up -/
structure Ready (ops : Array Oper) (X X' : Nat → Bool) (i : Nat) (o : Oper) : Prop where
  lt : i < ops.size
  at_ : ops[i]? = some o
  not : X i = false
  now : X' i = true
  rest : ∀ j, j ≠ i → X' j = X j
  edges : ∀ e ∈ o.after, Region.binds .any e = true → X e.on = true
  closed : Closed ops X

theorem Ready.after (T : Txt P ops D A HH ρ0 w0) {X X' : Nat → Bool} {i : Nat} {o : Oper} (r : Ready ops X X' i o) {j : Nat} (hj : j < ops.size) (hX : X j = true) : ((ancs ops).getD j 0).testBit i = false := by
  cases h : ((ancs ops).getD j 0).testBit i with
  | false => rfl
  | true =>
    have := T.anc r.closed j hj hX h
    rw [r.not] at this; cases this

theorem Ready.foot (T : Txt P ops D A HH ρ0 w0) {X X' : Nat → Bool} {i : Nat} {o : Oper} (r : Ready ops X X' i o) (hon : (D i).on = true) {n : Nat} (hn : n ∈ (D i).F) {j : Nat} (hj : j < ops.size) (hw : WrtD D HH j n) :
    X j = decide (j < i) := by
  have L := T.loc r.lt hon
  obtain ⟨hj1, hw⟩ := hw
  have Lj := T.loc hj hj1
  rcases Nat.lt_trichotomy j i with h | h | h
  · rw [decide_eq_true h]
    cases ha : ((ancs ops).getD i 0).testBit j with
    | true => exact T.anc_ready r.closed r.at_ r.edges r.lt ha
    | false =>
      obtain ⟨p1, p2, p3⟩ := fpOk_spec (T.pair j i h r.lt hj1 hon) ha
      rcases hw with hw | hw
      · exact absurd hn (p1 n hw)
      · have := (p3 (by show (HH j).next < (D j).g.next; omega)).1 n hn
        simp only [fpAt] at this
        omega
  · subst h; rw [r.not]; simp
  · rw [decide_eq_false (by omega)]
    cases hX : X j with
    | false => rfl
    | true =>
      obtain ⟨p1, p2, p3⟩ := fpOk_spec (T.pair i j h hj hon hj1) (r.after T hj hX)
      rcases hw with hw | hw
      · exact absurd hw (p2 n hn)
      · have h1 := L.lt n (L.F n hn)
        have h2 := (T.mono (i := i) (j := j) (by omega) (by omega)).1
        omega

theorem Ready.ins (T : Txt P ops D A HH ρ0 w0) {X X' : Nat → Bool} {i : Nat} {o : Oper} (r : Ready ops X X' i o) {n j : Nat} (hij : i < j) (hj : j < ops.size) (hw : WrtD D HH j n) (hwi : WrtD D HH i n) : X j = false := by
  obtain ⟨hj1, hw⟩ := hw
  obtain ⟨hon, hwi⟩ := hwi
  have L := T.loc r.lt hon
  have Lj := T.loc hj hj1
  have hm := (T.mono (i := i + 1) (j := j) (by omega) (by omega)).1
  have hs := (T.step r.lt).2.1 hon
  cases hX : X j with
  | false => rfl
  | true =>
    obtain ⟨p1, p2, p3⟩ := fpOk_spec (T.pair i j hij hj hon hj1) (r.after T hj hX)
    rcases hwi with hwi | hwi <;> rcases hw with hw | hw
    · exact absurd (Lj.W n hw) (p1 n hwi)
    · have := L.lt n (L.F n (L.W n hwi)); have := L.le; omega
    · have := (p3 (by show (HH i).next < (D i).g.next; omega)).1 n (Lj.W n hw)
      simp only [fpAt] at this
      omega
    · omega

theorem Ready.looks (T : Txt P ops D A HH ρ0 w0) {X X' : Nat → Bool} {i : Nat} {o : Oper} (r : Ready ops X X' i o) {t : Nat} (ht : t ∈ o.looksAt ops) {j : Nat} (hj : j < ops.size) (hd : dstAt ops j = some t) : X j = decide (j < i) := by
  obtain ⟨oj, hoj⟩ : ∃ o, ops[j]? = some o := ⟨ops[j], by simp [hj]⟩
  have hdj : oj.dst = some t := by simpa [dstAt, hoj] using hd
  rcases Nat.lt_trichotomy j i with h | h | h
  · rw [decide_eq_true h]
    rcases (T.stat i o r.at_).1 j oj h hoj with ha | ha
    · exact T.anc_ready r.closed r.at_ r.edges r.lt ha
    · exact absurd ht ((Oper.apart_spec ha).1 t hdj)
  · subst h; rw [r.not]; simp
  · rw [decide_eq_false (by omega)]
    cases hX : X j with
    | false => rfl
    | true =>
      rcases (T.stat j oj hoj).1 i o h r.at_ with ha | ha
      · rw [r.after T hj hX] at ha; cases ha
      · exact absurd ht ((Oper.apart_spec ha).2.2 t hdj)

theorem Ready.dst (T : Txt P ops D A HH ρ0 w0) {X X' : Nat → Bool} {i : Nat} {o : Oper} (r : Ready ops X X' i o) {t j : Nat} (hij : i < j) (hj : j < ops.size) (hd : dstAt ops j = some t) (hdi : dstAt ops i = some t) : X j = false := by
  obtain ⟨oj, hoj⟩ : ∃ o, ops[j]? = some o := ⟨ops[j], by simp [hj]⟩
  have hdj : oj.dst = some t := by simpa [dstAt, hoj] using hd
  have hdi' : o.dst = some t := by simpa [dstAt, r.at_] using hdi
  cases hX : X j with
  | false => rfl
  | true =>
    rcases (T.stat j oj hoj).1 i o hij r.at_ with ha | ha
    · rw [r.after T hj hX] at ha; cases ha
    · exact absurd hdj ((Oper.apart_spec ha).2.1 t hdi')

/-- the temporaries that the operation looks at are as in the text's order -/
theorem Ready.tmp (T : Txt P ops D A HH ρ0 w0) {X X' : Nat → Bool} {i : Nat} {o : Oper} (r : Ready ops X X' i o) {t : Nat} (ht : t ∈ o.looksAt ops) : (ax ops D (A 0) X ops.size).tmp t = (A i).tmp t := by
  have hn1 := (ax_n (ops := ops) (D := D) (a := A 0) (X := X) ops.size).1
  have hn2 := (T.env_n (k := i) (by have := r.lt; omega)).1
  unfold AAct.tmp
  rw [hn1, hn2]
  by_cases h : t < (A 0).env.n
  · rw [blt_of h]
    simp only [if_true]
    rw [ax_congr (Y := fun j => decide (j < i)) h ops.size (fun j hj hd => r.looks T ht hj hd), ax_upto h ops.size (by have := r.lt; omega), T.ax_all i (by have := r.lt; omega)]
  · rw [blt_false h]; simp

theorem Ready.want (T : Txt P ops D A HH ρ0 w0) {X X' : Nat → Bool} {i : Nat} {o : Oper} (r : Ready ops X X' i o) (ρ : Ren) : Region.wanted o (yielded ops (ρ.act (ax ops D (A 0) X ops.size)).tmps) = (D i).on := by
  obtain ⟨o', h1, h2, h3, _⟩ := T.fact i r.lt
  rw [r.at_] at h1
  cases h1
  rw [← want_run ρ h3]
  unfold Region.wanted
  cases hg : o.guard with
  | none => rfl
  | some gw =>
    obtain ⟨j, want⟩ := gw
    simp only [yielded_act]
    cases hd : (ops[j]?).bind (·.dst) with
    | none => rfl
    | some d => simp only [r.tmp T (t := d) (by simp [Oper.looksAt, hg, hd])]

theorem Ready.evals (T : Txt P ops D A HH ρ0 w0) {X X' : Nat → Bool} {i : Nat} {o : Oper} (r : Ready ops X X' i o) (ρ : Ren) : ∀ x ∈ o.op.operands, (ρ.act (ax ops D (A 0) X ops.size)).eval x = (ρ.act (A i)).eval x := by
  intro x hx
  cases x with
  | tmp t =>
    show (ρ.act (ax ops D (A 0) X ops.size)).tmps.getD t undef = (ρ.act (A i)).tmps.getD t undef
    rw [act_tmp, act_tmp, r.tmp T (t := t) (List.mem_append_left _ (List.mem_filterMap.2 ⟨.tmp t, by simpa using hx, rfl⟩))]
  | _ => rfl

end
end Go.Ax
