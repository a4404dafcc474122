/- Parts of the proof, one behind the other. -/
import Derived.Test.YtfpckllenkifkaaDoorM2
import Derived.LoopNIn
import Derived.Scope
set_option linter.all false

/- The abstract executor is sound: what it comes to, the model comes to, whatever the tape. -/
namespace Go.Ax
section
variable {P : Program} {ops : Array Oper} {D : Nat → OpD} {A : Nat → AAct} {HH : Nat → AHeap} {ρ0 : Ren} {w0 : World}

def listedX (l : Array Bool) (j : Nat) : Bool := l.getD j false

def left (m : Nat) (X : Nat → Bool) : Nat := ((List.range m).filter fun i => !X i).length

theorem mem_ready' {listed : Array Bool} {i : Nat} (hsz : listed.size = ops.size) (h : i ∈ Region.ready .any ops listed) : i < ops.size ∧ listedX listed i = false ∧ ∃ o, ops[i]? = some o ∧ ∀ e ∈ o.after, Region.binds .any e = true → listedX listed e.on = true := by
  obtain ⟨h1, o, h2, h3⟩ := mem_ready.1 h
  have hlt : i < ops.size := by
    rcases Nat.lt_or_ge i ops.size with h | h
    · exact h
    · simp [Array.getElem?_eq_none h] at h2
  refine ⟨hlt, ?_, o, h2, fun e he hb => h3 e he hb⟩
  have hl : i < listed.size := by omega
  simp only [listedX, Array.getD_eq_getD_getElem?, Array.getElem?_eq_getElem hl, Option.getD_some] at h1 ⊢
  exact h1

theorem ready_of {listed : Array Bool} {i : Nat} {o : Oper} (hsz : listed.size = ops.size) (hi : i < ops.size) (h1 : listedX listed i = false) (ho : ops[i]? = some o) (he : ∀ e ∈ o.after, Region.binds .any e = true → listedX listed e.on = true) : i ∈ Region.ready .any ops listed := by
  refine mem_ready.2 ⟨?_, o, ho, fun e h hb => he e h hb⟩
  have hl : i < listed.size := by omega
  simp only [listedX, Array.getD_eq_getD_getElem?, Array.getElem?_eq_getElem hl, Option.getD_some] at h1 ⊢
  exact h1

theorem all_run (T : Txt P ops D A HH ρ0 w0) {listed : Array Bool} (hsz : listed.size = ops.size) (h : Region.ready .any ops listed = []) : ∀ i, i < ops.size → listedX listed i = true := by
  intro i
  induction i using Nat.strongRecOn with
  | _ i ih =>
    intro hi
    cases hX : listedX listed i with
    | true => rfl
    | false =>
      obtain ⟨o, ho⟩ : ∃ o, ops[i]? = some o := ⟨ops[i], by simp [hi]⟩
      have : i ∈ Region.ready .any ops listed := ready_of hsz hi hX ho (fun e he hb => by
        have hlt := (T.stat i o ho).2 e he hb
        exact ih e.on hlt (by omega))
      rw [h] at this; cases this

theorem inv_end (T : Txt P ops D A HH ρ0 w0) {X : Nat → Bool} (hX : ∀ i, i < ops.size → X i = true) {ρ : Ren} {w : World} (I : Inv P ops D A HH ρ0 w0 X ρ w) :
    St P ρ0 (HH 0) w0 ρ (HH ops.size) w ∧ ρ.act (ax ops D (A 0) X ops.size) = ρ.act (A ops.size) := by
  have hh : ∀ n, hx D HH X ops.size n = (HH ops.size).get n := fun n => by
    rw [hx_congr (Y := fun _ => true) ops.size (fun j hj _ => hX j hj), T.hx_all ops.size (Nat.le_refl _)]
  obtain ⟨ρm, wm, hst, hsa⟩ := T.ex ops.size (Nat.le_refl _)
  refine ⟨⟨I.ext, hst.le, ⟨hst.rel.base, ⟨hst.rel.glob.1, I.glob⟩, fun a b ha hb => by rw [← hh, ← hh]; exact I.inj a b (by rw [hh]; exact ha) (by rw [hh]; exact hb), hst.rel.dom, fun n o ho => I.obj n o (by rw [hh]; exact ho)⟩, I.os, I.tape, I.output, I.size,
    fun b hb hc => I.old b hb hc, fun n hn hg => ?_, hst.ro⟩, ?_⟩
  · rcases I.fresh n hn (by rw [hh]; exact hg) with h | ⟨k, h1, h2, h3, h4⟩
    · exact .inl h
    · exact .inr ⟨k, h1, h2, h3, h4⟩
  · obtain ⟨q1, q2⟩ := ax_n (ops := ops) (D := D) (a := A 0) (X := X) ops.size
    obtain ⟨e1, e2⟩ := T.env_n (k := ops.size) (Nat.le_refl _)
    refine act_same _ _ (by rw [q1, e1]) (by rw [q2, e2]) (fun t ht => ?_)
    rw [e1] at ht
    rw [ax_congr (Y := fun _ => true) ht ops.size (fun j hj _ => hX j hj), T.ax_all ops.size (Nat.le_refl _)]

theorem inv_start (T : Txt P ops D A HH ρ0 w0) {X : Nat → Bool} (hX : ∀ i, X i = false) {w : World} (h1 : w.heap = w0.heap) (h2 : w.os = w0.os) (h3 : w.tape = w0.tape) (h4 : w.output = w0.output) :
    Inv P ops D A HH ρ0 w0 X ρ0 w ∧ ax ops D (A 0) X ops.size = A 0 := by
  have hh : ∀ k n, hx D HH X k n = (HH 0).get n := fun k n => by
    induction k with
    | zero => rfl
    | succ k ih => rw [hx, if_neg (fun h => by rw [hX] at h; cases h.1), ih]
  have ha : ∀ k, ax ops D (A 0) X k = A 0 := fun k => by
    induction k with
    | zero => rfl
    | succ k ih => rw [ax, if_neg (by rw [hX]; simp), ih]
  refine ⟨⟨T.rel.glob.2, fun a b ha' hb => by rw [hh ops.size, hh ops.size]; exact T.rel.inj a b (by rw [← hh ops.size]; exact ha') (by rw [← hh ops.size]; exact hb), fun n _ => hh ops.size n, fun n o ho => ?_, fun n o ho => by rw [h1]; exact T.rel.obj n o (by rw [← hh ops.size]; exact ho), fun t ht k hk => ?_, Ext.refl _ _, h2, h3, h4,
    by rw [h1]; exact Nat.le_refl _, fun b _ _ => by rw [h1], fun n hn hne => ?_, fun n _ h0 => by rw [hh]; exact h0⟩, ha ops.size⟩
  · have := T.rel.dom n o (by rw [← hh ops.size]; exact ho)
    exact ⟨.inl this.1, fun k hk => .inl (ids_of_sco this.2 k hk)⟩
  · rw [ha] at hk
    exact .inl (ids_of_scb _ (T.sc.1 t ht) k hk)
  · rw [hh] at hne
    exact absurd (T.rel.lt hne) (by omega)

theorem set_X {listed : Array Bool} {i : Nat} (hi : i < listed.size) (j : Nat) : listedX (listed.setIfInBounds i true) j = if j = i then true else listedX listed j := by
  unfold listedX
  rw [Array.getD_eq_getD_getElem?, Array.getD_eq_getD_getElem?, Array.getElem?_setIfInBounds]
  by_cases e : i = j
  · subst e; simp [hi]
  · rw [if_neg e, if_neg (fun h => e h.symm)]

theorem any_run (T : Txt P ops D A HH ρ0 w0) {F : Fence} {n : Nat} (hF : WideF F) {Q : Exit → Act → World → Prop}
    (hA : ∀ i, i < ops.size → (D i).bad = true → ∀ j, j < ops.size → j ≠ i → ((ancs ops).getD i 0).testBit j = true)
    (hB : ∀ i o, ops[i]? = some o → (D i).bad = true → ∀ (X X' : Nat → Bool) (ρ : Ren) (w : World), (∀ j, j < ops.size → j ≠ i → X j = true) → Ready ops X X' i o → Inv P ops D A HH ρ0 w0 X ρ w →
      Region.wanted o (yielded ops (ρ.act (ax ops D (A 0) X ops.size)).tmps) = true ∧ ∀ K, o.wpIn F n P (ρ.act (ax ops D (A 0) X ops.size)) w K Q)
    (hQ : (∀ i, i < ops.size → (D i).bad = false) → ∀ ρ1 w1, St P ρ0 (HH 0) w0 ρ1 (HH ops.size) w1 → Q .normal (ρ1.act (A ops.size)) w1) :
    ∀ (fuel : Nat) (listed : Array Bool) (ρ : Ren) (w : World), listed.size = ops.size → left ops.size (listedX listed) ≤ fuel → Closed ops (listedX listed) → (∀ i, listedX listed i = true → (D i).bad = false) → Inv P ops D A HH ρ0 w0 (listedX listed) ρ w →
      wpAnyIn F n P .any ops Q fuel listed (ρ.act (ax ops D (A 0) (listedX listed) ops.size)) w := by
  have hend : ∀ (listed : Array Bool) (ρ : Ren) (w : World), listed.size = ops.size → (∀ i, listedX listed i = true → (D i).bad = false) → Inv P ops D A HH ρ0 w0 (listedX listed) ρ w → Region.ready .any ops listed = [] → Q .normal (ρ.act (ax ops D (A 0) (listedX listed) ops.size)) w := by
    intro listed ρ w hsz hb I hr
    obtain ⟨h1, h2⟩ := inv_end T (all_run T hsz hr) I
    rw [h2]; exact hQ (fun i hi => hb i (all_run T hsz hr i hi)) ρ w h1
  intro fuel
  induction fuel with
  | zero =>
    intro listed ρ w hsz hl hc hb I
    have hr : Region.ready .any ops listed = [] := by
      cases e : Region.ready .any ops listed with
      | nil => rfl
      | cons i l =>
        obtain ⟨hi, hX, _⟩ := mem_ready' hsz (i := i) (by rw [e]; exact List.mem_cons_self ..)
        have : i ∈ (List.range ops.size).filter fun i => !listedX listed i := List.mem_filter.2 ⟨List.mem_range.2 hi, by rw [hX]; rfl⟩
        have h0 : (List.range ops.size).filter (fun i => !listedX listed i) = [] := List.eq_nil_of_length_eq_zero (by unfold left at hl; omega)
        rw [h0] at this; cases this
    exact ⟨hr, hend listed ρ w hsz hb I hr⟩
  | succ fuel ih =>
    intro listed ρ w hsz hl hc hb I
    refine ⟨fun hr => hend listed ρ w hsz hb I hr, fun i hi => ?_⟩
    obtain ⟨hlt, hX, o, ho, hedge⟩ := mem_ready' hsz hi
    have hset := set_X (listed := listed) (i := i) (by omega)
    have r : Ready ops (listedX listed) (listedX (listed.setIfInBounds i true)) i o :=
      ⟨hlt, ho, hX, by rw [hset]; simp, fun j hj => by rw [hset, if_neg hj], hedge, hc⟩
    have hsz' : (listed.setIfInBounds i true).size = ops.size := by simp [hsz]
    have hl' : left ops.size (listedX (listed.setIfInBounds i true)) ≤ fuel := by
      have := filt_lt (fun j => !listedX listed j) (fun j => !listedX (listed.setIfInBounds i true) j) (List.range ops.size) (fun j _ h => by
        simp only [Bool.not_eq_true'] at h ⊢
        cases e : listedX listed j with
        | false => rfl
        | true => have := r.up j e; rw [h] at this; cases this) i (List.mem_range.2 hlt) (by simp [hX]) (by simp [r.now])
      unfold left at hl ⊢
      omega
    have hc' : Closed ops (listedX (listed.setIfInBounds i true)) := by
      intro j oj hoj hXj e he hb
      by_cases hji : j = i
      · subst hji
        rw [ho] at hoj
        cases hoj
        exact r.up _ (hedge e he hb)
      · rw [r.rest j hji] at hXj
        exact r.up _ (hc j oj hoj hXj e he hb)
    unfold wpOpIn
    simp only [ho]
    cases hbi : (D i).bad with
    | true =>
      obtain ⟨hw, hk⟩ := hB i o ho hbi _ _ ρ w (fun j hj hne => T.anc_ready r.closed r.at_ r.edges r.lt (hA i hlt hbi j hj hne)) r I
      rw [hw]
      simp only [if_true]
      exact hk _
    | false =>
    have hb' : ∀ j, listedX (listed.setIfInBounds i true) j = true → (D j).bad = false := fun j hj => by
      by_cases e : j = i
      · rw [e]; exact hbi
      · rw [r.rest j e] at hj; exact hb j hj
    rw [r.want T hbi ρ]
    cases hon : (D i).on with
    | false =>
      simp only [Bool.false_eq_true, if_false]
      obtain ⟨I', ha⟩ := r.off T hon I
      exact ⟨fun f _ => hF.fn f, by rw [ha]; exact ih _ ρ w hsz' hl' hc' hb' I'⟩
    | true =>
      simp only [if_true]
      obtain ⟨o', f1, f2, f3, f4, f5⟩ := T.fact i hlt
      rw [ho] at f1
      cases f1
      obtain ⟨_, _, _, hsa⟩ := T.ex i (by omega)
      refine (f4 hon).1 _ _ (r.rel T hon I) (by rw [(restrict_next _ _).1]; exact hsa) _ (r.evals T ρ) _ _ _ _ hF ?_
      intro ρ1 w1 s _
      obtain ⟨I', ha⟩ := r.on T hon I s
      rw [ha]
      exact ih _ _ w1 hsz' hl' hc' hb' I'

end

section
variable {P : Program} {ρ : Ren} {H : AHeap} {w : World}

theorem runDraw_run {rec : Rec} (hmix : P.follows .mixedOrders = true) (hrec : Sound P rec) {ops : Array Oper} {id : Nat} (hst : staticOk ops = true) {a a1 : AAct} {H1 : AHeap} (h : runDraw P rec ops (ancs ops) ops.toList 0 [] a H = some (a1, H1)) (r : Rel P ρ H w) (hs : scA H.next a)
    {F : Fence} {n : Nat} {Q : Exit → Act → World → Prop} (hF : WideF F) (hQ : ∀ ρ1 w1, St P ρ H w ρ1 H1 w1 → scA H1.next a1 → Q .normal (ρ1.act a1) w1) : (Code.region id ops true).wpIn F n P Q (ρ.act a) w := by
  obtain ⟨D, A, HH, e1, e2, e3, e4, f1, f2, _, hnb⟩ := runDraw_text hrec ops.toList 0 [] a H a1 H1 ⟨[], by simp⟩ h
  simp only [Nat.zero_add, Array.length_toList] at e3 e4 f1 f2
  have hfact : ∀ i, i < ops.size → OpFact P ops D A HH i := fun i hi => f1 i (Nat.zero_le _) hi
  have hex := text_ex r (ops := ops) (D := D) (A := A) (HH := HH) (m := ops.size) e2 (by rw [e1]; exact hs) hfact
  have T : Txt P ops D A HH ρ w := by
    refine ⟨by rw [e2]; exact r, by rw [e2, e1]; exact hs, hfact, fun i j hij hj hi => f2 i j (Nat.zero_le _) hij hj hi, fun j oj hoj => static_spec ops.toList 0 (by simp) hst j oj (Nat.zero_le _) hoj, ?_⟩
    rw [e2]; exact hex
  obtain ⟨ρm, wm, hstm, hsa⟩ := hex ops.size (Nat.le_refl _)
  rw [e3, e4] at hsa
  refine wpIn_region_any hmix ?_
  have hX0 : ∀ j, listedX (Array.replicate ops.size false) j = false := fun j => by
    unfold listedX
    rw [Array.getD_eq_getD_getElem?, Array.getElem?_replicate]
    split <;> rfl
  obtain ⟨I, ha⟩ := inv_start (w := { w with drawn := w.drawn + 1 }) T hX0 rfl rfl rfl rfl
  have := any_run T (n := n) hF (Q := Q) (fun i hi h => by rw [hnb] at h; cases h) (fun i o hi h => by rw [hnb] at h; cases h) (fun _ ρ1 w1 h1 => by
    rw [e2, e4] at h1
    rw [e3]
    exact hQ ρ1 w1 h1 hsa) ops.size (Array.replicate ops.size false) ρ _ (by simp) (by unfold left; exact Nat.le_trans (List.length_filter_le _ _) (by simp)) (fun j oj _ hX => by rw [hX0] at hX; cases hX) (fun j _ => hnb j) I
  rw [ha, e1] at this
  exact this

theorem drawPanic_run {rec : Rec} (hmix : P.follows .mixedOrders = true) (hrec : Sound P rec) {ops : Array Oper} {id : Nat} (hst : staticOk ops = true) {a a1 : AAct} {e : Exit} {H1 : AHeap} (h : drawPanic P rec ops a H = some (e, a1, H1)) (r : Rel P ρ H w) (hs : scA H.next a)
    {F : Fence} {n : Nat} {Q : Exit → Act → World → Prop} (hF : WideF F) (hQ : ∀ ρ1 w1, St P ρ H w ρ1 H1 w1 → scA H1.next a1 → scX H1.next e → Q (ρ1.exit e) (ρ1.act a1) w1) : (Code.region id ops true).wpIn F n P Q (ρ.act a) w := by
  unfold drawPanic at h
  split at h
  · rename_i o a2 H2 hlast hrun
    split at h
    · rename_i hanc
      split at h
      · rename_i ch H3 hwant hop
        simp only [Option.some.injEq, Prod.mk.injEq] at h
        obtain ⟨rfl, rfl, rfl⟩ := h
        have hsplit : ops.toList = ops.toList.dropLast ++ [o] := by
          obtain ⟨ys, hys⟩ := List.getLast?_eq_some_iff.1 hlast
          rw [hys, List.dropLast_concat]
        obtain ⟨D0, A0, HH0, e1, e2, e3, e4, f1, f2, _, hnb⟩ := runDraw_text hrec ops.toList.dropLast 0 [] a H a2 H2 ⟨[o], by simpa using hsplit⟩ hrun
        have hsz : ops.size = ops.toList.dropLast.length + 1 := by
          rw [← Array.length_toList]
          conv => lhs; rw [hsplit]
          simp
        obtain ⟨m, hm⟩ : ∃ m, ops.toList.dropLast.length = m := ⟨_, rfl⟩
        rw [hm] at hsz e3 e4 f1 f2
        simp only [Nat.zero_add] at e3 e4 f1 f2
        have hom : ops[m]? = some o := by
          rw [← Array.getElem?_toList, hsplit, List.getElem?_append_right (by omega), hm]
          simp
        have hD : ∀ i, i ≠ m → (fun i => if i = m then (⟨false, undef, [], H2, true⟩ : OpD) else D0 i) i = D0 i := fun i h => if_neg h
        obtain ⟨D, hDe⟩ : ∃ D : Nat → OpD, D = fun i => if i = m then ⟨false, undef, [], H2, true⟩ else D0 i := ⟨_, rfl⟩
        obtain ⟨A, hAe⟩ : ∃ A : Nat → AAct, A = fun i => if i = m + 1 then a2.put o.dst undef else A0 i := ⟨_, rfl⟩
        obtain ⟨HH, hHe⟩ : ∃ HH : Nat → AHeap, HH = fun i => if i = m + 1 then H2 else HH0 i := ⟨_, rfl⟩
        have dm : D m = ⟨false, undef, [], H2, true⟩ := by rw [hDe]; simp
        have dn : ∀ i, i ≠ m → D i = D0 i := fun i h => by rw [hDe]; simp [h]
        have am : A (m + 1) = a2.put o.dst undef := by rw [hAe]; simp
        have an : ∀ i, i ≠ m + 1 → A i = A0 i := fun i h => by rw [hAe]; simp [h]
        have xm : HH (m + 1) = H2 := by rw [hHe]; simp
        have xn : ∀ i, i ≠ m + 1 → HH i = HH0 i := fun i h => by rw [hHe]; simp [h]
        clear hD hDe hAe hHe
        have am0 : A m = a2 := by rw [an m (by omega)]; exact e3
        have xm0 : HH m = H2 := by rw [xn m (by omega)]; exact e4
        have a00 : A 0 = a := by rw [an 0 (by omega)]; exact e1
        have x00 : HH 0 = H := by rw [xn 0 (by omega)]; exact e2
        have hfact : ∀ i, i < ops.size → OpFact P ops D A HH i := fun i hi => by
          by_cases e : i = m
          · subst e
            exact ⟨o, hom, by rw [am, am0, dm], fun h => (by rw [dm] at h; cases h), fun h => (by rw [dm] at h; cases h), fun _ => ⟨by rw [dm], by rw [xm, xm0]⟩⟩
          · obtain ⟨o', g1, g2, g3, g4, g5⟩ := f1 i (Nat.zero_le _) (by omega)
            refine ⟨o', g1, ?_, ?_, ?_, ?_⟩
            · rw [an _ (by omega), an _ (by omega), dn i e]; exact g2
            · rw [an _ (by omega), dn i e]; exact g3
            · rw [an _ (by omega), dn i e, xn _ (by omega), xn _ (by omega)]; exact g4
            · rw [dn i e, xn _ (by omega), xn _ (by omega)]; exact g5
        have hex := text_ex r (ops := ops) (D := D) (A := A) (HH := HH) (m := ops.size) x00 (by rw [a00]; exact hs) hfact
        have T : Txt P ops D A HH ρ w := by
          refine ⟨by rw [x00]; exact r, by rw [x00, a00]; exact hs, hfact, fun i j hij hj hi => ?_, fun j oj hoj => static_spec ops.toList 0 (by simp) hst j oj (Nat.zero_le _) hoj, ?_⟩
          · by_cases e : j = m
            · intro h; rw [e, dm] at h; cases h
            · have := f2 i j (Nat.zero_le _) hij (by omega) (by rw [← dn i (by omega)]; exact hi)
              simp only [PairFact, fpAt, dn j e, dn i (by omega), xn i (by omega), xn j (by omega)] at this ⊢
              exact this
          · rw [x00]; exact hex
        obtain ⟨ρm, wm, hstm, hsa⟩ := hex m (by omega)
        rw [am0, xm0] at hsa
        have hsx : HH ops.size = H2 := by rw [hsz, xm]
        refine wpIn_region_any hmix ?_
        have hX0 : ∀ j, listedX (Array.replicate ops.size false) j = false := fun j => by
          unfold listedX
          rw [Array.getD_eq_getD_getElem?, Array.getElem?_replicate]
          split <;> rfl
        obtain ⟨I, ha⟩ := inv_start (w := { w with drawn := w.drawn + 1 }) T hX0 rfl rfl rfl rfl
        have hbm : ∀ i, (D i).bad = true → i = m := fun i h => by
          by_cases e : i = m
          · exact e
          · rw [dn i e, hnb] at h; cases h
        have := any_run T (n := n) hF (Q := Q) (fun i hi h j hj hne => ?_) (fun i o' ho' h X X' ρ1 w1 hX r' I => ?_) (fun hall => by have := hall m (by omega); rw [dm] at this; cases this) ops.size (Array.replicate ops.size false) ρ _ (by simp) (by unfold left; exact Nat.le_trans (List.length_filter_le _ _) (by simp)) (fun j oj _ hX => by rw [hX0] at hX; cases hX) (fun j hj => by rw [hX0] at hj; cases hj) I
        · rw [ha, a00] at this
          exact this
        · obtain rfl := hbm i h
          have := List.all_eq_true.1 hanc j (List.mem_range.2 (by omega))
          rw [show ops.size - 1 = i by omega] at this
          exact this
        · obtain rfl := hbm i h
          rw [hom] at ho'
          obtain rfl := Option.some.inj ho'
          obtain ⟨I', _⟩ := r'.off T (by rw [dm]) I
          obtain ⟨hst1, _⟩ := inv_end T (fun j hj => by
            by_cases e : j = i
            · rw [e]; exact r'.now
            · rw [r'.rest j e]; exact hX j hj e) I'
          rw [x00, hsx] at hst1
          have hact : ρ1.act (ax ops D (A 0) X ops.size) = ρ1.act a2 := by
            rw [← am0]
            obtain ⟨q1, q2⟩ := ax_n (ops := ops) (D := D) (a := A 0) (X := X) ops.size
            obtain ⟨z1, z2⟩ := T.env_n (k := i) (by omega)
            refine act_same _ _ (by rw [q1, z1]) (by rw [q2, z2]) (fun t ht => ?_)
            rw [z1] at ht
            rw [ax_congr (Y := fun j => decide (j < i)) ht ops.size (fun j hj _ => ?_), ax_upto ht ops.size (by omega), T.ax_all i (by omega)]
            by_cases e : j = i
            · rw [e, r'.not]; simp
            · rw [hX j hj e]; exact (decide_eq_true (by omega)).symm
          rw [hact]
          refine ⟨want_run ρ1 hwant, fun K => opF_opS hrec hop ρ1 w1 hst1.rel hsa (ρ1.act a2) (fun _ _ => rfl) F n K Q hF (fun ρ2 w2 hst2 hp => ?_)⟩
          have := hQ ρ2 w2 (hst1.trans hst2) (hsa.mono hst2.le.next) hp
          rw [act_ext hst2.ext hsa] at this
          exact this
      · cases h
    · cases h
  · cases h

theorem rangeG_run {rec : Rec} (hrec : Sound P rec) {ro : Option Nat} {g : Operand} {fv : Value} {ps : Array Tmp} {assign body : Code} {a a1 : AAct} {e : Exit} {H1 : AHeap} (hg : aeval P a g = some fv)
    (h : rangeG P rec ro fv ps assign body a H = some (e, a1, H1)) (r : Rel P ρ H w) (hs : scA H.next a) (hro : ∀ l, ro = some l → l < H.next)
    {F : Fence} {n : Nat} {Q : Exit → Act → World → Prop} (hF : WideF F) (hFr : F.round = ro.map ρ.blk) (hQ : ∀ ρ1 w1, St P ρ H w ρ1 H1 w1 → scA H1.next a1 → scX H1.next e → Q (ρ1.exit e) (ρ1.act a1) w1) :
    (Code.rangeFunc g ps assign body).wpIn F n P Q (ρ.act a) w := by
  unfold rangeG at h
  split at h
  · rename_i fn first captured
    simp only [Option.bind_eq_bind, Option.bind_eq_some_iff] at h
    obtain ⟨⟨l, mark, H2⟩, hen, res, hres, h⟩ := h
    simp only at hres h
    split at h
    · rename_i f args
      simp only [Option.bind_eq_some_iff] at h
      obtain ⟨⟨out, H3⟩, hcall, haft⟩ := h
      refine wpIn_rangeFunc (fun fnid _ => ?_)
      obtain ⟨ρ1, w1, s1, hrun, hl, hmk⟩ := enterLoop_run r hro hs.1 hen fnid
      obtain ⟨ρ2, w2, s2, hinv⟩ := aInvoke_run s1.rel hres
      have hfsc := aeval_sc r.glob.1 hs hg
      have hf2 := func_sc (scb_mono s1.le.next _ hfsc)
      have hsargs : scbL H2.next args = true := aInvoke_sc s1.rel.doms hf2.1 (scbL_append hf2.2.1 (by simp only [scbL, scb, scbA, Bool.and_true]; exact blt_of hl)) hf2.2.2 hres
      have hfv : (ρ.act a).eval g = ρ1.val (.func fn first captured) := by rw [aeval_run r hg, val_ext s1.ext _ hfsc]
      have e1 : ρ1.val (.func fn first captured) = .func (ρ1.fn fn) (first.map ρ1.val) (captured.map ρ1.val) := by rw [Ren.val, Ren.valA_eq, Ren.valA_eq]
      have e2 : first.map ρ1.val ++ #[(.func (.yield (ρ1.blk l)) #[] #[] : Value)] = ((first.toList ++ [(.func (.yield l) #[] #[] : Value)]).map ρ1.val).toArray := by
        apply Array.ext'
        simp [Ren.val, Ren.fn, Ren.valA, Ren.valL]
      have e3 : captured.map ρ1.val = (captured.toList.map ρ1.val).toArray := by apply Array.ext'; simp
      simp only [NRun] at hinv
      have hs1 : scA H2.next a := hs.mono s1.le.next
      have hs2 : scA H2.next { a with defers := mark ++ a.defers } := ⟨hs1.1, fun d hd => by
        rcases List.mem_append.1 hd with hd | hd
        · exact hmk d hd
        · exact hs1.2 d hd⟩
      have hsame : ({ ρ.act a with defers := mark.map ρ1.dfr ++ (ρ.act a).defers } : Act) = ρ1.act { a with defers := mark ++ a.defers } := by
        have h1 := act_ext s1.ext hs
        have h2 : (ρ.act a).tmps = ρ1.tmps a.env := by rw [← h1]; rfl
        have h3 : (ρ.act a).defers = a.defers.map ρ1.dfr := by rw [← h1]; rfl
        show (⟨(ρ.act a).tmps, mark.map ρ1.dfr ++ (ρ.act a).defers⟩ : Act) = ⟨ρ1.tmps a.env, (mark ++ a.defers).map ρ1.dfr⟩
        rw [h2, h3, List.map_append]
      refine ⟨ρ1.blk l, mark.map ρ1.dfr, w1, { target := .fn (ρ1.fn fn) (captured.map ρ1.val), args := first.map ρ1.val ++ #[(.func (.yield (ρ1.blk l)) #[] #[] : Value)] }, w1, f, _, w2, ?_, ?_, fun f' _ => hF.fn f', ?_, hF.deep, callF_run hrec s2.rel hcall hsargs hF ?_⟩
      · rw [hFr]; exact hrun
      · simp only [resolve, rangeCall, hfv, e1]
        simp [Act.eval, Deferred.ofValue]
      · simp only [e2, e3]; exact hinv
      · intro ρ3 w3 s3
        have hn2 : H2.next ≤ H3.next := (s2.trans s3).le.next
        have hl3 : l < H3.next := by omega
        have hlb : ρ3.blk l = ρ1.blk l := ((s2.trans s3).ext.blk l hl)
        have hs3 : scA H3.next { a with defers := mark ++ a.defers } := hs2.mono hn2
        have hact3 : ρ3.act { a with defers := mark ++ a.defers } = ρ1.act { a with defers := mark ++ a.defers } := act_ext (s2.trans s3).ext hs2
        have stot := (s1.trans s2).trans s3
        cases out with
        | ok v =>
          simp only [afterRange, Option.bind_eq_bind, Option.bind_eq_some_iff] at haft
          obtain ⟨⟨lp, le⟩, hlp, haft⟩ := haft
          simp only at haft
          have hnb : lp.state ≠ .busy := by intro hb; rw [hb] at haft; cases haft
          obtain ⟨fn3, hgl, w4, hset, s4⟩ := setLoop_run s3.rel (lp' := { lp with state := .exhausted }) hlp rfl
          rw [hlb] at hgl hset
          have hn4 : (setLoop H3 l { lp with state := .exhausted } le).next = H3.next := rfl
          have hendl : (Instr.endLoop (ρ1.blk l)).run P w3 = .ok lp.pending w4 := by
            have hb : (lp.state == .busy) = false := by simpa using hnb
            simp only [Instr.endLoop, Sem.run_bind, hgl, Result.andThen_ok, hb, Bool.false_eq_true, if_false]
            rw [show ({ ({ lp with fn := fn3, tmps := ρ3.tmps le, defers := ρ3.blk lp.defers } : Loop) with state := .exhausted } : Loop) =
              { ({ lp with state := .exhausted } : Loop) with fn := fn3, tmps := ρ3.tmps le, defers := ρ3.blk lp.defers } from rfl, hset]
            simp
          intro _
          refine ⟨lp.pending, w4, hendl, ?_⟩
          rw [hsame, ← hact3]
          have hcase : (match lp.pending with
              | none => some (Exit.normal, ({ a with defers := mark ++ a.defers } : AAct), setLoop H3 l { lp with state := .exhausted } le)
              | some c => rec.run ro c { a with defers := mark ++ a.defers } (setLoop H3 l { lp with state := .exhausted } le)) = some (e, a1, H1) := by
            cases hst : lp.state with
            | busy => exact absurd hst hnb
            | ready => rw [hst] at haft; exact haft
            | done => rw [hst] at haft; exact haft
            | exhausted => rw [hst] at haft; exact haft
          generalize setLoop H3 l { lp with state := .exhausted } le = H4 at s4 hn4 hcase
          split
          · rename_i hp
            rw [hp] at hcase
            simp only [Option.some.injEq, Prod.mk.injEq] at hcase
            obtain ⟨rfl, rfl, rfl⟩ := hcase
            exact hQ ρ3 w4 (stot.trans s4) (hs3.mono (Nat.le_of_eq hn4.symm)) trivial
          · rename_i c hp
            rw [hp] at hcase
            have hro4 : ∀ l0, ro = some l0 → l0 < H4.next := fun l0 h0 => by
              rw [hn4]; exact Nat.lt_of_lt_of_le (hro l0 h0) stot.le.next
            have hFr4 : F.round = ro.map ρ3.blk := by
              rw [hFr]
              cases ro with
              | none => rfl
              | some l0 => simp only [Option.map_some]; rw [stot.ext.blk l0 (hro l0 rfl)]
            refine hrec.run ro c _ _ e a1 H1 hcase ρ3 w4 F n Q hF hFr4 hro4 s4.rel (hs3.mono (Nat.le_of_eq hn4.symm)) ?_
            intro ρ5 w5 s5 h1 h2
            exact hQ ρ5 w5 ((stot.trans s4).trans s5) h1 h2
        | error ch =>
          intro hch
          simp only [afterRange, Option.some.injEq, Prod.mk.injEq] at haft
          obtain ⟨rfl, rfl, rfl⟩ := haft
          show Q (.panic (ch.map ρ3.pe)) _ w3
          rw [hsame, ← hact3]
          exact hQ ρ3 w3 stot hs3 hch
    · cases h
  · cases h

theorem stepR_scope {b : Frame} {a : Act} {k : List Item} {cs : List Frame} {c : Code} : Go.step P (lone (b.atR a (.code (.scope c) :: k)) cs w) = .next (lone (b.atR a (.code c :: .inScope c :: k)) cs w) :=
  step_lone_go (by simp [stepG, stepG.exec, Frame.atR])
theorem stepR_inScope {b : Frame} {a : Act} {k : List Item} {cs : List Frame} {c : Code} : Go.step P (lone (b.atR a (.inScope c :: k)) cs w) = .next (lone (b.atR a k) cs w) :=
  step_lone_go (by simp [stepG, stepG.exec, Frame.atR])

theorem wpIn_scope {F : Fence} {n : Nat} {Q : Exit → Act → World → Prop} {a : Act} {c : Code} (h : c.wpIn F n P (Exit.noGoto Q) a w) : (Code.scope c).wpIn F n P Q a w := by
  intro b k cs hro hb hr
  have h0 : (lone (b.atR a (.code (.scope c) :: k)) cs w).fenced P F := fenced_calm hb hr rfl
  obtain ⟨e, a₁, w₁, hq, harr⟩ := h b (.inScope c :: k) cs hro hb hr
  cases e with
  | normal => exact ⟨.normal, a₁, w₁, hq, .head h0 stepR_scope (StepsIn.trans harr (.one (fenced_calm hb hr rfl) stepR_inScope))⟩
  | exit id =>
    have hx : exitTo id (.inScope c :: k) = exitTo id k := by simp [exitTo]
    exact ⟨.exit id, a₁, w₁, hq, fun k' hk => .head h0 stepR_scope (harr.1 k' (by rw [hx]; exact hk)),
        fun hr' hk => let ⟨k₁, h1, h2⟩ := harr.2 hr' (by rw [hx]; exact hk); ⟨k₁, h1, .head h0 stepR_scope h2⟩⟩
  | goto l => exact hq.elim
  | ret => exact ⟨_, a₁, w₁, hq, .of_steps (.one h0 stepR_scope) harr⟩
  | panic ch => exact ⟨_, a₁, w₁, hq, .of_steps (.one h0 stepR_scope) harr⟩
  | outgrown => exact ⟨_, a₁, w₁, hq, .of_steps (.one h0 stepR_scope) harr⟩

def LoopSound (P : Program) (rec : Rec) (m : Nat) : Prop :=
  ∀ (ro : Option Nat) (b : Code) (a : AAct) (H : AHeap) (e : Exit) (a1 : AAct) (H1 : AHeap), rec.run ro (.loop b) a H = some (e, a1, H1) →
    ∀ (ρ : Ren) (w : World) (F : Fence) (n : Nat) (Q : Exit → Act → World → Prop), WideF F → F.round = ro.map ρ.blk → (∀ l, ro = some l → l < H.next) → Rel P ρ H w → scA H.next a →
      (∀ ρ1 w1, St P ρ H w ρ1 H1 w1 → scA H1.next a1 → scX H1.next e → Q (ρ1.exit e) (ρ1.act a1) w1) → Code.roundsIn F n P b Q m (ρ.act a) w

theorem loop_sound {rec : Rec} (hrec : Sound P rec) {m : Nat} (hl : LoopSound P rec m) : LoopSound P ⟨fun ro c a H => step c P rec ro a H, rec.know⟩ (m + 1) := by
  intro ro b a H e a1 H1 h ρ w F n Q hF hFr hro r hs hQ
  simp only [step, stLoop] at h
  rw [roundsIn_succ]
  split at h
  · rename_i a2 H2 hx
    refine hrec.run ro b a H .normal a2 H2 hx ρ w F n _ hF hFr hro r hs ?_
    intro ρ1 w1 s1 h1 _
    have hFr1 : F.round = ro.map ρ1.blk := by
      rw [hFr]
      cases ro with
      | none => rfl
      | some l0 => simp only [Option.map_some]; rw [s1.ext.blk l0 (hro l0 rfl)]
    refine hl ro b a2 H2 e a1 H1 h ρ1 w1 F n Q hF hFr1 (fun l hl => Nat.lt_of_lt_of_le (hro l hl) s1.le.next) s1.rel h1 ?_
    intro ρ2 w2 s2 h2 h3
    exact hQ ρ2 w2 (s1.trans s2) h2 h3
  · rename_i hne
    refine hrec.run ro b a H e a1 H1 h ρ w F n _ hF hFr hro r hs ?_
    intro ρ1 w1 s1 h1 h2
    have := hQ ρ1 w1 s1 h1 h2
    cases e with
    | normal => exact absurd h (hne a1 H1)
    | _ => exact this

theorem step_sound (hmix : P.follows .mixedOrders = true) {rec : Rec} (hrec : Sound P rec) {m : Nat} (hl : LoopSound P rec m) : Sound P ⟨fun ro c a H => step c P rec ro a H, rec.know⟩ := by
  refine ⟨?_, hrec.know⟩
  intro ro c a H e a1 H1 h ρ w F n Q hF hFr hro r hs hQ
  simp only at h
  cases c with
  | skip =>
    simp only [step, stEnd, Option.some.injEq, Prod.mk.injEq] at h
    obtain ⟨rfl, rfl, rfl⟩ := h
    exact wpIn_skip (hQ ρ w (St.refl r) hs trivial)
  | label l =>
    simp only [step, stEnd, Option.some.injEq, Prod.mk.injEq] at h
    obtain ⟨rfl, rfl, rfl⟩ := h
    exact wpIn_label (hQ ρ w (St.refl r) hs trivial)
  | exit id =>
    simp only [step, stEnd, Option.some.injEq, Prod.mk.injEq] at h
    obtain ⟨rfl, rfl, rfl⟩ := h
    exact wpIn_exit (hQ ρ w (St.refl r) hs trivial)
  | goto l =>
    simp only [step, stEnd, Option.some.injEq, Prod.mk.injEq] at h
    obtain ⟨rfl, rfl, rfl⟩ := h
    exact wpIn_goto (hQ ρ w (St.refl r) hs trivial)
  | ret =>
    simp only [step, stEnd, Option.some.injEq, Prod.mk.injEq] at h
    obtain ⟨rfl, rfl, rfl⟩ := h
    exact wpIn_ret (hQ ρ w (St.refl r) hs trivial)
  | seq x y =>
    simp only [step, stSeq] at h
    refine wpIn_seq ?_
    split at h
    · rename_i a2 H2 hx
      refine hrec.run ro x a H .normal a2 H2 hx ρ w F n _ hF hFr hro r hs ?_
      intro ρ1 w1 s1 h1 _
      have hFr1 : F.round = ro.map ρ1.blk := by
        rw [hFr]
        cases ro with
        | none => rfl
        | some l0 => simp only [Option.map_some]; rw [s1.ext.blk l0 (hro l0 rfl)]
      refine hrec.run ro y a2 H2 e a1 H1 h ρ1 w1 F n Q hF hFr1 (fun l hl => Nat.lt_of_lt_of_le (hro l hl) s1.le.next) s1.rel h1 ?_
      intro ρ2 w2 s2 h2 h3
      exact hQ ρ2 w2 (s1.trans s2) h2 h3
    · rename_i hne
      refine hrec.run ro x a H e a1 H1 h ρ w F n _ hF hFr hro r hs ?_
      intro ρ1 w1 s1 h1 h2
      have := hQ ρ1 w1 s1 h1 h2
      cases e with
      | normal => exact absurd h (hne a1 H1)
      | _ => exact this
  | cond c x y =>
    simp only [step, stCond] at h
    split at h
    · rename_i hc
      refine wpIn_cond_true (by rw [aeval_run r hc]; simp [Ren.val]) ?_
      exact hrec.run ro x a H e a1 H1 h ρ w F n Q hF hFr hro r hs hQ
    · rename_i hc
      refine wpIn_cond_false (by rw [aeval_run r hc]; simp [Ren.val]) ?_
      exact hrec.run ro y a H e a1 H1 h ρ w F n Q hF hFr hro r hs hQ
    · cases h
  | block id b =>
    simp only [step, stBlock] at h
    refine wpIn_block ?_
    split at h
    · rename_i k a2 H2 hb
      refine hrec.run ro b a H (.exit k) a2 H2 hb ρ w F n _ hF hFr hro r hs ?_
      intro ρ1 w1 s1 h1 _
      simp only [Ren.exit, Exit.inBlock]
      split at h
      · rename_i hk
        simp only [Option.some.injEq, Prod.mk.injEq] at h
        obtain ⟨rfl, rfl, rfl⟩ := h
        rw [if_pos hk]; exact hQ ρ1 w1 s1 h1 trivial
      · rename_i hk
        simp only [Option.some.injEq, Prod.mk.injEq] at h
        obtain ⟨rfl, rfl, rfl⟩ := h
        rw [if_neg hk]; exact hQ ρ1 w1 s1 h1 trivial
    · rename_i hne
      refine hrec.run ro b a H e a1 H1 h ρ w F n _ hF hFr hro r hs ?_
      intro ρ1 w1 s1 h1 h2
      have := hQ ρ1 w1 s1 h1 h2
      cases e with
      | exit k => exact absurd h (hne k a1 H1)
      | _ => exact this
  | loop b =>
    exact wpIn_loop_rounds (m + 1) (loop_sound hrec hl ro b a H e a1 H1 h ρ w F n Q hF hFr hro r hs hQ)
  | region id ops draw =>
    simp only [step, stRegion] at h
    cases draw with
    | true =>
      simp only at h
      split at h
      · rename_i hst
        split at h
        · rename_i q hrun
          simp only [Option.some.injEq, Prod.mk.injEq] at h
          obtain ⟨rfl, rfl, rfl⟩ := h
          exact runDraw_run hmix hrec hst hrun r hs hF (fun ρ1 w1 s1 h1 => hQ ρ1 w1 s1 h1 trivial)
        · exact drawPanic_run hmix hrec hst h r hs hF hQ
      · cases h
    | false =>
      simp only at h
      refine wpIn_region ?_
      rw [List.range_eq_range']
      have := runSeq_run hrec (n := n) (Q := Q) hF (fun ht => by rw [hFr]; cases ro with | none => rfl | some l => cases ht) ops.toList 0 ρ H w a e a1 H1 (by simp) h r hs hQ
      simpa using this
  | rangeFunc f ps assign body =>
    simp only [step, stRange, Option.bind_eq_bind, Option.bind_eq_some_iff] at h
    obtain ⟨fv, hfv, h⟩ := h
    exact rangeG_run hrec hfv h r hs hro hF hFr hQ
  | scope b =>
    simp only [step, stScope] at h
    refine wpIn_scope ?_
    split at h
    · cases h
    · rename_i hne
      refine hrec.run ro b a H e a1 H1 h ρ w F n _ hF hFr hro r hs ?_
      intro ρ1 w1 s1 h1 h2
      have := hQ ρ1 w1 s1 h1 h2
      cases e with
      | goto k => exact absurd h (hne k a1 H1)
      | _ => exact this
  | refuse s => simp [step, stNone] at h

def Known (P : Program) (K : FuncId → List Value → AHeap → Option Value) : Prop :=
  ∀ (f : FuncId) (args : List Value) (v : Value) (H : AHeap), K f args H = some v → af v = true ∧
    ∀ (ρ : Ren) (F : Fence) (n : Nat) (w : World), Rel P ρ H w → scbL H.next args = true → WideF F → CallsIn F n P f (args.map ρ.val).toArray w (fun e w' => e = .returned v ∧ RowKit.Below w.heap.size w w')

theorem exec_sound (hmix : P.follows .mixedOrders = true) {K : FuncId → List Value → AHeap → Option Value} (hK : Known P K) : ∀ fuel, Sound P (exec P K fuel) ∧ LoopSound P (exec P K fuel) fuel
  | 0 => ⟨⟨fun ro c a H e a1 H1 h => by simp [exec] at h, hK⟩, fun ro b a H e a1 H1 h => by simp [exec] at h⟩
  | n + 1 => by
    obtain ⟨i1, i2⟩ := exec_sound hmix hK n
    have hk : (exec P K n).know = K := by cases n <;> rfl
    have h1 := step_sound hmix i1 i2
    have h2 := loop_sound i1 i2
    rw [hk] at h1 h2
    exact ⟨h1, h2⟩

end
end Go.Ax

/- Walks over abstract heaps: what a piece of code comes to, for values and heaps that are not all known. -/
namespace Go.Ax
section
variable {P : Program} {ro : Option Nat} {a a1 a2 : AAct} {H H1 H2 : AHeap} {e : Exit}

theorem Runs.skip : Runs P ro .skip a H .normal a H := fun ρ w _ _ _ _ _ _ r hs hQ => wpIn_skip (hQ ρ w (St.refl r) hs trivial)
theorem Runs.label {l : Nat} : Runs P ro (.label l) a H .normal a H := fun ρ w _ _ _ _ _ _ r hs hQ => wpIn_label (hQ ρ w (St.refl r) hs trivial)
theorem Runs.exit {id : Nat} : Runs P ro (.exit id) a H (.exit id) a H := fun ρ w _ _ _ _ _ _ r hs hQ => wpIn_exit (hQ ρ w (St.refl r) hs trivial)
theorem Runs.goto {l : Nat} : Runs P ro (.goto l) a H (.goto l) a H := fun ρ w _ _ _ _ _ _ r hs hQ => wpIn_goto (hQ ρ w (St.refl r) hs trivial)
theorem Runs.ret : Runs P ro .ret a H .ret a H := fun ρ w _ _ _ _ _ _ r hs hQ => wpIn_ret (hQ ρ w (St.refl r) hs trivial)

theorem round_ext {F : Fence} {ρ ρ1 : Ren} {w w1 : World} (hFr : F.round = ro.map ρ.blk) (hro : ∀ l, ro = some l → l < H.next) (s : St P ρ H w ρ1 H1 w1) : F.round = ro.map ρ1.blk := by
  rw [hFr]
  cases ro with
  | none => rfl
  | some l0 => simp only [Option.map_some]; rw [s.ext.blk l0 (hro l0 rfl)]

theorem Runs.seq {x y : Code} (h1 : Runs P ro x a H .normal a2 H2) (h2 : Runs P ro y a2 H2 e a1 H1) : Runs P ro (.seq x y) a H e a1 H1 := by
  intro ρ w F n Q hF hFr hro r hs hQ
  refine wpIn_seq (h1 ρ w F n _ hF hFr hro r hs ?_)
  intro ρ1 w1 s1 k1 _
  refine h2 ρ1 w1 F n Q hF (round_ext hFr hro s1) (fun l hl => Nat.lt_of_lt_of_le (hro l hl) s1.le.next) s1.rel k1 ?_
  intro ρ2 w2 s2 k2 k3
  exact hQ ρ2 w2 (s1.trans s2) k2 k3

theorem Runs.seq_out {x y : Code} (h1 : Runs P ro x a H e a1 H1) (hne : e ≠ .normal) : Runs P ro (.seq x y) a H e a1 H1 := by
  intro ρ w F n Q hF hFr hro r hs hQ
  refine wpIn_seq (h1 ρ w F n _ hF hFr hro r hs ?_)
  intro ρ1 w1 s1 k1 k2
  have := hQ ρ1 w1 s1 k1 k2
  cases e with
  | normal => exact absurd rfl hne
  | _ => exact this

theorem Runs.cond {c : Operand} {x y : Code} {b : Bool} (hc : aeval P a c = some (.bool b)) (h : Runs P ro (if b then x else y) a H e a1 H1) : Runs P ro (.cond c x y) a H e a1 H1 := by
  intro ρ w F n Q hF hFr hro r hs hQ
  cases b with
  | true => exact wpIn_cond_true (by rw [aeval_run r hc]; simp [Ren.val]) (h ρ w F n Q hF hFr hro r hs hQ)
  | false => exact wpIn_cond_false (by rw [aeval_run r hc]; simp [Ren.val]) (h ρ w F n Q hF hFr hro r hs hQ)

def outB (id : Nat) : Exit → Exit
  | .exit k => if k = id then .normal else .exit k
  | e => e

theorem Runs.block {id : Nat} {b : Code} (h : Runs P ro b a H e a1 H1) : Runs P ro (.block id b) a H (outB id e) a1 H1 := by
  intro ρ w F n Q hF hFr hro r hs hQ
  refine wpIn_block (h ρ w F n _ hF hFr hro r hs ?_)
  intro ρ1 w1 s1 k1 k2
  cases e with
  | exit k =>
    simp only [Ren.exit, Exit.inBlock]
    by_cases hk : k = id
    · rw [if_pos hk]
      have := hQ ρ1 w1 s1 k1 (by simp [outB, hk, scX])
      simpa [outB, hk, Ren.exit] using this
    · rw [if_neg hk]
      have := hQ ρ1 w1 s1 k1 (by simp [outB, hk, scX])
      simpa [outB, hk, Ren.exit] using this
  | _ => exact hQ ρ1 w1 s1 k1 k2

theorem Runs.scope {b : Code} (h : Runs P ro b a H e a1 H1) (hne : ∀ l, e ≠ .goto l) : Runs P ro (.scope b) a H e a1 H1 := by
  intro ρ w F n Q hF hFr hro r hs hQ
  refine wpIn_scope (h ρ w F n _ hF hFr hro r hs ?_)
  intro ρ1 w1 s1 k1 k2
  have := hQ ρ1 w1 s1 k1 k2
  cases e with
  | goto l => exact absurd rfl (hne l)
  | _ => exact this

def RoundsR (P : Program) (ro : Option Nat) (b : Code) (m : Nat) (a : AAct) (H : AHeap) (e : Exit) (a1 : AAct) (H1 : AHeap) : Prop :=
  ∀ (ρ : Ren) (w : World) (F : Fence) (n : Nat) (Q : Exit → Act → World → Prop), WideF F → F.round = ro.map ρ.blk → (∀ l, ro = some l → l < H.next) → Rel P ρ H w → scA H.next a →
    (∀ ρ1 w1, St P ρ H w ρ1 H1 w1 → scA H1.next a1 → scX H1.next e → Q (ρ1.exit e) (ρ1.act a1) w1) → Code.roundsIn F n P b Q m (ρ.act a) w

theorem RoundsR.next {b : Code} {m : Nat} (h1 : Runs P ro b a H .normal a2 H2) (h2 : RoundsR P ro b m a2 H2 e a1 H1) : RoundsR P ro b (m + 1) a H e a1 H1 := by
  intro ρ w F n Q hF hFr hro r hs hQ
  rw [roundsIn_succ]
  refine h1 ρ w F n _ hF hFr hro r hs ?_
  intro ρ1 w1 s1 k1 _
  refine h2 ρ1 w1 F n Q hF (round_ext hFr hro s1) (fun l hl => Nat.lt_of_lt_of_le (hro l hl) s1.le.next) s1.rel k1 ?_
  intro ρ2 w2 s2 k2 k3
  exact hQ ρ2 w2 (s1.trans s2) k2 k3

theorem RoundsR.last {b : Code} {m : Nat} (h1 : Runs P ro b a H e a1 H1) (hne : e ≠ .normal) : RoundsR P ro b (m + 1) a H e a1 H1 := by
  intro ρ w F n Q hF hFr hro r hs hQ
  rw [roundsIn_succ]
  refine h1 ρ w F n _ hF hFr hro r hs ?_
  intro ρ1 w1 s1 k1 k2
  have := hQ ρ1 w1 s1 k1 k2
  cases e with
  | normal => exact absurd rfl hne
  | _ => exact this

theorem Runs.loop {b : Code} {m : Nat} (h : RoundsR P ro b m a H e a1 H1) : Runs P ro (.loop b) a H e a1 H1 :=
  fun ρ w F n Q hF hFr hro r hs hQ => wpIn_loop_rounds m (h ρ w F n Q hF hFr hro r hs hQ)

def NextS (P : Program) (x : ANext) (H : AHeap) (out : Out) (H1 : AHeap) : Prop :=
  match x with
  | .value v => out = .ok v ∧ H1 = H
  | .skip => out = .ok undef ∧ H1 = H
  | .enter f args => CallS P f args H out H1
  | .round r => RoundS P r H out H1
  | .panic v => out = .error [{ v, recovered := false }] ∧ H1 = H

theorem opS_of {o : Oper} {x : ANext} {g : AHeap} {out : Out} (hx : aop o.op P a H = some (x, g)) (h : NextS P x g out H1) : OpS P a H o out H1 := by
  intro ρ w r hs ca hca F n K Q hF hR
  have hsn := aop_sc r.glob.1 r.doms hs hx
  obtain ⟨⟨ρ1, w1, hst, hrun⟩, hnd⟩ := aop_run r hx
  refine ⟨fun f _ => hF.fn f, ?_⟩
  have hsel : ∀ cs b, o.op ≠ .select cs b := fun cs b e => by rw [e] at hx; simp [aop, xNone] at hx
  rw [Oper.semAt_eq _ _ _ hnd, execOp_congr o hsel hca]
  cases x with
  | value v =>
    obtain ⟨rfl, rfl⟩ := h
    simp only [NRun] at hrun
    rw [hrun, Oper.uponIn_value]
    exact hR ρ1 w1 hst hsn
  | skip =>
    obtain ⟨rfl, rfl⟩ := h
    simp only [NRun] at hrun
    rw [hrun, Oper.uponIn_skip]
    have := hR ρ1 w1 hst (scb_undef _)
    simpa using this
  | enter f args =>
    simp only [NRun] at hrun
    rw [hrun, Oper.uponIn_enter]
    refine ⟨hF.deep, h ρ1 w1 hst.rel hsn F (n - 1) _ hF ?_⟩
    intro ρ2 w2 hst2
    cases out with
    | ok v => exact hR ρ2 w2 (hst.trans hst2)
    | error ch => exact hR ρ2 w2 (hst.trans hst2)
  | round rd =>
    simp only [NRun] at hrun
    obtain ⟨fn, hrun⟩ := hrun
    rw [hrun, Oper.uponIn_round]
    refine ⟨hF.deep, h ρ1 w1 hst.rel hsn.1 hsn.2 F (n - 1) fn _ hF ?_⟩
    intro ρ2 w2 hst2
    cases out with
    | ok v => exact hR ρ2 w2 (hst.trans hst2)
    | error ch => exact hR ρ2 w2 (hst.trans hst2)
  | panic v =>
    obtain ⟨rfl, rfl⟩ := h
    simp only [NRun] at hrun
    rw [hrun, Oper.uponIn_panic]
    exact hR ρ1 w1 hst (fun p hp => by simp at hp; subst hp; exact hsn)

def CallA (P : Program) (f : FuncId) (args : List Value) (H : AHeap) (R : Out → AHeap → Prop) : Prop := ∃ out H1, CallS P f args H out H1 ∧ R out H1
def RoundA (P : Program) (r : Round) (H : AHeap) (R : Out → AHeap → Prop) : Prop := ∃ out H1, RoundS P r H out H1 ∧ R out H1

def nextA (P : Program) (x : ANext) (H : AHeap) (R : Out → AHeap → Prop) : Prop :=
  match x with
  | .value v => R (.ok v) H
  | .skip => R (.ok undef) H
  | .enter f args => CallA P f args H R
  | .round r => RoundA P r H R
  | .panic v => R (.error [{ v, recovered := false }]) H

def opA (P : Program) (op : Op) (a : AAct) (H : AHeap) (R : Out → AHeap → Prop) : Prop :=
  match aop op P a H with
  | some (x, g) => nextA P x g R
  | none => False

theorem opA_sound {o : Oper} {R : Out → AHeap → Prop} (h : opA P o.op a H R) : ∃ out H1, OpS P a H o out H1 ∧ R out H1 := by
  unfold opA at h
  split at h
  · rename_i x g hx
    cases x with
    | value v => exact ⟨_, _, opS_of hx ⟨rfl, rfl⟩, h⟩
    | skip => exact ⟨_, _, opS_of hx ⟨rfl, rfl⟩, h⟩
    | enter f args => obtain ⟨out, H1, h2, h4⟩ := h; exact ⟨out, H1, opS_of hx h2, h4⟩
    | round r => obtain ⟨out, H1, h2, h4⟩ := h; exact ⟨out, H1, opS_of hx h2, h4⟩
    | panic v => exact ⟨_, _, opS_of hx ⟨rfl, rfl⟩, h⟩
  · exact h.elim

def wpOps (P : Program) (ro : Option Nat) (ops : Array Oper) : List Oper → AAct → AHeap → (Exit → AAct → AHeap → Prop) → Prop
  | [], a, H, Q => Q .normal a H
  | o :: rest, a, H, Q =>
    match wantA ops a o with
    | some true =>
      (match ro, aDefer P a o.op with
      | none, some d => wpOps P ro ops rest (AAct.put ⟨a.env, d :: a.defers⟩ o.dst undef) H Q
      | _, _ => opA P o.op a H fun out H1 => match out with
        | .ok v => wpOps P ro ops rest (a.put o.dst v) H1 Q
        | .error ch => Q (.panic ch) a H1)
    | some false => wpOps P ro ops rest (a.put o.dst undef) H Q
    | none => False

def OpsR (P : Program) (ro : Option Nat) (ops : Array Oper) (k m : Nat) (a : AAct) (H : AHeap) (e : Exit) (a1 : AAct) (H1 : AHeap) : Prop :=
  ∀ (ρ : Ren) (w : World) (F : Fence) (n : Nat) (Q : Exit → Act → World → Prop), WideF F → F.round = ro.map ρ.blk → (∀ l, ro = some l → l < H.next) → Rel P ρ H w → scA H.next a →
    (∀ ρ1 w1, St P ρ H w ρ1 H1 w1 → scA H1.next a1 → scX H1.next e → Q (ρ1.exit e) (ρ1.act a1) w1) → wpOpsIn F n P ops Q (List.range' k m) (ρ.act a) w

theorem wpOps_sound {P : Program} {ro : Option Nat} {ops : Array Oper} {Q : Exit → AAct → AHeap → Prop} : ∀ (rest : List Oper) (k : Nat) (a : AAct) (H : AHeap), ops.toList.drop k = rest → wpOps P ro ops rest a H Q →
    ∃ e a1 H1, OpsR P ro ops k rest.length a H e a1 H1 ∧ Q e a1 H1
  | [], k, a, H, _, h => ⟨.normal, a, H, fun ρ w F n Q _ _ _ r hs hQ => hQ ρ w (St.refl r) hs trivial, h⟩
  | o :: rest, k, a, H, hd, h => by
    have hk : ops[k]? = some o := by
      have := congrArg (·[0]?) hd
      simpa using this
    have hd' : ops.toList.drop (k + 1) = rest := by
      have := congrArg List.tail hd
      simpa using this
    simp only [wpOps] at h
    split at h
    · rename_i hw
      split at h
      · rename_i d hdf
        obtain ⟨e, a1, H1, hr, hq⟩ := wpOps_sound rest (k + 1) _ H hd' h
        refine ⟨e, a1, H1, ?_, hq⟩
        intro ρ w F n Q hF hFr hro r hs hQ
        simp only [List.length_cons, List.range'_succ, wpOpsIn, hk]
        rw [want_run ρ hw, if_pos rfl]
        obtain ⟨hrun, hsd⟩ := aDefer_run r hs hdf
        refine ⟨fun f _ => hF.fn f, ?_⟩
        rw [hFr]
        simp only [Option.map_none]
        rw [Oper.semAt_none, hrun]
        have hp := act_put ρ ⟨a.env, d :: a.defers⟩ o.dst undef
        rw [Ren.val_undef] at hp
        have hs' : scA H.next ⟨a.env, d :: a.defers⟩ := ⟨hs.1, fun d' hd' => by
          rcases List.mem_cons.1 hd' with rfl | hd'
          · exact hsd
          · exact hs.2 d' hd'⟩
        have := hr ρ w F n Q hF hFr hro r (hs'.put _ (scb_undef _)) hQ
        rw [← hp] at this
        exact this
      · obtain ⟨out, H2, hop, hk2⟩ := opA_sound (o := o) h
        cases out with
        | ok v =>
          simp only at hk2
          obtain ⟨e, a1, H1, hr, hq⟩ := wpOps_sound rest (k + 1) _ H2 hd' hk2
          refine ⟨e, a1, H1, ?_, hq⟩
          intro ρ w F n Q hF hFr hro r hs hQ
          simp only [List.length_cons, List.range'_succ, wpOpsIn, hk]
          rw [want_run ρ hw, if_pos rfl]
          refine hop ρ w r hs _ (fun _ _ => rfl) F n _ _ hF ?_
          intro ρ1 w1 hst hsc
          rw [← act_ext hst.ext hs, act_put]
          refine hr ρ1 w1 F n Q hF (round_ext hFr hro hst) (fun l hl => Nat.lt_of_lt_of_le (hro l hl) hst.le.next) hst.rel ((hs.mono hst.le.next).put _ hsc) ?_
          intro ρ2 w2 hst2 h1 h2
          exact hQ ρ2 w2 (hst.trans hst2) h1 h2
        | error ch =>
          refine ⟨.panic ch, a, H2, ?_, hk2⟩
          intro ρ w F n Q hF hFr hro r hs hQ
          simp only [List.length_cons, List.range'_succ, wpOpsIn, hk]
          rw [want_run ρ hw, if_pos rfl]
          refine hop ρ w r hs _ (fun _ _ => rfl) F n _ _ hF ?_
          intro ρ1 w1 hst hsc
          have := hQ ρ1 w1 hst (hs.mono hst.le.next) hsc
          rw [act_ext hst.ext hs] at this
          exact this
    · rename_i hw
      obtain ⟨e, a1, H1, hr, hq⟩ := wpOps_sound rest (k + 1) _ H hd' h
      refine ⟨e, a1, H1, ?_, hq⟩
      intro ρ w F n Q hF hFr hro r hs hQ
      simp only [List.length_cons, List.range'_succ, wpOpsIn, hk]
      rw [want_run ρ hw]
      simp only [Bool.false_eq_true, if_false]
      refine ⟨fun f _ => hF.fn f, ?_⟩
      have hp := act_put ρ a o.dst undef
      rw [Ren.val_undef] at hp
      rw [hp]
      exact hr ρ w F n Q hF hFr hro r (hs.put _ (scb_undef _)) hQ
    · exact h.elim

def wpDraw (P : Program) (ops : Array Oper) (anc : List Nat) : List Oper → Nat → List Fp → AAct → AHeap → (AAct → AHeap → Prop) → Prop
  | [], _, _, a, H, Q => Q a H
  | o :: rest, i, fps, a, H, Q =>
    match wantA ops a o with
    | some true => ∃ F v g, OpS P a (H.restrict F) o (.ok v) g ∧ (∀ n ∈ F, H.get n ≠ none) ∧ (∀ n ∈ g.dirty, n ∈ F) ∧ (∀ r ∈ fps, fpOk (anc.getD i 0) F v g H.next r = true) ∧
        wpDraw P ops anc rest (i + 1) (⟨i, F, g.dirty, H.next, g.next⟩ :: fps) (a.put o.dst v) (H.merge g) Q
    | some false => wpDraw P ops anc rest (i + 1) fps (a.put o.dst undef) H Q
    | none => False

theorem wpDraw_text {ops : Array Oper} {anc : List Nat} {Q : AAct → AHeap → Prop} : ∀ (rest : List Oper) (k : Nat) (fps : List Fp) (a : AAct) (H : AHeap),
    ops.toList.drop k = rest → wpDraw P ops anc rest k fps a H Q →
    ∃ (D : Nat → OpD) (A : Nat → AAct) (HH : Nat → AHeap), A k = a ∧ HH k = H ∧ Q (A (k + rest.length)) (HH (k + rest.length)) ∧
      (∀ i, k ≤ i → i < k + rest.length → OpFact P ops D A HH i) ∧
      (∀ i j, k ≤ i → i < j → j < k + rest.length → (D i).on = true → PairFact anc D HH j (fpAt D HH i)) ∧
      (∀ r ∈ fps, ∀ j, k ≤ j → j < k + rest.length → PairFact anc D HH j r) ∧ (∀ i, (D i).bad = false)
  | [], k, fps, a, H, _, h => by
    refine ⟨fun _ => ⟨false, undef, [], H, false⟩, fun _ => a, fun _ => H, rfl, rfl, h, ?_, ?_, ?_, fun _ => rfl⟩
    · intro i h1 h2; simp at h2; omega
    · intro i j h1 h2 h3; simp at h3; omega
    · intro r _ j h1 h2; simp at h2; omega
  | o :: rest, k, fps, a, H, hd, h => by
    have hk : ops[k]? = some o := by
      have := congrArg (·[0]?) hd
      simpa using this
    have hd' : ops.toList.drop (k + 1) = rest := by
      have := congrArg List.tail hd
      simpa using this
    have build : ∀ (d : OpD) (fps' : List Fp) (H2 : AHeap), (∀ r ∈ fps, r ∈ fps') → wpDraw P ops anc rest (k + 1) fps' (a.put o.dst d.v) H2 Q →
        wantA ops a o = some d.on → d.bad = false →
        (d.on = true → OpS P a (H.restrict d.F) o (.ok d.v) d.g ∧ (∀ n ∈ d.F, H.get n ≠ none) ∧ (∀ n ∈ d.g.dirty, n ∈ d.F) ∧ H2 = H.merge d.g ∧ (⟨k, d.F, d.g.dirty, H.next, d.g.next⟩ : Fp) ∈ fps' ∧
          ∀ r ∈ fps, fpOk (anc.getD k 0) d.F d.v d.g H.next r = true) →
        (d.on = false → d.v = undef ∧ H2 = H) →
        ∃ (D : Nat → OpD) (A : Nat → AAct) (HH : Nat → AHeap), A k = a ∧ HH k = H ∧ Q (A (k + (o :: rest).length)) (HH (k + (o :: rest).length)) ∧
          (∀ i, k ≤ i → i < k + (o :: rest).length → OpFact P ops D A HH i) ∧
          (∀ i j, k ≤ i → i < j → j < k + (o :: rest).length → (D i).on = true → PairFact anc D HH j (fpAt D HH i)) ∧
          (∀ r ∈ fps, ∀ j, k ≤ j → j < k + (o :: rest).length → PairFact anc D HH j r) ∧ (∀ i, (D i).bad = false) := by
      intro d fps' H2 hsub hrun hwant hbad hon hoff
      obtain ⟨D, A, HH, e1, e2, e3, f1, f2, f3, f4⟩ := wpDraw_text rest (k + 1) fps' _ H2 hd' hrun
      have hlen : k + (o :: rest).length = k + 1 + rest.length := by simp only [List.length_cons]; omega
      refine ⟨fun i => if i = k then d else D i, fun i => if i = k then a else A i, fun i => if i = k then H else HH i, by simp, by simp, ?_, ?_, ?_, ?_, fun i => by by_cases e : i = k <;> simp [e, hbad, f4]⟩
      · rw [hlen]; show Q (if k + 1 + rest.length = k then a else A (k + 1 + rest.length)) (if k + 1 + rest.length = k then H else HH (k + 1 + rest.length))
        rw [if_neg (by omega), if_neg (by omega)]; exact e3
      · intro i h1 h2
        rw [hlen] at h2
        by_cases e : i = k
        · subst e
          refine ⟨o, hk, ?_, ?_, ?_, ?_⟩
          · simp only [if_pos, if_neg (show ¬ i + 1 = i by omega)]; rw [e1]
          · simp only [if_pos]; exact fun _ => hwant
          · simp only [if_pos, if_neg (show ¬ i + 1 = i by omega)]
            intro h; obtain ⟨x1, x2, x3, x4, _⟩ := hon h
            exact ⟨x1, x2, x3, by rw [e2]; exact x4⟩
          · simp only [if_pos, if_neg (show ¬ i + 1 = i by omega)]
            intro h; obtain ⟨x1, x2⟩ := hoff h
            exact ⟨x1, by rw [e2]; exact x2⟩
        · obtain ⟨o', y1, y2, y3, y4, y5⟩ := f1 i (by omega) h2
          refine ⟨o', y1, ?_, ?_, ?_, ?_⟩
          · simp only [if_neg e, if_neg (show ¬ i + 1 = k by omega)]; exact y2
          · simp only [if_neg e]; exact y3
          · simp only [if_neg e, if_neg (show ¬ i + 1 = k by omega)]; exact y4
          · simp only [if_neg e, if_neg (show ¬ i + 1 = k by omega)]; exact y5
      · intro i j h1 h2 h3 h4
        rw [hlen] at h3
        have hj : ¬ j = k := by omega
        by_cases e : i = k
        · subst e
          simp only [if_pos] at h4
          obtain ⟨_, _, _, _, x5, _⟩ := hon h4
          have := f3 _ x5 j (by omega) h3
          simp only [PairFact, fpAt, if_neg hj, if_pos] at this ⊢
          exact this
        · simp only [if_neg e] at h4
          have := f2 i j (by omega) h2 h3 h4
          simp only [PairFact, fpAt, if_neg hj, if_neg e] at this ⊢
          exact this
      · intro r hr j h1 h2
        rw [hlen] at h2
        by_cases e : j = k
        · subst e
          simp only [PairFact, if_pos]
          intro h
          exact (hon h).2.2.2.2.2 r hr
        · have := f3 r (hsub r hr) j (by omega) h2
          simp only [PairFact, if_neg e] at this ⊢
          exact this
    simp only [wpDraw] at h
    split at h
    · rename_i hw
      obtain ⟨F, v, g, x1, x2, x3, x4, h⟩ := h
      exact build ⟨true, v, F, g, false⟩ _ _ (fun r hr => List.mem_cons_of_mem _ hr) h hw rfl (fun _ => ⟨x1, x2, x3, rfl, List.mem_cons_self .., x4⟩) (fun h => by cases h)
    · rename_i hw
      exact build ⟨false, undef, [], H, false⟩ fps H (fun r hr => hr) h hw rfl (fun h => by cases h) (fun _ => ⟨rfl, rfl⟩)
    · exact h.elim

theorem wpDraw_sound (hmix : P.follows .mixedOrders = true) {ops : Array Oper} {id : Nat} (hst : staticOk ops = true) {Q : AAct → AHeap → Prop} (h : wpDraw P ops (ancs ops) ops.toList 0 [] a H Q) :
    ∃ a1 H1, Runs P ro (.region id ops true) a H .normal a1 H1 ∧ Q a1 H1 := by
  obtain ⟨D, A, HH, e1, e2, e3, f1, f2, _, hnb⟩ := wpDraw_text ops.toList 0 [] a H (by simp) h
  simp only [Nat.zero_add, Array.length_toList] at e3 f1 f2
  refine ⟨_, _, ?_, e3⟩
  intro ρ w F n Q hF hFr hro r hs hQ
  have hfact : ∀ i, i < ops.size → OpFact P ops D A HH i := fun i hi => f1 i (Nat.zero_le _) hi
  have hex := text_ex r (ops := ops) (D := D) (A := A) (HH := HH) (m := ops.size) e2 (by rw [e1]; exact hs) hfact
  have T : Txt P ops D A HH ρ w := by
    refine ⟨by rw [e2]; exact r, by rw [e2, e1]; exact hs, hfact, fun i j hij hj hi => f2 i j (Nat.zero_le _) hij hj hi, fun j oj hoj => static_spec ops.toList 0 (by simp) hst j oj (Nat.zero_le _) hoj, ?_⟩
    rw [e2]; exact hex
  obtain ⟨ρm, wm, hstm, hsa⟩ := hex ops.size (Nat.le_refl _)
  refine wpIn_region_any hmix ?_
  have hX0 : ∀ j, listedX (Array.replicate ops.size false) j = false := fun j => by
    unfold listedX
    rw [Array.getD_eq_getD_getElem?, Array.getElem?_replicate]
    split <;> rfl
  obtain ⟨I, ha⟩ := inv_start (w := { w with drawn := w.drawn + 1 }) T hX0 rfl rfl rfl rfl
  have := any_run T (n := n) hF (Q := Q) (fun i hi h => by rw [hnb] at h; cases h) (fun i o hi h => by rw [hnb] at h; cases h) (fun _ ρ1 w1 h1 => by
    rw [e2] at h1
    exact hQ ρ1 w1 h1 hsa trivial) ops.size (Array.replicate ops.size false) ρ _ (by simp) (by unfold left; exact Nat.le_trans (List.length_filter_le _ _) (by simp)) (fun j oj _ hX => by rw [hX0] at hX; cases hX) (fun j _ => hnb j) I
  rw [ha, e1] at this
  exact this

def pendE : Option Code → Option Exit
  | none => some .normal
  | some .ret => some .ret
  | some (.exit id) => some (.exit id)
  | some (.goto l) => some (.goto l)
  | _ => none

def rangeA (P : Program) (ro : Option Nat) (fv : Value) (ps : Array Tmp) (assign body : Code) (a : AAct) (H : AHeap) (Q : Exit → AAct → AHeap → Prop) : Prop :=
  match fv with
  | .func fn first captured =>
    (match enterLoop ro a ps assign body H with
    | some (l, mark, H1) =>
      (match aInvoke P H1 fn (first.toList ++ [.func (.yield l) #[] #[]]) captured.toList with
      | some (.enter g args) => CallA P g args H1 fun out H2 => match out with
        | .ok _ => ∃ lp le e, getLoop H2 l = some (lp, le) ∧ lp.state ≠ .busy ∧ pendE lp.pending = some e ∧ Q e ⟨a.env, mark ++ a.defers⟩ (setLoop H2 l { lp with state := .exhausted } le)
        | .error ch => Q (.panic ch) ⟨a.env, mark ++ a.defers⟩ H2
      | _ => False)
    | none => False)
  | _ => False

theorem Runs.pend {c : Code} {e : Exit} (h : pendE (some c) = some e) : Runs P ro c a H e a H := by
  unfold pendE at h
  split at h
  · rename_i hc; cases hc
  · rename_i hc; cases hc; simp only [Option.some.injEq] at h; subst h; exact Runs.ret
  · rename_i hc; cases hc; simp only [Option.some.injEq] at h; subst h; exact Runs.exit
  · rename_i hc; cases hc; simp only [Option.some.injEq] at h; subst h; exact Runs.goto
  · cases h

theorem rangeA_sound {g : Operand} {fv : Value} {ps : Array Tmp} {assign body : Code} {Q : Exit → AAct → AHeap → Prop} (hg : aeval P a g = some fv) (h : rangeA P ro fv ps assign body a H Q) :
    ∃ e a1 H1, Runs P ro (.rangeFunc g ps assign body) a H e a1 H1 ∧ Q e a1 H1 := by
  unfold rangeA at h
  split at h
  · rename_i fn first captured
    split at h
    · rename_i l mark H2 hen
      split at h
      · rename_i f args hres
        obtain ⟨out, H3, hcall, h⟩ := h
        have key : ∀ (e : Exit) (H1 : AHeap), (match out with
            | .ok _ => ∃ lp le, getLoop H3 l = some (lp, le) ∧ lp.state ≠ .busy ∧ pendE lp.pending = some e ∧ H1 = setLoop H3 l { lp with state := .exhausted } le
            | .error ch => e = .panic ch ∧ H1 = H3) → Runs P ro (.rangeFunc g ps assign body) a H e ⟨a.env, mark ++ a.defers⟩ H1 := by
          intro e H1 hout ρ w F n Q hF hFr hro r hs hQ
          refine wpIn_rangeFunc (fun fnid _ => ?_)
          obtain ⟨ρ1, w1, s1, hrun, hl, hmk⟩ := enterLoop_run r hro hs.1 hen fnid
          obtain ⟨ρ2, w2, s2, hinv⟩ := aInvoke_run s1.rel hres
          have hfsc := aeval_sc r.glob.1 hs hg
          have hf2 := func_sc (scb_mono s1.le.next _ hfsc)
          have hsa0 : scbL H2.next args = true := aInvoke_sc s1.rel.doms hf2.1 (scbL_append hf2.2.1 (by simp only [scbL, scb, scbA, Bool.and_true]; exact blt_of hl)) hf2.2.2 hres
          have hfv : (ρ.act a).eval g = ρ1.val (.func fn first captured) := by rw [aeval_run r hg, val_ext s1.ext _ hfsc]
          have e1 : ρ1.val (.func fn first captured) = .func (ρ1.fn fn) (first.map ρ1.val) (captured.map ρ1.val) := by rw [Ren.val, Ren.valA_eq, Ren.valA_eq]
          have e2 : first.map ρ1.val ++ #[(.func (.yield (ρ1.blk l)) #[] #[] : Value)] = ((first.toList ++ [(.func (.yield l) #[] #[] : Value)]).map ρ1.val).toArray := by
            apply Array.ext'
            simp [Ren.val, Ren.fn, Ren.valA, Ren.valL]
          have e3 : captured.map ρ1.val = (captured.toList.map ρ1.val).toArray := by apply Array.ext'; simp
          simp only [NRun] at hinv
          have hs1 : scA H2.next a := hs.mono s1.le.next
          have hs2 : scA H2.next { a with defers := mark ++ a.defers } := ⟨hs1.1, fun d hd => by
            rcases List.mem_append.1 hd with hd | hd
            · exact hmk d hd
            · exact hs1.2 d hd⟩
          have hsame : ({ ρ.act a with defers := mark.map ρ1.dfr ++ (ρ.act a).defers } : Act) = ρ1.act { a with defers := mark ++ a.defers } := by
            have h1 := act_ext s1.ext hs
            have h2 : (ρ.act a).tmps = ρ1.tmps a.env := by rw [← h1]; rfl
            have h3 : (ρ.act a).defers = a.defers.map ρ1.dfr := by rw [← h1]; rfl
            show (⟨(ρ.act a).tmps, mark.map ρ1.dfr ++ (ρ.act a).defers⟩ : Act) = ⟨ρ1.tmps a.env, (mark ++ a.defers).map ρ1.dfr⟩
            rw [h2, h3, List.map_append]
          refine ⟨ρ1.blk l, mark.map ρ1.dfr, w1, { target := .fn (ρ1.fn fn) (captured.map ρ1.val), args := first.map ρ1.val ++ #[(.func (.yield (ρ1.blk l)) #[] #[] : Value)] }, w1, f, _, w2, ?_, ?_, fun f' _ => hF.fn f', ?_, hF.deep, hcall ρ2 w2 s2.rel hsa0 F _ _ hF ?_⟩
          · rw [hFr]; exact hrun
          · simp only [resolve, rangeCall, hfv, e1]
            simp [Act.eval, Deferred.ofValue]
          · simp only [e2, e3]; exact hinv
          · intro ρ3 w3 s3
            have hn2 : H2.next ≤ H3.next := (s2.trans s3).le.next
            have hl3 : l < H3.next := by omega
            have hlb : ρ3.blk l = ρ1.blk l := ((s2.trans s3).ext.blk l hl)
            have hs3 : scA H3.next { a with defers := mark ++ a.defers } := hs2.mono hn2
            have hact3 : ρ3.act { a with defers := mark ++ a.defers } = ρ1.act { a with defers := mark ++ a.defers } := act_ext (s2.trans s3).ext hs2
            have stot := (s1.trans s2).trans s3
            cases out with
            | ok v =>
              obtain ⟨lp, le, hlp, hnb, hpe, rfl⟩ := hout
              obtain ⟨fn3, hgl, w4, hset, s4⟩ := setLoop_run s3.rel (lp' := { lp with state := .exhausted }) hlp rfl
              rw [hlb] at hgl hset
              have hn4 : (setLoop H3 l { lp with state := .exhausted } le).next = H3.next := rfl
              have hendl : (Instr.endLoop (ρ1.blk l)).run P w3 = .ok lp.pending w4 := by
                have hb : (lp.state == .busy) = false := by simpa using hnb
                simp only [Instr.endLoop, Sem.run_bind, hgl, Result.andThen_ok, hb, Bool.false_eq_true, if_false]
                rw [show ({ ({ lp with fn := fn3, tmps := ρ3.tmps le, defers := ρ3.blk lp.defers } : Loop) with state := .exhausted } : Loop) =
                  { ({ lp with state := .exhausted } : Loop) with fn := fn3, tmps := ρ3.tmps le, defers := ρ3.blk lp.defers } from rfl, hset]
                simp
              intro _
              refine ⟨lp.pending, w4, hendl, ?_⟩
              rw [hsame, ← hact3]
              have hro4 : ∀ l0, ro = some l0 → l0 < (setLoop H3 l { lp with state := .exhausted } le).next := fun l0 h0 => by
                rw [hn4]; exact Nat.lt_of_lt_of_le (hro l0 h0) stot.le.next
              have hFr4 : F.round = ro.map ρ3.blk := round_ext hFr hro stot
              generalize setLoop H3 l { lp with state := .exhausted } le = H4 at s4 hn4 hro4 hQ
              split
              · rename_i hpn
                rw [hpn] at hpe
                simp only [pendE, Option.some.injEq] at hpe
                subst hpe
                exact hQ ρ3 w4 (stot.trans s4) (hs3.mono (Nat.le_of_eq hn4.symm)) trivial
              · rename_i c hpc
                rw [hpc] at hpe
                refine Runs.pend (P := P) (ro := ro) hpe ρ3 w4 F n Q hF hFr4 hro4 s4.rel (hs3.mono (Nat.le_of_eq hn4.symm)) ?_
                intro ρ5 w5 s5 h1 h2
                exact hQ ρ5 w5 ((stot.trans s4).trans s5) h1 h2
            | error ch =>
              intro hch
              obtain ⟨rfl, rfl⟩ := hout
              show Q (.panic (ch.map ρ3.pe)) _ w3
              rw [hsame, ← hact3]
              exact hQ ρ3 w3 stot hs3 hch
        cases out with
        | ok v =>
          obtain ⟨lp, le, e, h1, h2, h3, h4⟩ := h
          exact ⟨e, _, _, key e _ ⟨lp, le, h1, h2, h3, rfl⟩, h4⟩
        | error ch => exact ⟨_, _, _, key _ _ ⟨rfl, rfl⟩, h⟩
      · exact h.elim
    · exact h.elim
  · exact h.elim

def roundsA (W : (Exit → AAct → AHeap → Prop) → AAct → AHeap → Prop) (Q : Exit → AAct → AHeap → Prop) : Nat → AAct → AHeap → Prop
  | 0, _, _ => False
  | m + 1, a, H => W (fun e a1 H1 => match e with
    | .normal => roundsA W Q m a1 H1
    | e => Q e a1 H1) a H

def seqQ (W : AAct → AHeap → Prop) (Q : Exit → AAct → AHeap → Prop) : Exit → AAct → AHeap → Prop
  | .normal, a, H => W a H
  | e, a, H => Q e a H

def scopeQ (Q : Exit → AAct → AHeap → Prop) : Exit → AAct → AHeap → Prop
  | .goto _, _, _ => False
  | e, a, H => Q e a H

def condA (v : Option Value) (X Y : Prop) : Prop :=
  match v with
  | some (.bool true) => X
  | some (.bool false) => Y
  | _ => False

def wpA (P : Program) (ro : Option Nat) : Code → (Exit → AAct → AHeap → Prop) → AAct → AHeap → Prop
  | .skip, Q, a, H => Q .normal a H
  | .label _, Q, a, H => Q .normal a H
  | .exit id, Q, a, H => Q (.exit id) a H
  | .goto l, Q, a, H => Q (.goto l) a H
  | .ret, Q, a, H => Q .ret a H
  | .seq x y, Q, a, H => wpA P ro x (seqQ (fun a1 H1 => wpA P ro y Q a1 H1) Q) a H
  | .cond c x y, Q, a, H => condA (aeval P a c) (wpA P ro x Q a H) (wpA P ro y Q a H)
  | .block id b, Q, a, H => wpA P ro b (fun e a1 H1 => Q (outB id e) a1 H1) a H
  | .scope b, Q, a, H => wpA P ro b (scopeQ Q) a H
  | .loop b, Q, a, H => ∃ m, roundsA (fun Q' a' H' => wpA P ro b Q' a' H') Q m a H
  | .region _ ops draw, Q, a, H => (match draw with
    | true => staticOk ops = true ∧ wpDraw P ops (ancs ops) ops.toList 0 [] a H (Q .normal)
    | false => wpOps P ro ops ops.toList a H Q)
  | .rangeFunc f ps assign body, Q, a, H => (match aeval P a f with
    | some fv => rangeA P ro fv ps assign body a H Q
    | none => False)
  | .refuse _, _, _, _ => False

theorem wpA_sound (hmix : P.follows .mixedOrders = true) : ∀ (c : Code) (Q : Exit → AAct → AHeap → Prop) (a : AAct) (H : AHeap), wpA P ro c Q a H → ∃ e a1 H1, Runs P ro c a H e a1 H1 ∧ Q e a1 H1 := by
  intro c
  induction c with
  | skip => exact fun Q a H h => ⟨_, _, _, Runs.skip, h⟩
  | label l => exact fun Q a H h => ⟨_, _, _, Runs.label, h⟩
  | exit id => exact fun Q a H h => ⟨_, _, _, Runs.exit, h⟩
  | goto l => exact fun Q a H h => ⟨_, _, _, Runs.goto, h⟩
  | ret => exact fun Q a H h => ⟨_, _, _, Runs.ret, h⟩
  | seq x y ihx ihy =>
    intro Q a H h
    simp only [wpA] at h
    obtain ⟨e, a2, H2, hx, h2⟩ := ihx _ a H h
    cases e with
    | normal =>
      obtain ⟨e, a1, H1, hy, h3⟩ := ihy Q a2 H2 h2
      exact ⟨e, a1, H1, hx.seq hy, h3⟩
    | exit id => exact ⟨_, a2, H2, hx.seq_out (by simp), h2⟩
    | goto l => exact ⟨_, a2, H2, hx.seq_out (by simp), h2⟩
    | ret => exact ⟨_, a2, H2, hx.seq_out (by simp), h2⟩
    | panic ch => exact ⟨_, a2, H2, hx.seq_out (by simp), h2⟩
    | outgrown => exact ⟨_, a2, H2, hx.seq_out (by simp), h2⟩
  | cond c x y ihx ihy =>
    intro Q a H h
    simp only [wpA, condA] at h
    split at h
    · rename_i hc
      obtain ⟨e, a1, H1, hx, h2⟩ := ihx Q a H h
      exact ⟨e, a1, H1, Runs.cond hc hx, h2⟩
    · rename_i hc
      obtain ⟨e, a1, H1, hx, h2⟩ := ihy Q a H h
      exact ⟨e, a1, H1, Runs.cond hc hx, h2⟩
    · exact h.elim
  | block id b ih =>
    intro Q a H h
    simp only [wpA] at h
    obtain ⟨e, a1, H1, hx, h2⟩ := ih _ a H h
    exact ⟨_, a1, H1, hx.block, h2⟩
  | scope b ih =>
    intro Q a H h
    simp only [wpA] at h
    obtain ⟨e, a1, H1, hx, h2⟩ := ih _ a H h
    cases e with
    | goto l => exact h2.elim
    | normal => exact ⟨_, a1, H1, hx.scope (by simp), h2⟩
    | exit id => exact ⟨_, a1, H1, hx.scope (by simp), h2⟩
    | ret => exact ⟨_, a1, H1, hx.scope (by simp), h2⟩
    | panic ch => exact ⟨_, a1, H1, hx.scope (by simp), h2⟩
    | outgrown => exact ⟨_, a1, H1, hx.scope (by simp), h2⟩
  | loop b ih =>
    intro Q a H h
    simp only [wpA] at h
    obtain ⟨m, h⟩ := h
    have key : ∀ (m : Nat) (a : AAct) (H : AHeap), roundsA (fun Q' a' H' => wpA P ro b Q' a' H') Q m a H → ∃ e a1 H1, RoundsR P ro b m a H e a1 H1 ∧ Q e a1 H1 := by
      intro m
      induction m with
      | zero => exact fun a H h => h.elim
      | succ m ihm =>
        intro a H h
        simp only [roundsA] at h
        obtain ⟨e, a2, H2, hx, h2⟩ := ih _ a H h
        cases e with
        | normal =>
          obtain ⟨e, a1, H1, hy, h3⟩ := ihm a2 H2 h2
          exact ⟨e, a1, H1, hy.next hx, h3⟩
        | exit id => exact ⟨_, a2, H2, RoundsR.last hx (by simp), h2⟩
        | goto l => exact ⟨_, a2, H2, RoundsR.last hx (by simp), h2⟩
        | ret => exact ⟨_, a2, H2, RoundsR.last hx (by simp), h2⟩
        | panic ch => exact ⟨_, a2, H2, RoundsR.last hx (by simp), h2⟩
        | outgrown => exact ⟨_, a2, H2, RoundsR.last hx (by simp), h2⟩
    obtain ⟨e, a1, H1, hx, h2⟩ := key m a H h
    exact ⟨e, a1, H1, Runs.loop hx, h2⟩
  | region id ops draw =>
    intro Q a H h
    simp only [wpA] at h
    cases draw with
    | true =>
      obtain ⟨hst, h⟩ := h
      obtain ⟨a1, H1, hr, hq⟩ := wpDraw_sound (ro := ro) (id := id) hmix hst h
      exact ⟨_, a1, H1, hr, hq⟩
    | false =>
      obtain ⟨e, a1, H1, hr, hq⟩ := wpOps_sound ops.toList 0 a H (by simp) h
      refine ⟨e, a1, H1, ?_, hq⟩
      intro ρ w F n Q' hF hFr hro r hs hQ
      refine wpIn_region ?_
      rw [List.range_eq_range']
      have := hr ρ w F n Q' hF hFr hro r hs hQ
      simpa using this
  | rangeFunc f ps assign body _ _ =>
    intro Q a H h
    simp only [wpA] at h
    split at h
    · rename_i fv hfv
      exact rangeA_sound hfv h
    · exact h.elim
  | refuse s => exact fun Q a H h => h.elim

def leaveA (P : Program) (fn : Func) (a1 : AAct) : List Deferred → FrameMode → AHeap → (Out → AHeap → Prop) → Prop
  | [], .returning, H, R => ∃ vs, resVal P H a1 fn.results.toList = some vs ∧ R (.ok (tup vs)) H
  | [], .panicking ch, H, R => R (.error ch) H
  | ⟨.collected r, _⟩ :: ds, .returning, H, R => (∃ o v, H.get r = some ⟨.deferred (some []), o, v⟩) ∧ leaveA P fn a1 ds .returning (H.upd r (some ⟨.deferred none, false, ⟨[], 0⟩⟩)) R
  | ⟨.collected r, _⟩ :: ds, .panicking ch, H, R => (∃ o v, H.get r = some ⟨.deferred (some []), o, v⟩) ∧ leaveA P fn a1 ds (.panicking ch) (H.upd r (some ⟨.deferred none, false, ⟨[], 0⟩⟩)) R
  | _, _, _, _ => False

def endA (P : Program) (fn : Func) (R : Out → AHeap → Prop) : Exit → AAct → AHeap → Prop
  | .normal, a1, H1 => leaveA P fn a1 a1.defers .returning H1 R
  | .ret, a1, H1 => leaveA P fn a1 a1.defers .returning H1 R
  | .panic ch, a1, H1 => leaveA P fn a1 a1.defers (.panicking ch) H1 R
  | _, _, _ => False

def noRec : Rec := ⟨fun _ _ _ _ => none, fun _ _ _ => none⟩
theorem noRec_sound : Sound P noRec := ⟨fun _ _ _ _ _ _ _ h => (by cases h), fun _ _ _ _ h => (by cases h)⟩

theorem leaveA_leave {fn : Func} {R : Out → AHeap → Prop} : ∀ (ds : List Deferred) (u : FrameMode) (H : AHeap), leaveA P fn a1 ds u H R → ∃ out H1, leaveF P noRec fn a1 ds u H = some (out, H1) ∧ R out H1
  | [], .returning, H, ⟨vs, h1, h3⟩ => ⟨_, _, by simp only [leaveF, h1, Option.map_some]; exact ⟨rfl, h3⟩⟩
  | [], .panicking ch, H, h => ⟨_, _, rfl, h⟩
  | [], .run, H, h => h.elim
  | ⟨.collected r, _⟩ :: ds, .returning, H, ⟨⟨o, v, hg⟩, h⟩ => by
    obtain ⟨out, H1, h1, h2⟩ := leaveA_leave ds .returning _ h
    exact ⟨out, H1, by simp only [leaveF, hg]; exact h1, h2⟩
  | ⟨.collected r, _⟩ :: ds, .panicking ch, H, ⟨⟨o, v, hg⟩, h⟩ => by
    obtain ⟨out, H1, h1, h2⟩ := leaveA_leave ds (.panicking ch) _ h
    exact ⟨out, H1, by simp only [leaveF, hg]; exact h1, h2⟩
  | ⟨.collected r, _⟩ :: ds, .run, H, h => h.elim
  | ⟨.fn .., _⟩ :: _, u, H, h => by cases u <;> exact h.elim
  | ⟨.nil, _⟩ :: _, u, H, h => by cases u <;> exact h.elim
  | ⟨.builtin .., _⟩ :: _, u, H, h => by cases u <;> exact h.elim
  | ⟨.coroexit .., _⟩ :: _, u, H, h => by cases u <;> exact h.elim

theorem callA_of (hmix : P.follows .mixedOrders = true) {f : FuncId} {args : List Value} {fn : Func} {c : Code} {R : Out → AHeap → Prop} (hfn : P.funcs[f]? = some fn) (hc : fn.body = some c) (hle : args.length ≤ fn.ntmps)
    (h : wpA P none c (endA P fn R) ⟨{ RV.ofList args with n := fn.ntmps }, []⟩ H) : CallA P f args H R := by
  obtain ⟨e, a1, H2, hr, hq⟩ := wpA_sound hmix c _ _ _ h
  have key : ∀ (u : FrameMode), leaveA P fn a1 a1.defers u H2 R → (∀ out H1, leaveF P noRec fn a1 a1.defers u H2 = some (out, H1) → endF P noRec fn (e, a1, H2) = some (out, H1)) → CallA P f args H R := by
    intro u hl he
    obtain ⟨out, H1, h1, h3⟩ := leaveA_leave _ _ _ hl
    exact ⟨out, H1, enter_core noRec_sound hfn hc hle hr (he out H1 h1), h3⟩
  cases e with
  | normal => exact key .returning hq (fun _ _ h => h)
  | ret => exact key .returning hq (fun _ _ h => h)
  | panic ch => exact key (.panicking ch) hq (fun _ _ h => h)
  | exit id => exact hq.elim
  | goto l => exact hq.elim
  | outgrown => exact hq.elim

theorem callA_exec (hmix : P.follows .mixedOrders = true) {K : FuncId → List Value → AHeap → Option Value} (hK : Known P K) {fuel : Nat} {f : FuncId} {args : List Value} {v : Value} {R : Out → AHeap → Prop}
    (h : call P K fuel f args H = some (.ok v, H1)) (hR : R (.ok v) H1) : CallA P f args H R :=
  ⟨_, _, fun _ _ r hsc _ _ _ hF hO => enterF_run (exec_sound hmix hK fuel).1 r h hsc hF hO, hR⟩

theorem CallA.mono {f : FuncId} {args : List Value} {R R' : Out → AHeap → Prop} (h : CallA P f args H R) (hR : ∀ out H1, R out H1 → R' out H1) : CallA P f args H R' :=
  let ⟨out, H1, h1, h3⟩ := h; ⟨out, H1, h1, hR _ _ h3⟩

end
end Go.Ax

/- Walks over abstract heaps: environments as functions, loops, regions that draw. -/
namespace Go.Ax

abbrev Env := Nat → Value

def upd (E : Env) (d : Nat) (v : Value) : Env := fun t => if t = d then v else E t

theorem upd_same (E : Env) (d : Nat) (v : Value) : upd E d v d = v := by simp [upd]
theorem upd_ne (E : Env) {d t : Nat} (v : Value) (h : t ≠ d) : upd E d v t = E t := by simp [upd, h]

def env0 : Env := fun _ => undef

def entryE (E : Env) (k : Nat) : List Value → Env
  | [] => E
  | v :: r => entryE (upd E k v) (k + 1) r

def chunk (E : Env) (k m : Nat) : List Value := (List.range m).map fun i => E (k + i)
def chunks (E : Env) (k : Nat) : Nat → List (List Value)
  | 0 => []
  | m + 1 => chunk E k 16 :: chunks E (k + 16) m

def rvOf (N : Nat) (E : Env) : RV := ⟨chunks (fun t => if t < N then E t else undef) 0 (N / 16 + 1), N⟩

theorem chunks_get (E : Env) : ∀ (m k i : Nat), i < m → (chunks E k m).getD i [] = chunk E (k + 16 * i) 16
  | 0, _, _, h => by omega
  | m + 1, k, 0, _ => by simp [chunks]
  | m + 1, k, i + 1, h => by
    have := chunks_get E m (k + 16) i (by omega)
    simp only [chunks, List.getD_cons_succ, this]
    congr 1; omega

theorem chunk_get (E : Env) (k m i : Nat) (h : i < m) : (chunk E k m).getD i undef = E (k + i) := by
  simp [chunk, List.getD, h]

theorem rvOf_get (N : Nat) (E : Env) (t : Nat) (h : t < N) : (rvOf N E).get t = E t := by
  unfold rvOf RV.get
  simp only
  rw [chunks_get _ _ _ _ (by have := Nat.div_le_div_right (c := 16) (Nat.le_of_lt h); omega), chunk_get _ _ _ _ (Nat.mod_lt _ (by omega))]
  have : 0 + 16 * (t / 16) + t % 16 = t := by omega
  rw [this, if_pos h]

def mkA (N : Nat) (E : Env) (ds : List Deferred) : AAct := ⟨rvOf N E, ds⟩

theorem lset_map {α : Type} (d : α) (f : Nat → α) (v : α) : ∀ (m i : Nat), i < m → lset d ((List.range m).map f) i v = (List.range m).map fun j => if j = i then v else f j := by
  intro m i h
  apply List.ext_getElem?
  intro j
  have key : ∀ (l : List α) (i : Nat), i < l.length → ∀ j : Nat, (lset d l i v)[j]? = if j = i then some v else l[j]? := by
    intro l
    induction l with
    | nil => intro i h; simp at h
    | cons x l ih =>
      intro i h j
      cases i with
      | zero => cases j <;> simp [lset]
      | succ i =>
        cases j with
        | zero => simp [lset]
        | succ j => simp only [lset, List.getElem?_cons_succ]; rw [ih i (by simpa using h) j]; simp
  rw [key _ i (by simpa using h) j]
  by_cases e : j = i
  · subst e; simp [h]
  · rw [if_neg e]
    simp only [List.getElem?_map]
    by_cases hj : j < m
    · simp [hj, e]
    · simp [hj]

theorem chunks_set (E : Env) (d : Nat) (v : Value) : ∀ (m k i : Nat), i < m → (∀ t, k + 16 * i ≤ t → t < k + 16 * i + 16 → True) → k + 16 * i ≤ d → d < k + 16 * i + 16 →
    lset [] (chunks E k m) i (lset undef (chunk E (k + 16 * i) 16) (d - (k + 16 * i)) v) = chunks (upd E d v) k m
  | 0, _, _, h, _, _, _ => by omega
  | m + 1, k, 0, _, _, h1, h2 => by
    simp only [chunks, lset, Nat.mul_zero, Nat.add_zero] at *
    congr 1
    · rw [chunk, lset_map _ _ _ _ _ (by omega), chunk]
      apply List.map_congr_left
      intro j hj
      have hj := List.mem_range.1 hj
      simp only [upd]
      by_cases e : k + j = d
      · rw [if_pos (by omega), if_pos e]
      · rw [if_neg (by omega), if_neg e]
    · have : ∀ (m k : Nat), d < k → chunks E k m = chunks (upd E d v) k m := by
        intro m
        induction m with
        | zero => intro k _; rfl
        | succ m ih =>
          intro k hk
          rw [chunks, chunks, ih (k + 16) (by omega)]
          congr 1
          unfold chunk
          apply List.map_congr_left
          intro j _
          rw [upd_ne _ _ (by omega)]
      exact this m (k + 16) (by omega)
  | m + 1, k, i + 1, h, h0, h1, h2 => by
    have := chunks_set E d v m (k + 16) i (by omega) (fun _ _ _ => trivial) (by omega) (by omega)
    simp only [chunks, lset]
    rw [show k + 16 * (i + 1) = k + 16 + 16 * i from by omega, this]
    congr 1
    unfold chunk
    apply List.map_congr_left
    intro j hj
    have hj := List.mem_range.1 hj
    rw [upd_ne _ _ (by omega)]

theorem rvOf_set (N : Nat) (E : Env) (d : Nat) (v : Value) (h : d < N) : (rvOf N E).set d v = rvOf N (upd E d v) := by
  have hq : d / 16 < N / 16 + 1 := by have := Nat.div_le_div_right (c := 16) (Nat.le_of_lt h); omega
  unfold rvOf RV.set
  simp only
  rw [chunks_get _ _ _ _ hq]
  have := chunks_set (fun t => if t < N then E t else undef) d v (N / 16 + 1) 0 (d / 16) hq (fun _ _ _ => trivial) (by omega) (by omega)
  rw [show d - (0 + 16 * (d / 16)) = d % 16 from by omega] at this
  rw [this]
  congr 2
  funext t
  simp only [upd]
  by_cases e : t = d
  · subst e; simp [h]
  · simp [e]

theorem put_some (N : Nat) (E : Env) (ds : List Deferred) (d : Nat) (v : Value) (h : d < N) : (mkA N E ds).put (some d) v = mkA N (upd E d v) ds := by
  have hb : Nat.blt d (mkA N E ds).env.n = true := blt_of h
  simp only [AAct.put, hb, if_true]
  show (⟨(rvOf N E).set d v, ds⟩ : AAct) = _
  rw [rvOf_set N E d v h]; rfl
theorem put_none (a : AAct) (v : Value) : a.put none v = a := rfl
theorem tmp_mk (N : Nat) (E : Env) (ds : List Deferred) (t : Nat) (h : t < N) : (mkA N E ds).tmp t = E t := by
  have hb : Nat.blt t (mkA N E ds).env.n = true := blt_of h
  simp only [AAct.tmp, hb, if_true]
  exact rvOf_get N E t h
theorem aeval_tmp {P : Program} (N : Nat) (E : Env) (ds : List Deferred) (t : Nat) (h : t < N) : aeval P (mkA N E ds) (.tmp t) = some (E t) := by rw [aeval, tmp_mk N E ds t h]
theorem mk_defers (N : Nat) (E : Env) (ds : List Deferred) : (mkA N E ds).defers = ds := rfl
theorem mk_defer (N : Nat) (E : Env) (ds es : List Deferred) : (⟨(mkA N E ds).env, es⟩ : AAct) = mkA N E es := rfl

theorem entryE_get : ∀ (l : List Value) (E : Env) (k t : Nat), entryE E k l t = if k ≤ t ∧ t < k + l.length then l.getD (t - k) undef else E t
  | [], E, k, t => by rw [entryE, if_neg (by simp only [List.length_nil]; omega)]
  | v :: r, E, k, t => by
    rw [entryE, entryE_get r]
    simp only [List.length_cons]
    by_cases e : t = k
    · subst e
      rw [if_neg (by omega), if_pos (by omega), upd_same, Nat.sub_self]; rfl
    · by_cases h : k + 1 ≤ t ∧ t < k + 1 + r.length
      · rw [if_pos h, if_pos (by omega)]
        obtain ⟨j, hj⟩ : ∃ j, t - k = j + 1 := ⟨t - k - 1, by omega⟩
        rw [hj, List.getD_cons_succ, show t - (k + 1) = j from by omega]
      · rw [if_neg h, if_neg (by omega), upd_ne _ _ e]

section
variable {P : Program} {ro : Option Nat} {H H1 : AHeap}

theorem Runs.congr {c : Code} {a a' a1 : AAct} {e : Exit} (h : Runs P ro c a' H e a1 H1) (ha : ∀ ρ : Ren, ρ.act a = ρ.act a') (hs : ∀ N, scA N a → scA N a') : Runs P ro c a H e a1 H1 := by
  intro ρ w F n Q hF hFr hro r hsa hQ
  rw [ha]
  exact h ρ w F n Q hF hFr hro r (hs _ hsa) hQ

theorem callA_fn (hmix : P.follows .mixedOrders = true) {f : FuncId} {args : List Value} {fn : Func} {c : Code} {N : Nat} {R : Out → AHeap → Prop} (hfn : P.funcs[f]? = some fn) (hc : fn.body = some c) (hN : fn.ntmps = N) (hle : args.length ≤ N)
    (h : wpA P none c (endA P fn R) (mkA N (entryE env0 0 args) []) H) : CallA P f args H R := by
  obtain ⟨e, a1, H2, hr, hq⟩ := wpA_sound hmix c _ _ _ h
  have hg : ∀ t, t < N → ({ RV.ofList args with n := N } : RV).get t = (rvOf N (entryE env0 0 args)).get t := by
    intro t ht
    rw [rvOf_get _ _ _ ht, entryE_get]
    have h1 : ({ RV.ofList args with n := N } : RV).get t = args.getD t undef := RV.get_ofList args t
    rw [h1]
    by_cases h2 : t < args.length
    · rw [if_pos (by omega)]; simp
    · rw [if_neg (by omega), List.getD, List.getElem?_eq_none (Nat.not_lt.1 h2)]; rfl
  have hr' : Runs P none c ⟨{ RV.ofList args with n := fn.ntmps }, []⟩ H e a1 H2 := by
    rw [hN]
    refine hr.congr (fun ρ => ?_) (fun M hs => ?_)
    · refine act_same ρ ρ rfl rfl (fun t ht => ?_)
      have := hg t ht
      simp only [mkA]
      rw [this]
    · refine ⟨fun i hi => ?_, fun d hd => by cases hd⟩
      have := hs.1 i hi
      rw [hg i hi] at this
      exact this
  have key : ∀ (u : FrameMode), leaveA P fn a1 a1.defers u H2 R → (∀ out H1, leaveF P noRec fn a1 a1.defers u H2 = some (out, H1) → endF P noRec fn (e, a1, H2) = some (out, H1)) → CallA P f args H R := by
    intro u hl he
    obtain ⟨out, H1, h1, h3⟩ := leaveA_leave _ _ _ hl
    exact ⟨out, H1, enter_core noRec_sound hfn hc (by omega) hr' (he out H1 h1), h3⟩
  cases e with
  | normal => exact key .returning hq (fun _ _ h => h)
  | ret => exact key .returning hq (fun _ _ h => h)
  | panic ch => exact key (.panicking ch) hq (fun _ _ h => h)
  | exit id => exact hq.elim
  | goto l => exact hq.elim
  | outgrown => exact hq.elim

theorem nextA_mono {x : ANext} {R R' : Out → AHeap → Prop} (hR : ∀ out H1, R out H1 → R' out H1) (h : nextA P x H R) : nextA P x H R' := by
  cases x with
  | value v => exact hR _ _ h
  | skip => exact hR _ _ h
  | enter f args => exact CallA.mono h hR
  | round r => obtain ⟨out, H1, h2, h4⟩ := h; exact ⟨out, H1, h2, hR _ _ h4⟩
  | panic v => exact hR _ _ h

theorem opA_mono {op : Op} {a : AAct} {R R' : Out → AHeap → Prop} (hR : ∀ out H1, R out H1 → R' out H1) (h : opA P op a H R) : opA P op a H R' := by
  unfold opA at *
  split at h
  · rename_i hx; exact nextA_mono hR h
  · exact h.elim

theorem wpOps_mono {P : Program} {ro : Option Nat} {ops : Array Oper} {Q Q' : Exit → AAct → AHeap → Prop} (hQ : ∀ e a H, Q e a H → Q' e a H) : ∀ (l : List Oper) (a : AAct) (H : AHeap), wpOps P ro ops l a H Q → wpOps P ro ops l a H Q'
  | [], a, H, h => hQ _ _ _ h
  | o :: rest, a, H, h => by
    simp only [wpOps] at *
    cases hw : wantA ops a o with
    | none => rw [hw] at h; exact h.elim
    | some b =>
      rw [hw] at h
      cases b with
      | false => exact wpOps_mono hQ rest _ _ h
      | true =>
        simp only at h ⊢
        have key : ∀ {H : AHeap}, opA P o.op a H (fun out H1 => match out with
            | .ok v => wpOps P ro ops rest (a.put o.dst v) H1 Q
            | .error ch => Q (.panic ch) a H1) → opA P o.op a H (fun out H1 => match out with
            | .ok v => wpOps P ro ops rest (a.put o.dst v) H1 Q'
            | .error ch => Q' (.panic ch) a H1) := fun h => opA_mono (fun out H1 h => by
          cases out with
          | ok v => exact wpOps_mono hQ rest _ _ h
          | error ch => exact hQ _ _ _ h) h
        cases ro with
        | some l => exact key h
        | none =>
          cases hd : aDefer P a o.op with
          | none => rw [hd] at h; exact key h
          | some d => rw [hd] at h; exact wpOps_mono hQ rest _ _ h

theorem wpDraw_mono {ops : Array Oper} {anc : List Nat} {Q Q' : AAct → AHeap → Prop} (hQ : ∀ a H, Q a H → Q' a H) : ∀ (l : List Oper) (i : Nat) (fps : List Fp) (a : AAct) (H : AHeap), wpDraw P ops anc l i fps a H Q → wpDraw P ops anc l i fps a H Q'
  | [], _, _, a, H, h => hQ _ _ h
  | o :: rest, i, fps, a, H, h => by
    simp only [wpDraw] at *
    cases hw : wantA ops a o with
    | none => rw [hw] at h; exact h.elim
    | some b =>
      rw [hw] at h
      cases b with
      | false => exact wpDraw_mono hQ rest _ _ _ _ h
      | true =>
        obtain ⟨F, v, g, h1, h2, h3, h4, h5⟩ := h
        exact ⟨F, v, g, h1, h2, h3, h4, wpDraw_mono hQ rest _ _ _ _ h5⟩

theorem rangeA_mono {fv : Value} {ps : Array Tmp} {assign body : Code} {a : AAct} {Q Q' : Exit → AAct → AHeap → Prop} (hQ : ∀ e a H, Q e a H → Q' e a H) (h : rangeA P ro fv ps assign body a H Q) : rangeA P ro fv ps assign body a H Q' := by
  unfold rangeA at *
  split at h
  · split at h
    · rename_i l mark H1 hen
      split at h
      · rename_i g args hin
        refine CallA.mono h fun out H2 h => ?_
        cases out with
        | ok v => obtain ⟨lp, le, e, h1, h2, h3, h4⟩ := h; exact ⟨lp, le, e, h1, h2, h3, hQ _ _ _ h4⟩
        | error ch => exact hQ _ _ _ h
      · exact h.elim
    · exact h.elim
  · exact h.elim

theorem seqQ_mono {W W' : AAct → AHeap → Prop} {Q Q' : Exit → AAct → AHeap → Prop} (hW : ∀ a H, W a H → W' a H) (hQ : ∀ e a H, Q e a H → Q' e a H) : ∀ e a H, seqQ W Q e a H → seqQ W' Q' e a H := by
  intro e a H h
  cases e with
  | normal => exact hW _ _ h
  | _ => exact hQ _ _ _ h

theorem wpA_mono : ∀ (c : Code) {Q Q' : Exit → AAct → AHeap → Prop} (a : AAct) (H : AHeap), (∀ e a H, Q e a H → Q' e a H) → wpA P ro c Q a H → wpA P ro c Q' a H := by
  intro c
  induction c with
  | skip => exact fun a H hQ h => hQ _ _ _ h
  | label l => exact fun a H hQ h => hQ _ _ _ h
  | exit id => exact fun a H hQ h => hQ _ _ _ h
  | goto l => exact fun a H hQ h => hQ _ _ _ h
  | ret => exact fun a H hQ h => hQ _ _ _ h
  | seq x y ihx ihy =>
    intro Q Q' a H hQ h
    simp only [wpA] at *
    exact ihx a H (seqQ_mono (fun a H => ihy a H hQ) hQ) h
  | cond c x y ihx ihy =>
    intro Q Q' a H hQ h
    simp only [wpA, condA] at *
    split at h
    · rename_i hc; exact ihx a H hQ h
    · rename_i hc; exact ihy a H hQ h
    · exact h.elim
  | block id b ih =>
    intro Q Q' a H hQ h
    simp only [wpA] at *
    exact ih a H (fun e a H h => hQ _ _ _ h) h
  | scope b ih =>
    intro Q Q' a H hQ h
    simp only [wpA] at *
    refine ih a H (fun e a H h => ?_) h
    cases e with
    | goto l => exact h
    | _ => exact hQ _ _ _ h
  | loop b ih =>
    intro Q Q' a H hQ h
    simp only [wpA] at *
    obtain ⟨m, h⟩ := h
    refine ⟨m, ?_⟩
    have key : ∀ (m : Nat) (a : AAct) (H : AHeap), roundsA (fun Q' a' H' => wpA P ro b Q' a' H') Q m a H → roundsA (fun Q' a' H' => wpA P ro b Q' a' H') Q' m a H := by
      intro m
      induction m with
      | zero => exact fun a H h => h
      | succ m ihm =>
        intro a H h
        simp only [roundsA] at *
        refine ih a H (fun e a H h => ?_) h
        cases e with
        | normal => exact ihm a H h
        | _ => exact hQ _ _ _ h
    exact key m a H h
  | region id ops draw =>
    intro Q Q' a H hQ h
    simp only [wpA] at *
    cases draw with
    | true => exact ⟨h.1, wpDraw_mono (fun a H => hQ _ a H) _ _ _ _ _ h.2⟩
    | false => exact wpOps_mono hQ _ _ _ h
  | rangeFunc f ps assign body _ _ =>
    intro Q Q' a H hQ h
    simp only [wpA] at *
    split at h
    · exact rangeA_mono hQ h
    · exact h.elim
  | refuse s => exact fun a H hQ h => h.elim

theorem wpA_loop {b : Code} {Q : Exit → AAct → AHeap → Prop} (I : Nat → AAct → AHeap → Prop) {k : Nat} {a : AAct} (h0 : I k a H)
    (h : ∀ k a H, I k a H → wpA P ro b (seqQ (fun a1 H1 => ∃ j, j < k ∧ I j a1 H1) Q) a H) : wpA P ro (.loop b) Q a H := by
  have key : ∀ m k a H, k < m → I k a H → roundsA (fun Q' a' H' => wpA P ro b Q' a' H') Q m a H := by
    intro m
    induction m with
    | zero => intro k a H hk; omega
    | succ m ih =>
      intro k a H hk hI
      simp only [roundsA]
      refine wpA_mono b a H (fun e a1 H1 h1 => ?_) (h k a H hI)
      cases e with
      | normal =>
        obtain ⟨j, hj, hI'⟩ := h1
        exact ih j a1 H1 (by omega) hI'
      | _ => exact h1
  exact ⟨k + 1, key (k + 1) k a H (Nat.lt_succ_self _) h0⟩

theorem merge_self (H : AHeap) (F : List Nat) : H.merge (H.restrict F) = H := by
  obtain ⟨h1, h2, h3⟩ := restrict_next H F
  unfold AHeap.merge
  rw [h3, h1, Nat.sub_self]
  rfl

def pureOp : Op → Bool
  | .move _ => true
  | .assign _ => true
  | .pick _ _ _ => true
  | .build _ _ => true
  | .nilCheck _ => true
  | .unOp _ _ _ => true
  | .makeInterface _ _ => true
  | .makeFunc _ _ _ => true
  | .fieldAddr _ _ _ => true
  | .field _ _ _ => true
  | .indexAddr _ _ _ => true
  | .index _ _ _ => true
  | .typeAssert _ _ _ _ => true
  | .extract _ _ => true
  | _ => false

theorem pure_fun {op : Op} (hp : pureOp op = true) (a : AAct) : ∃ f : Option ANext, ∀ G : AHeap, aop op P a G = f.map fun x => (x, G) := by
  cases op with
  | move x => exact ⟨(aeval P a x).map .value, fun G => by simp only [aop, xMove, rv]; cases aeval P a x <;> rfl⟩
  | assign x => exact ⟨(aeval P a x).map .value, fun G => by simp only [aop, xMove, rv]; cases aeval P a x <;> rfl⟩
  | pick c x y =>
    refine ⟨(match aeval P a c with
      | some (.bool true) => (aeval P a x).map .value
      | some (.bool false) => (aeval P a y).map .value
      | _ => none), fun G => ?_⟩
    simp only [aop, xPick, rv, Option.bind_eq_bind]
    cases aeval P a c with
    | none => rfl
    | some v =>
      cases v with
      | bool b => cases b <;> simp only [Option.bind_some] <;> (first | cases aeval P a x <;> rfl | cases aeval P a y <;> rfl)
      | _ => rfl
  | build t ps => exact ⟨((pairs P a ps.toList).bind (aBuild P t)).map .value, fun G => by
      simp only [aop, xBuild, rv, Option.bind_eq_bind]
      cases pairs P a ps.toList with
      | none => rfl
      | some l => simp only [Option.bind_some]; cases aBuild P t l <;> rfl⟩
  | nilCheck x => exact ⟨(aeval P a x).bind fun v => (nilV P (AHeap.none 0) v).map (·.1), fun G => by
      simp only [aop, xNil, Option.bind_eq_bind]
      cases aeval P a x with
      | none => rfl
      | some v =>
        simp only [Option.bind_some]
        unfold nilV
        split <;> rfl⟩
  | unOp op t x => exact ⟨(aeval P a x).bind fun v => (unV P (AHeap.none 0) op v).map (·.1), fun G => by
      simp only [aop, xUn, Option.bind_eq_bind]
      cases aeval P a x with
      | none => rfl
      | some v =>
        simp only [Option.bind_some]
        unfold unV
        split
        · rfl
        · rfl
        · split
          · simp only [Option.map_map]; cases aPlain P (Op.unary op v) <;> rfl
          · rfl⟩
  | makeInterface t x => exact ⟨(aeval P a x).bind fun v => (ifaceV P (AHeap.none 0) t v).map (·.1), fun G => by
      simp only [aop, xIface, Option.bind_eq_bind]
      cases aeval P a x with
      | none => rfl
      | some v => simp only [Option.bind_some]; unfold ifaceV; split <;> rfl⟩
  | makeFunc fn p q => exact ⟨(aevals P a p.toList).bind fun u => (aevals P a q.toList).bind fun v => (funcV (AHeap.none 0) fn u v).map (·.1), fun G => by
      simp only [aop, xFunc, Option.bind_eq_bind]
      cases aevals P a p.toList with
      | none => rfl
      | some u =>
        cases aevals P a q.toList with
        | none => rfl
        | some v => simp only [Option.bind_some]; unfold funcV; split <;> rfl⟩
  | fieldAddr t x f => exact ⟨(aeval P a x).bind fun v => (aFieldAddr P t v f).map .value, fun G => by
      simp only [aop, xFieldAddr, rv, Option.bind_eq_bind]
      cases aeval P a x with
      | none => rfl
      | some v => simp only [Option.bind_some]; cases aFieldAddr P t v f <;> rfl⟩
  | field t x f => exact ⟨(aeval P a x).bind fun v => (aField P t v f).map .value, fun G => by
      simp only [aop, xField, rv, Option.bind_eq_bind]
      cases aeval P a x with
      | none => rfl
      | some v => simp only [Option.bind_some]; cases aField P t v f <;> rfl⟩
  | indexAddr t x i => exact ⟨(aeval P a x).bind fun v => (aeval P a i).bind fun j => (aIndexAddr P t v j).map .value, fun G => by
      simp only [aop, xIndexAddr, rv, Option.bind_eq_bind]
      cases aeval P a x with
      | none => rfl
      | some v =>
        cases aeval P a i with
        | none => rfl
        | some j => simp only [Option.bind_some]; cases aIndexAddr P t v j <;> rfl⟩
  | index t x i => exact ⟨(aeval P a x).bind fun v => (aeval P a i).bind fun j => (indexV P (AHeap.none 0) t v j).map (·.1), fun G => by
      simp only [aop, xIndex, Option.bind_eq_bind]
      cases aeval P a x with
      | none => rfl
      | some v =>
        cases aeval P a i with
        | none => rfl
        | some j =>
          simp only [Option.bind_some]
          unfold indexV
          split
          · rfl
          · split
            · simp only [Option.map_map]; cases aPlain P (Instr.index t v j) <;> rfl
            · rfl⟩
  | typeAssert x t u ok => exact ⟨(aeval P a x).bind fun v => (aTypeAssert P v u ok).map .value, fun G => by
      simp only [aop, xTypeAssert, rv, Option.bind_eq_bind]
      cases aeval P a x with
      | none => rfl
      | some v => simp only [Option.bind_some]; cases aTypeAssert P v u ok <;> rfl⟩
  | extract x i => exact ⟨(aeval P a x).bind fun v => (extractV (AHeap.none 0) i v).map (·.1), fun G => by
      simp only [aop, xExtract, Option.bind_eq_bind]
      cases aeval P a x with
      | none => rfl
      | some v =>
        simp only [Option.bind_some]
        unfold extractV
        split
        · rename_i vs; simp only [rv]; cases vs.toList[i]? <;> rfl
        · rfl⟩
  | _ => cases hp

def Meets (anc : Nat) (F : List Nat) (W O : List Nat) (r : Fp) : Prop :=
  anc.testBit r.i = true ∨ ((∀ n ∈ r.W, n ∉ F) ∧ (∀ n ∈ r.F, n ∉ W) ∧ (r.lo < r.hi → (∀ n ∈ F, n < r.lo ∨ r.hi ≤ n) ∧ (∀ n ∈ O, n < r.lo ∨ r.hi ≤ n)))

theorem disj_of {a b : List Nat} (h : ∀ n ∈ a, n ∉ b) : disj a b = true := by
  refine List.all_eq_true.2 fun n hn => ?_
  cases hm : memN n b with
  | false => rfl
  | true => exact absurd (memN_iff.1 hm) (h n hn)

theorem avoids_of {lo hi : Nat} {l : List Nat} (h : ∀ n ∈ l, n < lo ∨ hi ≤ n) : avoids lo hi l = true := by
  refine List.all_eq_true.2 fun n hn => ?_
  rcases h n hn with h | h
  · rw [blt_of h]; rfl
  · rw [show Nat.ble hi n = true from Nat.ble_eq ▸ h]; simp

theorem fpOk_of {anc : Nat} {F : List Nat} {v : Value} {g : AHeap} {next : Nat} {r : Fp} (h : Meets anc F g.dirty (outIds v g next) r) : fpOk anc F v g next r = true := by
  rcases h with h | ⟨h1, h2, h3⟩
  · simp [fpOk, h]
  · have e1 := disj_of h1
    have e2 := disj_of h2
    by_cases hlt : r.lo < r.hi
    · obtain ⟨h4, h5⟩ := h3 hlt
      simp [fpOk, e1, e2, avoids_of h4, avoids_of h5]
    · have e3 : Nat.ble r.hi r.lo = true := Nat.ble_eq ▸ Nat.not_lt.1 hlt
      simp [fpOk, e1, e2, e3]

def NoFp (r : Fp) : Prop := r.F = [] ∧ r.W = [] ∧ r.hi ≤ r.lo

theorem fpOk_no {anc : Nat} {F : List Nat} {v : Value} {g : AHeap} {next : Nat} {r : Fp} (h : NoFp r) : fpOk anc F v g next r = true := by
  refine fpOk_of (.inr ⟨?_, ?_, fun hlt => ?_⟩)
  · rw [h.2.1]; simp
  · rw [h.1]; simp
  · have := h.2.2; omega

theorem wpDraw_weaken {ops : Array Oper} {anc : List Nat} {Q : AAct → AHeap → Prop} : ∀ (rest : List Oper) (i : Nat) (fps fps' : List Fp) (a : AAct) (H : AHeap), (∀ r ∈ fps', r ∈ fps ∨ NoFp r) → wpDraw P ops anc rest i fps a H Q → wpDraw P ops anc rest i fps' a H Q
  | [], _, _, _, a, H, _, h => h
  | o :: rest, i, fps, fps', a, H, hf, h => by
    simp only [wpDraw] at *
    cases hw : wantA ops a o with
    | none => rw [hw] at h; exact h.elim
    | some b =>
      rw [hw] at h
      cases b with
      | false => exact wpDraw_weaken rest _ fps fps' _ _ hf h
      | true =>
        obtain ⟨F, v, g, h1, h2, h3, h4, h5⟩ := h
        refine ⟨F, v, g, h1, h2, h3, fun r hr => ?_, wpDraw_weaken rest _ _ _ _ _ (fun r hr => ?_) h5⟩
        · rcases hf r hr with h | h
          · exact h4 r h
          · exact fpOk_no h
        · rcases List.mem_cons.1 hr with rfl | hr
          · exact .inl (List.mem_cons_self ..)
          · rcases hf r hr with h | h
            · exact .inl (List.mem_cons_of_mem _ h)
            · exact .inr h

def IdsOk (anc : Nat) (fps : List Fp) (O : List Nat) : Prop := ∀ r ∈ fps, r.lo < r.hi → anc.testBit r.i = true ∨ ∀ n ∈ O, n < r.lo ∨ r.hi ≤ n

theorem wpDraw_reg {ops : Array Oper} {anc : List Nat} {o : Oper} {rest : List Oper} {i : Nat} {fps : List Fp} {a : AAct} {Q : AAct → AHeap → Prop} {v : Value} (hw : wantA ops a o = some true)
    (hx : ∀ G, aop o.op P a G = some (.value v, G)) (hids : IdsOk (anc.getD i 0) fps (idsV v))
    (h : wpDraw P ops anc rest (i + 1) fps (a.put o.dst v) H Q) : wpDraw P ops anc (o :: rest) i fps a H Q := by
  have hn := restrict_next H []
  simp only [wpDraw, hw]
  refine ⟨[], v, H.restrict [], opS_of (x := .value v) (g := H.restrict []) (hx _) ⟨rfl, rfl⟩, (by simp), (by rw [hn.2.2]; simp), ?_, ?_⟩
  · intro r hr
    refine fpOk_of ?_
    by_cases hlt : r.lo < r.hi
    · rcases hids r hr hlt with h | h
      · exact .inl h
      · refine .inr ⟨by simp, by rw [hn.2.2]; simp, fun _ => ⟨by simp, fun n hn' => h n ?_⟩⟩
        simp only [outIds, hn.2.2, hn.1, Nat.sub_self, rangeFrom, List.append_nil, List.flatMap_nil] at hn'
        exact hn'
    · exact .inr ⟨by simp, by rw [hn.2.2]; simp, fun h => absurd h hlt⟩
  · rw [merge_self]
    refine wpDraw_weaken rest _ fps _ _ _ (fun r hr => ?_) h
    rcases List.mem_cons.1 hr with rfl | hr
    · exact .inr ⟨rfl, hn.2.2, by simp [hn.1]⟩
    · exact .inl hr

theorem wpDraw_pure {ops : Array Oper} {anc : List Nat} {o : Oper} {rest : List Oper} {i : Nat} {fps : List Fp} {a : AAct} {Q : AAct → AHeap → Prop} {v : Value} (hp : pureOp o.op = true) (hw : wantA ops a o = some true)
    (hx : aop o.op P a H = some (.value v, H)) (hids : IdsOk (anc.getD i 0) fps (idsV v))
    (h : wpDraw P ops anc rest (i + 1) fps (a.put o.dst v) H Q) : wpDraw P ops anc (o :: rest) i fps a H Q := by
  obtain ⟨f, hf⟩ := pure_fun (P := P) hp a
  refine wpDraw_reg hw (fun G => ?_) hids h
  have h1 := hf H
  rw [hx] at h1
  rw [hf]
  cases hfv : f with
  | none => rw [hfv] at h1; cases h1
  | some y => rw [hfv] at h1; simp only [Option.map_some, Option.some.injEq, Prod.mk.injEq] at h1 ⊢; exact ⟨h1.1.symm, trivial⟩

theorem wpDraw_quiet {ops : Array Oper} {anc : List Nat} {o : Oper} {rest : List Oper} {i : Nat} {fps : List Fp} {a : AAct} {Q : AAct → AHeap → Prop} {v : Value} (F : List Nat) (hw : wantA ops a o = some true)
    (hop : OpS P a (H.restrict F) o (.ok v) (H.restrict F)) (hF : ∀ n ∈ F, H.get n ≠ none) (hm : ∀ r ∈ fps, Meets (anc.getD i 0) F [] (idsV v) r)
    (h : wpDraw P ops anc rest (i + 1) (⟨i, F, [], H.next, H.next⟩ :: fps) (a.put o.dst v) H Q) : wpDraw P ops anc (o :: rest) i fps a H Q := by
  have hn := restrict_next H F
  simp only [wpDraw, hw]
  refine ⟨F, v, H.restrict F, hop, hF, (by rw [hn.2.2]; simp), fun r hr => fpOk_of ?_, ?_⟩
  · simp only [outIds, hn.2.2, hn.1, Nat.sub_self, rangeFrom, List.append_nil, List.flatMap_nil]
    exact hm r hr
  · rw [merge_self, hn.2.2, hn.1]; exact h

theorem wpDraw_load {ops : Array Oper} {anc : List Nat} {o : Oper} {rest : List Oper} {i : Nat} {fps : List Fp} {a : AAct} {Q : AAct → AHeap → Prop} {t : TypeId} {x : Operand} {v : Value} {n off : Nat} (ho : o.op = .load t x) (hw : wantA ops a o = some true)
    (hx : aeval P a x = some (.pointer (some ⟨n, off, none⟩))) (hl : aLoad P H t (.pointer (some ⟨n, off, none⟩)) = some v) (hm : ∀ r ∈ fps, Meets (anc.getD i 0) [n] [] (idsV v) r)
    (h : wpDraw P ops anc rest (i + 1) (⟨i, [n], [], H.next, H.next⟩ :: fps) (a.put o.dst v) H Q) : wpDraw P ops anc (o :: rest) i fps a H Q := by
  have hne : H.get n ≠ none := by
    intro hg
    simp [aLoad, cellsR, hg] at hl
  refine wpDraw_quiet [n] hw ?_ (by simpa using hne) hm h
  have hg : (H.restrict [n]).get n = H.get n := by rw [restrict_get]; simp
  have hl' : aLoad P (H.restrict [n]) t (.pointer (some ⟨n, off, none⟩)) = some v := by
    rw [← hl]
    simp only [aLoad, cellsR, hg]
  refine opS_of (x := .value v) (g := H.restrict [n]) ?_ ⟨rfl, rfl⟩
  rw [ho]
  simp only [aop, xLoad, hx, Option.bind_eq_bind, Option.bind_some, hl']
  rfl

end
end Go.Ax

/- Walks over abstract heaps: blocks of cells. -/
namespace Go.Ax
section
variable {P : Program} {H : AHeap}

def Blk (H : AHeap) (n : Nat) (e : TypeId) (o : Bool) (l : List Value) : Prop := ∃ rv, cellsAt H n = some (rv, e, o) ∧ rv.n = l.length ∧ ∀ i, i < l.length → rv.get i = l.getD i undef

theorem Blk.load {n off : Nat} {e t : TypeId} {o : Bool} {l : List Value} (h : Blk H n e o l) (ht : aggT P t = some false) (hoff : off < l.length) : aLoad P H t (.pointer (some ⟨n, off, none⟩)) = some (l.getD off undef) := by
  obtain ⟨rv, h1, h2, h3⟩ := h
  have hb : Nat.blt off rv.n = true := blt_of (by omega)
  simp only [aLoad, cellsR_of h1, ht, Option.bind_eq_bind, Option.bind_some, hb, if_true, h3 off hoff]

theorem Blk.gets {rv : RV} {l : List Value} (h2 : rv.n = l.length) (h3 : ∀ i, i < l.length → rv.get i = l.getD i undef) (off sz : Nat) (h : off + sz ≤ l.length) : rv.gets off sz = (l.drop off).take sz := by
  rw [RV.gets_eq]
  apply List.ext_getElem?
  intro i
  by_cases hi : i < sz
  · rw [List.getElem?_map, List.getElem?_range hi, List.getElem?_take_of_lt hi, List.getElem?_drop]
    have : off + i < l.length := by omega
    simp [h3 _ this, List.getD, this]
  · rw [List.getElem?_eq_none (by simpa using hi), List.getElem?_eq_none (by simp; omega)]

theorem Blk.loadAgg {n off sz : Nat} {e t : TypeId} {o : Bool} {l : List Value} (h : Blk H n e o l) (ht : aggT P t = some true) (hsz : szOf P t = some sz) (hoff : off + sz ≤ l.length) : aLoad P H t (.pointer (some ⟨n, off, none⟩)) = some (.agg ⟨(l.drop off).take sz⟩) := by
  obtain ⟨rv, h1, h2, h3⟩ := h
  have hb : Nat.ble (off + sz) rv.n = true := Nat.ble_eq ▸ (by omega)
  simp only [aLoad, cellsR_of h1, ht, hsz, Option.bind_eq_bind, Option.bind_some, hb, if_true, Blk.gets h2 h3 off sz hoff]

theorem Blk.ne_none {n : Nat} {e : TypeId} {o : Bool} {l : List Value} (h : Blk H n e o l) : H.get n ≠ none := by
  obtain ⟨rv, h1, _⟩ := h
  intro hg
  simp [cellsAt, hg] at h1

theorem Blk.of_get {G : AHeap} {n : Nat} {e : TypeId} {o : Bool} {l : List Value} (h : Blk H n e o l) (hg : G.get n = H.get n) : Blk G n e o l := by
  obtain ⟨rv, h1, h2⟩ := h
  exact ⟨rv, by simp only [cellsAt, hg] at *; exact h1, h2⟩

def splice (l : List Value) (off : Nat) (vs : List Value) : List Value := l.take off ++ vs ++ l.drop (off + vs.length)

def wr (H : AHeap) (n off : Nat) (vs : List Value) : AHeap := (aWrite H n off vs).getD H

theorem Blk.write {n off : Nat} {e : TypeId} {o : Bool} {l vs : List Value} (h : Blk H n e o l) (hoff : off + vs.length ≤ l.length) (h1 : vs.all one = true) (h2 : scbL H.next vs = true) : aWrite H n off vs = some (wr H n off vs) := by
  obtain ⟨rv, hc, hn, _⟩ := h
  have hb : Nat.ble (off + vs.length) rv.n = true := Nat.ble_eq ▸ (by omega)
  simp only [wr, aWrite, hc, Option.bind_eq_bind, Option.bind_some, hb, h1, h2, Bool.and_self, if_true, Option.getD_some]

theorem wr_eq {n off : Nat} {e : TypeId} {o : Bool} {l vs : List Value} (h : Blk H n e o l) (hoff : off + vs.length ≤ l.length) (h1 : vs.all one = true) (h2 : scbL H.next vs = true) :
    ∃ rv, cellsAt H n = some (rv, e, o) ∧ wr H n off vs = H.upd n (some ⟨.cells #[] e, o, rv.sets off vs⟩) := by
  obtain ⟨rv, hc, hn, _⟩ := h
  have hb : Nat.ble (off + vs.length) rv.n = true := Nat.ble_eq ▸ (by omega)
  exact ⟨rv, hc, by simp only [wr, aWrite, hc, Option.bind_eq_bind, Option.bind_some, hb, h1, h2, Bool.and_self, if_true, Option.getD_some]⟩

theorem wr_next (n off : Nat) (vs : List Value) : (wr H n off vs).next = H.next := by
  unfold wr aWrite
  cases hc : cellsAt H n with
  | none => rfl
  | some x =>
    obtain ⟨c, e, o⟩ := x
    simp only [Option.bind_eq_bind, Option.bind_some]
    split <;> rfl

theorem wr_get (n off : Nat) (vs : List Value) {m : Nat} (h : m ≠ n) : (wr H n off vs).get m = H.get m := by
  unfold wr aWrite
  cases hc : cellsAt H n with
  | none => rfl
  | some x =>
    obtain ⟨c, e, o⟩ := x
    simp only [Option.bind_eq_bind, Option.bind_some]
    split
    · simp only [Option.getD_some, AHeap.get_upd, if_neg h]
    · rfl

theorem wr_base (n off : Nat) (vs : List Value) : (wr H n off vs).base = H.base := by
  unfold wr aWrite
  cases hc : cellsAt H n with
  | none => rfl
  | some x =>
    obtain ⟨c, e, o⟩ := x
    simp only [Option.bind_eq_bind, Option.bind_some]
    split <;> rfl

theorem wr_dirty (n off : Nat) (vs : List Value) {m : Nat} (h : m ∈ (wr H n off vs).dirty) : m ∈ H.dirty ∨ (m = n ∧ n < H.base) := by
  unfold wr aWrite at h
  cases hc : cellsAt H n with
  | none => rw [hc] at h; exact .inl h
  | some x =>
    obtain ⟨c, e, o⟩ := x
    rw [hc] at h
    simp only [Option.bind_eq_bind, Option.bind_some] at h
    split at h
    · simp only [Option.getD_some, AHeap.upd] at h
      split at h
      · rename_i hb
        rcases List.mem_cons.1 h with rfl | h
        · exact .inr ⟨rfl, blt_lt hb⟩
        · exact .inl h
      · exact .inl h
    · exact .inl h

theorem Blk.wr_other {n m off : Nat} {e : TypeId} {o : Bool} {l vs : List Value} (h : Blk H m e o l) (hne : m ≠ n) : Blk (wr H n off vs) m e o l := h.of_get (wr_get n off vs hne)

theorem splice_length {l : List Value} {off : Nat} {vs : List Value} (h : off + vs.length ≤ l.length) : (splice l off vs).length = l.length := by simp [splice]; omega

theorem splice_get {l : List Value} {off : Nat} {vs : List Value} (h : off + vs.length ≤ l.length) (i : Nat) : (splice l off vs).getD i undef = if off ≤ i ∧ i < off + vs.length then vs.getD (i - off) undef else l.getD i undef := by
  unfold splice
  simp only [List.getD_eq_getElem?_getD]
  congr 1
  rw [List.append_assoc]
  by_cases h1 : i < off
  · rw [if_neg (by omega), List.getElem?_append_left (by simp; omega), List.getElem?_take_of_lt h1]
  · rw [List.getElem?_append_right (by simp; omega)]
    have e1 : i - (l.take off).length = i - off := by simp; omega
    rw [e1]
    by_cases h2 : i < off + vs.length
    · rw [if_pos (by omega), List.getElem?_append_left (by omega)]
    · rw [if_neg (by omega), List.getElem?_append_right (by omega), List.getElem?_drop, show off + vs.length + (i - off - vs.length) = i from by omega]

theorem Blk.wr_same {n off : Nat} {e : TypeId} {o : Bool} {l vs : List Value} (h : Blk H n e o l) (hoff : off + vs.length ≤ l.length) (h1 : vs.all one = true) (h2 : scbL H.next vs = true) : Blk (wr H n off vs) n e o (splice l off vs) := by
  obtain ⟨rv, hc, hw⟩ := wr_eq h hoff h1 h2
  obtain ⟨rv', hc', hn, hg⟩ := h
  rw [hc] at hc'
  cases hc'
  refine ⟨rv.sets off vs, ?_, ?_, fun i hi => ?_⟩
  · rw [hw]; simp [cellsAt, AHeap.get_upd]
  · rw [RV.n_sets, hn, splice_length hoff]
  · rw [splice_length hoff] at hi
    rw [RV.get_sets, splice_get hoff]
    split
    · rfl
    · exact hg i hi

def nw (H : AHeap) (e : TypeId) (l : List Value) (o : Bool) : AHeap := H.new ⟨.cells #[] e, o, RV.ofList l⟩

theorem aNew_nw {e : TypeId} {l : List Value} {o : Bool} (h : scbL H.next l = true) : aNew H e l o = some (nw H e l o) := by simp only [aNew, h, if_true, nw]
theorem nw_next (e : TypeId) (l : List Value) (o : Bool) : (nw H e l o).next = H.next + 1 := rfl
theorem nw_base (e : TypeId) (l : List Value) (o : Bool) : (nw H e l o).base = H.base := rfl
theorem nw_dirty (e : TypeId) (l : List Value) (o : Bool) : (nw H e l o).dirty = H.dirty := rfl
theorem nw_get (e : TypeId) (l : List Value) (o : Bool) {m : Nat} (h : m ≠ H.next) : (nw H e l o).get m = H.get m := by rw [nw, AHeap.get_new, if_neg h]
theorem Blk.nw_other {m : Nat} {e e' : TypeId} {o o' : Bool} {l l' : List Value} (h : Blk H m e o l) (hne : m ≠ H.next) : Blk (nw H e' l' o') m e o l := h.of_get (nw_get e' l' o' hne)
theorem Blk.nw_new (e : TypeId) (o : Bool) (l : List Value) : Blk (nw H e l o) H.next e o l :=
  ⟨RV.ofList l, by simp [cellsAt, nw, AHeap.get_new], by simp, fun i _ => RV.get_ofList l i⟩

end
end Go.Ax

/- Walks over abstract heaps: rewriting rules, one for each kind of operation. -/
namespace Go.Ax
section
variable {P : Program} {ro : Option Nat} {H : AHeap} {Q : Exit → AAct → AHeap → Prop} {a : AAct} {N : Nat} {E : Env} {ds : List Deferred}

def seqC (P : Program) (ro : Option Nat) (y : Code) (Q : Exit → AAct → AHeap → Prop) : Exit → AAct → AHeap → Prop := seqQ (fun a1 H1 => wpA P ro y Q a1 H1) Q
def blockC (id : Nat) (Q : Exit → AAct → AHeap → Prop) : Exit → AAct → AHeap → Prop := fun e a1 H1 => Q (outB id e) a1 H1
def condC (P : Program) (ro : Option Nat) (x y : Code) (Q : Exit → AAct → AHeap → Prop) (a : AAct) (H : AHeap) (v : Value) : Prop := condA (some v) (wpA P ro x Q a H) (wpA P ro y Q a H)

theorem w_seq {x y : Code} : wpA P ro (.seq x y) Q a H = wpA P ro x (seqC P ro y Q) a H := Eq.trans rfl rfl
theorem w_skip : wpA P ro .skip Q a H = Q .normal a H := Eq.trans rfl rfl
theorem w_label {l : Nat} : wpA P ro (.label l) Q a H = Q .normal a H := Eq.trans rfl rfl
theorem w_ret : wpA P ro .ret Q a H = Q .ret a H := Eq.trans rfl rfl
theorem w_exit {id : Nat} : wpA P ro (.exit id) Q a H = Q (.exit id) a H := Eq.trans rfl rfl
theorem w_block {id : Nat} {b : Code} : wpA P ro (.block id b) Q a H = wpA P ro b (blockC id Q) a H := Eq.trans rfl rfl
theorem w_cond {t : Nat} {x y : Code} (ht : t < N) : wpA P ro (.cond (.tmp t) x y) Q (mkA N E ds) H = condC P ro x y Q (mkA N E ds) H (E t) := by
  simp only [wpA, condC, aeval_tmp N E ds t ht]
theorem w_region {id : Nat} {l : List Oper} : wpA P ro (.region id ⟨l⟩ false) Q a H = wpOps P ro ⟨l⟩ l a H Q := Eq.trans rfl rfl

theorem seqC_normal {y : Code} : seqC P ro y Q .normal a H = wpA P ro y Q a H := Eq.trans rfl rfl
theorem seqC_ret {y : Code} : seqC P ro y Q .ret a H = Q .ret a H := Eq.trans rfl rfl
theorem seqC_exit {y : Code} {id : Nat} : seqC P ro y Q (.exit id) a H = Q (.exit id) a H := Eq.trans rfl rfl
theorem seqC_panic {y : Code} {ch : List PanicEntry} : seqC P ro y Q (.panic ch) a H = Q (.panic ch) a H := Eq.trans rfl rfl
theorem blockC_normal {id : Nat} : blockC id Q .normal a H = Q .normal a H := Eq.trans rfl rfl
theorem blockC_ret {id : Nat} : blockC id Q .ret a H = Q .ret a H := Eq.trans rfl rfl
theorem blockC_panic {id : Nat} {ch : List PanicEntry} : blockC id Q (.panic ch) a H = Q (.panic ch) a H := Eq.trans rfl rfl
theorem blockC_exit {id : Nat} : blockC id Q (.exit id) a H = Q .normal a H := by simp [blockC, outB]
theorem blockC_other {id k : Nat} (h : k ≠ id) : blockC id Q (.exit k) a H = Q (.exit k) a H := by simp [blockC, outB, h]
theorem condC_true {x y : Code} : condC P ro x y Q a H (.bool true) = wpA P ro x Q a H := Eq.trans rfl rfl
theorem condC_false {x y : Code} : condC P ro x y Q a H (.bool false) = wpA P ro y Q a H := Eq.trans rfl rfl
theorem condC_split {x y : Code} {b : Bool} (h1 : b = true → wpA P ro x Q a H) (h2 : b = false → wpA P ro y Q a H) : condC P ro x y Q a H (.bool b) := by
  cases b
  · exact h2 rfl
  · exact h1 rfl

theorem endA_normal {fn : Func} {R : Out → AHeap → Prop} : endA P fn R .normal (mkA N E ds) H = leaveA P fn (mkA N E ds) ds .returning H R := Eq.trans rfl rfl
theorem endA_ret {fn : Func} {R : Out → AHeap → Prop} : endA P fn R .ret (mkA N E ds) H = leaveA P fn (mkA N E ds) ds .returning H R := Eq.trans rfl rfl
theorem leave_nil {fn : Func} {R : Out → AHeap → Prop} {rs : List ResultVar} (hr : fn.results = ⟨rs⟩) (vs : List Value) (h : resVal P H (mkA N E ds) rs = some vs) (hR : R (.ok (tup vs)) H) : leaveA P fn (mkA N E ds) [] .returning H R :=
  ⟨vs, by rw [hr]; exact h, hR⟩
theorem res_nil : resVal P H (mkA N E ds) [] = some [] := Eq.trans rfl rfl
theorem res_tmp {t : Nat} {rs : List ResultVar} {vs : List Value} (ht : t < N) (h : resVal P H (mkA N E ds) rs = some vs) : resVal P H (mkA N E ds) (.tmp t :: rs) = some (E t :: vs) := by
  simp only [resVal, h, Option.bind_eq_bind, Option.bind_some, tmp_mk N E ds t ht]
theorem res_cell {t : Nat} {u : TypeId} {rs : List ResultVar} {v : Value} {vs : List Value} (ht : t < N) (hl : aLoad P H u (E t) = some v) (h : resVal P H (mkA N E ds) rs = some vs) : resVal P H (mkA N E ds) (.cell t u :: rs) = some (v :: vs) := by
  simp only [resVal, h, Option.bind_eq_bind, Option.bind_some, tmp_mk N E ds t ht, hl]

def opC (P : Program) (ro : Option Nat) (ops : Array Oper) (rest : List Oper) (a : AAct) (dst : Option Tmp) (Q : Exit → AAct → AHeap → Prop) : Out → AHeap → Prop
  | .ok v, H1 => wpOps P ro ops rest (a.put dst v) H1 Q
  | .error ch, H1 => Q (.panic ch) a H1

def isDefer : Op → Bool
  | .defer _ => true
  | _ => false

theorem aDefer_none {a : AAct} {op : Op} (h : isDefer op = false) : aDefer P a op = none := by
  cases op <;> first | rfl | cases h

theorem w_op {ops : Array Oper} {o : Oper} {rest : List Oper} (hg : o.guard = none) (hd : isDefer o.op = false) : wpOps P ro ops (o :: rest) a H Q = opA P o.op a H (opC P ro ops rest a o.dst Q) := by
  have e : (fun out H1 => match out with
        | .ok v => wpOps P ro ops rest (a.put o.dst v) H1 Q
        | .error ch => Q (.panic ch) a H1) = opC P ro ops rest a o.dst Q := by
    funext out H1
    cases out <;> rfl
  simp only [wpOps, wantA, hg, aDefer_none hd, ← e] <;> (cases ro <;> rfl)

theorem w_nil {ops : Array Oper} : wpOps P ro ops [] a H Q = Q .normal a H := Eq.trans rfl rfl

def guardC (P : Program) (ro : Option Nat) (ops : Array Oper) (o : Oper) (rest : List Oper) (N : Nat) (E : Env) (ds : List Deferred) (H : AHeap) (Q : Exit → AAct → AHeap → Prop) (want : Bool) : Value → Prop
  | .bool b => if b = want then wpOps P ro ops (o :: rest) (mkA N E ds) H Q else wpOps P ro ops rest ((mkA N E ds).put o.dst undef) H Q
  | _ => wpOps P ro ops rest ((mkA N E ds).put o.dst undef) H Q

def dstOf (ops : Array Oper) (j : Nat) : Option Nat := (ops[j]?).bind (·.dst)

theorem w_guard {ops : Array Oper} {dst : Option Tmp} {op : Op} {ty : TypeId} {pos : String} {after : Array Edge} {j d : Nat} {want : Bool} {rest : List Oper} (hj : dstOf ops j = some d) (hd : d < N) :
    wpOps P ro ops (⟨dst, op, ty, pos, after, some (j, want)⟩ :: rest) (mkA N E ds) H Q = guardC P ro ops ⟨dst, op, ty, pos, after, none⟩ rest N E ds H Q want (E d) := by
  unfold dstOf at hj
  cases ho : ops[j]? with
  | none => rw [ho] at hj; cases hj
  | some oj =>
    rw [ho] at hj
    simp only [Option.bind_some] at hj
    have hw : wantA ops (mkA N E ds) ⟨dst, op, ty, pos, after, some (j, want)⟩ = (match E d with
        | .bool b => some (b == want)
        | _ => some false) := by
      simp only [wantA, ho, hj, tmp_mk N E ds d hd]
      cases E d <;> rfl
    have hn : wantA ops (mkA N E ds) ⟨dst, op, ty, pos, after, none⟩ = some true := Eq.trans rfl rfl
    cases hv : E d with
    | bool b =>
      rw [hv] at hw
      simp only [guardC]
      by_cases h : b = want
      · rw [if_pos h]
        have : (b == want) = true := by simpa using h
        simp only [wpOps, hw, this, hn]
      · rw [if_neg h]
        have : (b == want) = false := by simpa using h
        simp only [wpOps, hw, this]
    | _ => rw [hv] at hw; simp only [wpOps, hw, guardC]

theorem guardC_bool {ops : Array Oper} {o : Oper} {rest : List Oper} {want b : Bool} : guardC P ro ops o rest N E ds H Q want (.bool b) = if b = want then wpOps P ro ops (o :: rest) (mkA N E ds) H Q else wpOps P ro ops rest ((mkA N E ds).put o.dst undef) H Q := by simp only [guardC]

def valC (P : Program) (ro : Option Nat) (ops : Array Oper) (rest : List Oper) (N : Nat) (E : Env) (ds : List Deferred) (d : Nat) (H : AHeap) (Q : Exit → AAct → AHeap → Prop) : Option Value → Prop
  | some v => wpOps P ro ops rest (mkA N (upd E d v) ds) H Q
  | none => False

theorem valC_some {ops : Array Oper} {rest : List Oper} {d : Nat} {v : Value} : valC P ro ops rest N E ds d H Q (some v) = wpOps P ro ops rest (mkA N (upd E d v) ds) H Q := Eq.trans rfl rfl

def heapC (P : Program) (ro : Option Nat) (ops : Array Oper) (rest : List Oper) (N : Nat) (E : Env) (ds : List Deferred) (dst : Option Nat) (Q : Exit → AAct → AHeap → Prop) : Option (Value × AHeap) → Prop
  | some (v, H1) => wpOps P ro ops rest ((mkA N E ds).put dst v) H1 Q
  | none => False

theorem heapC_some {ops : Array Oper} {rest : List Oper} {d : Nat} {v : Value} {H1 : AHeap} (hd : d < N) : heapC P ro ops rest N E ds (some d) Q (some (v, H1)) = wpOps P ro ops rest (mkA N (upd E d v) ds) H1 Q := by
  simp only [heapC, put_some N E ds d v hd]
theorem heapC_skip {ops : Array Oper} {rest : List Oper} {v : Value} {H1 : AHeap} : heapC P ro ops rest N E ds none Q (some (v, H1)) = wpOps P ro ops rest (mkA N E ds) H1 Q := Eq.trans rfl rfl

section
variable {ops : Array Oper} {d : Nat} {ty : TypeId} {pos : String} {after : Array Edge} {rest : List Oper}

theorem w_rv {op : Op} {x : Option Value} (hx : isDefer op = false) (h : aop op P (mkA N E ds) H = rv H x) (hd : d < N) : wpOps P ro ops (⟨some d, op, ty, pos, after, none⟩ :: rest) (mkA N E ds) H Q = valC P ro ops rest N E ds d H Q x := by
  rw [w_op rfl hx]
  simp only [opA, h, rv]
  cases x with
  | none => rfl
  | some v => simp only [Option.map_some, nextA, opC, valC, put_some N E ds d v hd]

theorem w_rvh {op : Op} {dst : Option Nat} {x : Option (Value × AHeap)} (hx : isDefer op = false) (h : aop op P (mkA N E ds) H = rvh x) : wpOps P ro ops (⟨dst, op, ty, pos, after, none⟩ :: rest) (mkA N E ds) H Q = heapC P ro ops rest N E ds dst Q x := by
  rw [w_op rfl hx]
  simp only [opA, h, rvh]
  cases x with
  | none => rfl
  | some v => obtain ⟨v, H1⟩ := v; rfl

def opv (E : Env) : Operand → Value
  | .tmp t => E t
  | .const v => v
  | .func f => .func (.func f) #[] #[]
  | .global g => .pointer (some ⟨g, 0, none⟩)

def opOk (P : Program) (N : Nat) : Operand → Bool
  | .tmp t => Nat.blt t N
  | .const v => af v
  | .func _ => true
  | .global g => Nat.blt g P.globals.size

theorem aeval_opv {x : Operand} (h : opOk P N x = true) : aeval P (mkA N E ds) x = some (opv E x) := by
  cases x with
  | tmp t => exact aeval_tmp N E ds t (blt_lt h)
  | const v => simp only [opOk] at h; simp only [aeval, h, if_true, opv]
  | func f => rfl
  | global g => simp only [opOk] at h; simp only [aeval, h, if_true, opv]

theorem aevals_opv : ∀ {xs : List Operand}, xs.all (opOk P N) = true → aevals P (mkA N E ds) xs = some (xs.map (opv E))
  | [], _ => rfl
  | x :: xs, h => by
    simp only [List.all_cons, Bool.and_eq_true] at h
    simp only [aevals, aeval_opv h.1, aevals_opv h.2, Option.bind_eq_bind, Option.bind_some, List.map_cons]

theorem ok_tmp {t : Nat} (h : t < N) : opOk P N (.tmp t) = true := blt_of h
theorem ok_int {k : IntKind} {n : Int} : opOk P N (.const (.int k n)) = true := by simp only [opOk, af]
theorem ok_bool {b : Bool} : opOk P N (.const (.bool b)) = true := by simp only [opOk, af]
theorem ok_string {s : ByteArray} : opOk P N (.const (.string s)) = true := by simp only [opOk, af]
theorem ok_nilptr : opOk P N (.const (.pointer none)) = true := by simp only [opOk, af]
theorem ok_nilslice {n m : Nat} : opOk P N (.const (.slice none n m)) = true := by simp only [opOk, af]
theorem ok_niliface : opOk P N (.const .nilIface) = true := by simp only [opOk, af]
theorem ok_nilmap : opOk P N (.const (.map none)) = true := by simp only [opOk, af]
theorem ok_func {f : FuncId} : opOk P N (.func f) = true := by simp only [opOk]
theorem all_nil : ([] : List Operand).all (opOk P N) = true := by simp only [List.all_nil]
theorem all_cons {x : Operand} {r : List Operand} : (x :: r).all (opOk P N) = (opOk P N x && r.all (opOk P N)) := by simp only [List.all_cons]
theorem and_tt {b : Bool} : (true && b) = b := by simp only [Bool.true_and]

theorem opv_tmp {t : Nat} : opv E (.tmp t) = E t := by simp only [opv]
theorem opv_const {v : Value} : opv E (.const v) = v := by simp only [opv]
theorem opv_global {g : Nat} : opv E (.global g) = .pointer (some ⟨g, 0, none⟩) := by simp only [opv]
theorem opv_func {f : FuncId} : opv E (.func f) = .func (.func f) #[] #[] := by simp only [opv]

theorem w_move {x : Operand} (hx : opOk P N x = true) (hd : d < N) : wpOps P ro ops (⟨some d, .move x, ty, pos, after, none⟩ :: rest) (mkA N E ds) H Q = wpOps P ro ops rest (mkA N (upd E d (opv E x)) ds) H Q :=
  (w_rv (x := some (opv E x)) rfl (by simp only [aop, xMove, aeval_opv hx]) hd).trans valC_some
theorem w_assign {x : Operand} (hx : opOk P N x = true) (hd : d < N) : wpOps P ro ops (⟨some d, .assign x, ty, pos, after, none⟩ :: rest) (mkA N E ds) H Q = wpOps P ro ops rest (mkA N (upd E d (opv E x)) ds) H Q :=
  (w_rv (x := some (opv E x)) rfl (by simp only [aop, xMove, aeval_opv hx]) hd).trans valC_some
theorem w_typeAssert {x : Operand} {t u : TypeId} {ok : Bool} (hx : opOk P N x = true) (hd : d < N) : wpOps P ro ops (⟨some d, .typeAssert x t u ok, ty, pos, after, none⟩ :: rest) (mkA N E ds) H Q = valC P ro ops rest N E ds d H Q (aTypeAssert P (opv E x) u ok) :=
  w_rv rfl (by simp only [aop, xTypeAssert, aeval_opv hx, Option.bind_eq_bind, Option.bind_some]) hd
theorem w_fieldAddr {x : Operand} {t : TypeId} {f : Nat} (hx : opOk P N x = true) (hd : d < N) : wpOps P ro ops (⟨some d, .fieldAddr t x f, ty, pos, after, none⟩ :: rest) (mkA N E ds) H Q = valC P ro ops rest N E ds d H Q (aFieldAddr P t (opv E x) f) :=
  w_rv rfl (by simp only [aop, xFieldAddr, aeval_opv hx, Option.bind_eq_bind, Option.bind_some]) hd
theorem w_field {x : Operand} {t : TypeId} {f : Nat} (hx : opOk P N x = true) (hd : d < N) : wpOps P ro ops (⟨some d, .field t x f, ty, pos, after, none⟩ :: rest) (mkA N E ds) H Q = valC P ro ops rest N E ds d H Q (aField P t (opv E x) f) :=
  w_rv rfl (by simp only [aop, xField, aeval_opv hx, Option.bind_eq_bind, Option.bind_some]) hd
theorem w_indexAddr {x i : Operand} {t : TypeId} (hx : opOk P N x = true) (hi : opOk P N i = true) (hd : d < N) : wpOps P ro ops (⟨some d, .indexAddr t x i, ty, pos, after, none⟩ :: rest) (mkA N E ds) H Q = valC P ro ops rest N E ds d H Q (aIndexAddr P t (opv E x) (opv E i)) :=
  w_rv rfl (by simp only [aop, xIndexAddr, aeval_opv hx, aeval_opv hi, Option.bind_eq_bind, Option.bind_some]) hd
theorem w_load {x : Operand} {t : TypeId} (hx : opOk P N x = true) (hd : d < N) : wpOps P ro ops (⟨some d, .load t x, ty, pos, after, none⟩ :: rest) (mkA N E ds) H Q = valC P ro ops rest N E ds d H Q (aLoad P H t (opv E x)) :=
  w_rv rfl (by simp only [aop, xLoad, aeval_opv hx, Option.bind_eq_bind, Option.bind_some]) hd
def exV (i : Nat) : Value → Option Value
  | .tuple l => l.toList[i]?
  | _ => none
theorem exV_tuple {i : Nat} {l : List Value} : exV i (.tuple ⟨l⟩) = l[i]? := by simp only [exV]
theorem w_extract {x : Operand} {i : Nat} (hx : opOk P N x = true) (hd : d < N) : wpOps P ro ops (⟨some d, .extract x i, ty, pos, after, none⟩ :: rest) (mkA N E ds) H Q = valC P ro ops rest N E ds d H Q (exV i (opv E x)) :=
  w_rv rfl (by
    simp only [aop, xExtract, aeval_opv hx, Option.bind_eq_bind, Option.bind_some, extractV]
    cases opv E x <;> rfl) hd
def pickV (x y : Value) : Value → Option Value
  | .bool true => some x
  | .bool false => some y
  | _ => none
theorem pickV_true {x y : Value} : pickV x y (.bool true) = some x := by simp only [pickV]
theorem pickV_false {x y : Value} : pickV x y (.bool false) = some y := by simp only [pickV]
theorem pickV_bool {x y : Value} {b : Bool} : pickV x y (.bool b) = some (if b then x else y) := by cases b <;> simp [pickV]
theorem w_pick {c x y : Operand} (hc : opOk P N c = true) (hx : opOk P N x = true) (hy : opOk P N y = true) (hd : d < N) : wpOps P ro ops (⟨some d, .pick c x y, ty, pos, after, none⟩ :: rest) (mkA N E ds) H Q = valC P ro ops rest N E ds d H Q (pickV (opv E x) (opv E y) (opv E c)) :=
  w_rv rfl (by
    simp only [aop, xPick, aeval_opv hc, aeval_opv hx, aeval_opv hy, Option.bind_eq_bind, Option.bind_some]
    cases opv E c with
    | bool b => cases b <;> rfl
    | _ => rfl) hd
def nilW (P : Program) (v : Value) : Option Value :=
  match nilV P (AHeap.none 0) v with
  | some (.value y, _) => some y
  | _ => none
theorem nilW_ptr {p : Addr} : nilW P (.pointer (some p)) = some (.pointer (some p)) := by simp only [nilW, nilV]
theorem w_nilCheck {x : Operand} (hx : opOk P N x = true) (hd : d < N) (h : (nilW P (opv E x)).isSome = true) : wpOps P ro ops (⟨some d, .nilCheck x, ty, pos, after, none⟩ :: rest) (mkA N E ds) H Q = valC P ro ops rest N E ds d H Q (nilW P (opv E x)) :=
  w_rv rfl (by
    simp only [aop, xNil, aeval_opv hx, Option.bind_eq_bind, Option.bind_some]
    simp only [nilW] at h ⊢
    unfold nilV at h ⊢
    split <;> simp_all [rv]) hd
def notV : Value → Option Value
  | .bool b => some (.bool !b)
  | _ => none
theorem notV_bool {b : Bool} : notV (.bool b) = some (.bool !b) := by simp only [notV]
theorem w_not {x : Operand} {t : TypeId} (hx : opOk P N x = true) (hd : d < N) (h : (notV (opv E x)).isSome = true) : wpOps P ro ops (⟨some d, .unOp .not t x, ty, pos, after, none⟩ :: rest) (mkA N E ds) H Q = valC P ro ops rest N E ds d H Q (notV (opv E x)) :=
  w_rv rfl (by
    simp only [aop, xUn, aeval_opv hx, Option.bind_eq_bind, Option.bind_some]
    cases hv : opv E x with
    | bool b => rfl
    | _ => rw [hv] at h; cases h) hd
def negV : Value → Option Value
  | .int k n => some (.int k (k.wrap (0 - n)))
  | _ => none
theorem negV_int {k : IntKind} {n : Int} : negV (.int k n) = some (.int k (k.wrap (0 - n))) := by simp only [negV]
theorem w_neg {x : Operand} {t : TypeId} (hx : opOk P N x = true) (hd : d < N) (h : (negV (opv E x)).isSome = true) : wpOps P ro ops (⟨some d, .unOp .neg t x, ty, pos, after, none⟩ :: rest) (mkA N E ds) H Q = valC P ro ops rest N E ds d H Q (negV (opv E x)) :=
  w_rv rfl (by
    simp only [aop, xUn, aeval_opv hx, Option.bind_eq_bind, Option.bind_some]
    cases hv : opv E x with
    | int k n => rfl
    | _ => rw [hv] at h; cases h) hd
theorem w_bin {op : BinOp} {t u : TypeId} {x y : Operand} (hx : opOk P N x = true) (hy : opOk P N y = true) (hd : d < N) (h : (aBin P H op t (opv E x) (opv E y)).isSome = true) : wpOps P ro ops (⟨some d, .binOp op t x y u, ty, pos, after, none⟩ :: rest) (mkA N E ds) H Q = valC P ro ops rest N E ds d H Q (aBin P H op t (opv E x) (opv E y)) := by
  cases hv : aBin P H op t (opv E x) (opv E y) with
  | none => rw [hv] at h; cases h
  | some v => exact w_rv (x := some v) rfl (by simp only [aop, xBin, aeval_opv hx, aeval_opv hy, Option.bind_eq_bind, Option.bind_some, binV, hv]; rfl) hd
theorem isSome_some {α : Type} {v : α} : (some v).isSome = true := by simp only [Option.isSome_some]
theorem bin_add {t : TypeId} {k : IntKind} {x y : Int} : aBin P H .add t (.int k x) (.int k y) = some (.int k (k.wrap (x + y))) := by simp [aBin, intBin]
theorem bin_sub {t : TypeId} {k : IntKind} {x y : Int} : aBin P H .sub t (.int k x) (.int k y) = some (.int k (k.wrap (x - y))) := by simp [aBin, intBin]
theorem bin_mul {t : TypeId} {k : IntKind} {x y : Int} : aBin P H .mul t (.int k x) (.int k y) = some (.int k (k.wrap (x * y))) := by simp [aBin, intBin]
theorem bin_quo {t : TypeId} {k : IntKind} {x y : Int} (h : y ≠ 0) : aBin P H .quo t (.int k x) (.int k y) = some (.int k (k.wrap (x.tdiv y))) := by simp [aBin, intBin, h]
theorem bin_rem {t : TypeId} {k : IntKind} {x y : Int} (h : y ≠ 0) : aBin P H .rem t (.int k x) (.int k y) = some (.int k (x.tmod y)) := by simp [aBin, intBin, h]
theorem bin_eql {t : TypeId} {k : IntKind} {x y : Int} : aBin P H .eql t (.int k x) (.int k y) = some (.bool (decide (x = y))) := by simp [aBin, intBin]; rfl
theorem bin_neq {t : TypeId} {k : IntKind} {x y : Int} : aBin P H .neq t (.int k x) (.int k y) = some (.bool (decide (x ≠ y))) := by
  have : (x != y) = decide (x ≠ y) := by by_cases h : x = y <;> simp [h]
  simp [aBin, intBin, this]
theorem bin_lss {t : TypeId} {k : IntKind} {x y : Int} : aBin P H .lss t (.int k x) (.int k y) = some (.bool (decide (x < y))) := by simp [aBin, intBin]
theorem bin_leq {t : TypeId} {k : IntKind} {x y : Int} : aBin P H .leq t (.int k x) (.int k y) = some (.bool (decide (x ≤ y))) := by simp [aBin, intBin]
theorem bin_gtr {t : TypeId} {k : IntKind} {x y : Int} : aBin P H .gtr t (.int k x) (.int k y) = some (.bool (decide (y < x))) := by simp [aBin, intBin]
theorem bin_geq {t : TypeId} {k : IntKind} {x y : Int} : aBin P H .geq t (.int k x) (.int k y) = some (.bool (decide (y ≤ x))) := by simp [aBin, intBin]
theorem bin_eqb {t : TypeId} {x y : Bool} (h : P.underlying t = some .bool) : aBin P H .eql t (.bool x) (.bool y) = some (.bool (decide (x = y))) := by simp only [aBin, h, eqOp]; cases x <;> cases y <;> rfl
theorem bin_neb {t : TypeId} {x y : Bool} (h : P.underlying t = some .bool) : aBin P H .neq t (.bool x) (.bool y) = some (.bool (decide (x ≠ y))) := by simp only [aBin, h, eqOp]; cases x <;> cases y <;> rfl
theorem w_build {t : TypeId} {l : List (Nat × Operand)} (hd : d < N) : wpOps P ro ops (⟨some d, .build t ⟨l⟩, ty, pos, after, none⟩ :: rest) (mkA N E ds) H Q = valC P ro ops rest N E ds d H Q ((pairs P (mkA N E ds) l).bind (aBuild P t)) :=
  w_rv rfl (by
    simp only [aop, xBuild, Option.bind_eq_bind]
    cases pairs P (mkA N E ds) l <;> rfl) hd
def ifaceW (P : Program) (t : TypeId) (v : Value) : Option Value :=
  match P.underlying t with
  | some (.interface _) => none
  | some _ => some (.iface t v)
  | none => none
theorem w_iface {t : TypeId} {x : Operand} (hx : opOk P N x = true) (hd : d < N) : wpOps P ro ops (⟨some d, .makeInterface t x, ty, pos, after, none⟩ :: rest) (mkA N E ds) H Q = valC P ro ops rest N E ds d H Q (ifaceW P t (opv E x)) :=
  w_rv rfl (by
    simp only [aop, xIface, aeval_opv hx, Option.bind_eq_bind, Option.bind_some, ifaceV, ifaceW]
    cases P.underlying t with
    | none => rfl
    | some td => cases td <;> rfl) hd
def allocV (H : AHeap) (t : TypeId) : Option Value → Option (Value × AHeap)
  | some z => (aNew H t z.cells.toList false).map fun g => (.pointer (some ⟨H.next, 0, none⟩), g)
  | none => none
theorem allocV_some {t : TypeId} {z : Value} (hs : scbL H.next z.cells.toList = true) : allocV H t (some z) = some (.pointer (some ⟨H.next, 0, none⟩), nw H t z.cells.toList false) := by simp only [allocV, aNew_nw hs, Option.map_some]
theorem w_alloc {t : TypeId} {dst : Option Nat} : wpOps P ro ops (⟨dst, .alloc t, ty, pos, after, none⟩ :: rest) (mkA N E ds) H Q = heapC P ro ops rest N E ds dst Q (allocV H t (zeroOf P t)) :=
  w_rvh rfl (by
    simp only [aop, xAlloc, Option.bind_eq_bind]
    cases zeroOf P t with
    | none => rfl
    | some z =>
      simp only [Option.bind_some, xBox, allocV, rvh, Option.bind_eq_bind]
      cases aNew H t z.cells.toList false <;> rfl)
def storeC (P : Program) (ro : Option Nat) (ops : Array Oper) (rest : List Oper) (a : AAct) (Q : Exit → AAct → AHeap → Prop) : Option AHeap → Prop
  | some H1 => wpOps P ro ops rest a H1 Q
  | none => False
theorem storeC_some {H1 : AHeap} : storeC P ro ops rest a Q (some H1) = wpOps P ro ops rest a H1 Q := by simp only [storeC]
theorem w_store {x y : Operand} {t : TypeId} (hx : opOk P N x = true) (hy : opOk P N y = true) : wpOps P ro ops (⟨none, .store t x y, ty, pos, after, none⟩ :: rest) (mkA N E ds) H Q = storeC P ro ops rest (mkA N E ds) Q (aStore P H t (opv E x) (opv E y)) := by
  rw [w_op rfl rfl]
  simp only [opA, aop, xStore, aeval_opv hx, aeval_opv hy, ruh, Option.bind_eq_bind, Option.bind_some]
  cases aStore P H t (opv E x) (opv E y) with
  | none => rfl
  | some H1 => simp only [Option.map_some, nextA, opC, put_none, storeC]
theorem store_blk {t e : TypeId} {n off sz : Nat} {o : Bool} {l : List Value} {v : Value} (hb : Blk H n e o l) (hsz : szOf P t = some sz) (hl : v.cells.toList.length = sz) (hle : off + sz ≤ l.length) (h1 : v.cells.toList.all one = true) (h2 : scbL H.next v.cells.toList = true) :
    aStore P H t (.pointer (some ⟨n, off, none⟩)) v = some (wr H n off v.cells.toList) := by
  simp only [aStore, hsz, hl, Option.bind_eq_bind, Option.bind_some, if_true]
  exact hb.write (by rw [hl]; exact hle) h1 h2

def pok (P : Program) (N : Nat) : List (Nat × Operand) → Bool
  | [] => true
  | (_, x) :: r => opOk P N x && pok P N r
def pmap (E : Env) : List (Nat × Operand) → List (Nat × Value)
  | [] => []
  | (i, x) :: r => (i, opv E x) :: pmap E r
theorem pok_nil : pok P N [] = true := by simp only [pok]
theorem pok_cons {i : Nat} {x : Operand} {r : List (Nat × Operand)} : pok P N ((i, x) :: r) = (opOk P N x && pok P N r) := by simp only [pok]
theorem pmap_nil : pmap E [] = [] := by simp only [pmap]
theorem pmap_cons {i : Nat} {x : Operand} {r : List (Nat × Operand)} : pmap E ((i, x) :: r) = (i, opv E x) :: pmap E r := by simp only [pmap]
theorem pairs_ok : ∀ {l : List (Nat × Operand)}, pok P N l = true → pairs P (mkA N E ds) l = some (pmap E l)
  | [], _ => rfl
  | (i, x) :: r, h => by
    simp only [pok, Bool.and_eq_true] at h
    simp only [pairs, aeval_opv h.1, pairs_ok h.2, Option.bind_eq_bind, Option.bind_some, pmap]

theorem w_index {x i : Operand} {t : TypeId} (hx : opOk P N x = true) (hi : opOk P N i = true) (hd : d < N) (h : (aIndex P t (opv E x) (opv E i)).isSome = true) : wpOps P ro ops (⟨some d, .index t x i, ty, pos, after, none⟩ :: rest) (mkA N E ds) H Q = valC P ro ops rest N E ds d H Q (aIndex P t (opv E x) (opv E i)) := by
  cases hv : aIndex P t (opv E x) (opv E i) with
  | none => rw [hv] at h; cases h
  | some v => exact w_rv (x := some v) rfl (by simp only [aop, xIndex, aeval_opv hx, aeval_opv hi, Option.bind_eq_bind, Option.bind_some, indexV, hv]; rfl) hd

theorem w_call {f : FuncId} {args : List Operand} {ts : Array TypeId} {dst : Option Nat} (ha : args.all (opOk P N) = true) (hb : hasBody P f = true) :
    wpOps P ro ops (⟨dst, .call ⟨.value (.func f), ⟨args⟩, ts⟩, ty, pos, after, none⟩ :: rest) (mkA N E ds) H Q = CallA P f (args.map (opv E)) H (opC P ro ops rest (mkA N E ds) dst Q) := by
  rw [w_op rfl rfl]
  simp only [opA, aop, xCall, aevals_opv ha, aeval, Option.bind_eq_bind, Option.bind_some, callV, aInvoke, enterN, hb, if_true, List.nil_append, List.append_nil, Option.map_some, nextA]

theorem opC_ok {v : Value} (hd : d < N) : opC P ro ops rest (mkA N E ds) (some d) Q (.ok v) H = wpOps P ro ops rest (mkA N (upd E d v) ds) H Q := by simp only [opC, put_some N E ds d v hd]
theorem opC_skip {v : Value} : opC P ro ops rest (mkA N E ds) none Q (.ok v) H = wpOps P ro ops rest (mkA N E ds) H Q := Eq.trans rfl rfl

theorem w_builtin {b : Builtin} {args : List Operand} {ts : Array TypeId} {dst : Option Nat} (ha : args.all (opOk P N) = true) :
    wpOps P ro ops (⟨dst, .call ⟨.builtin b, ⟨args⟩, ts⟩, ty, pos, after, none⟩ :: rest) (mkA N E ds) H Q = heapC P ro ops rest N E ds dst Q (aBuiltin P H b ts (args.map (opv E))) :=
  w_rvh rfl (by simp only [aop, xCall, aevals_opv ha, Option.bind_eq_bind, Option.bind_some])

theorem w_box {x : Operand} {t : TypeId} (hx : opOk P N x = true) (hd : d < N) (hs : scbL H.next (opv E x).cells.toList = true) : wpOps P ro ops (⟨some d, .box t x, ty, pos, after, none⟩ :: rest) (mkA N E ds) H Q =
    wpOps P ro ops rest (mkA N (upd E d (.pointer (some ⟨H.next, 0, none⟩))) ds) (nw H t (opv E x).cells.toList false) Q := by
  rw [w_op rfl rfl]
  simp only [opA, aop, xBoxOp, aeval_opv hx, Option.bind_eq_bind, Option.bind_some, xBox, aNew_nw hs, nextA, opC, put_some N E ds d _ hd]
end
end
end Go.Ax

/- Walks over abstract heaps: regions that draw their order, operation by operation. -/
namespace Go.Ax
section
variable {P : Program} {ro : Option Nat} {H : AHeap} {N : Nat} {E : Env} {ds : List Deferred}

def genD (P : Program) (o : Oper) (a : AAct) (H : AHeap) (anc i : Nat) (fps : List Fp) (K : List Fp → Value → AHeap → Prop) : Prop :=
  ∃ F v g, OpS P a (H.restrict F) o (.ok v) g ∧ (∀ n ∈ F, H.get n ≠ none) ∧ (∀ n ∈ g.dirty, n ∈ F) ∧ (∀ r ∈ fps, fpOk anc F v g H.next r = true) ∧ K (⟨i, F, g.dirty, H.next, g.next⟩ :: fps) v (H.merge g)

def loadD (P : Program) (t : TypeId) (H : AHeap) (anc i : Nat) (fps : List Fp) (K : List Fp → Value → AHeap → Prop) : Option Value → Prop
  | some (.pointer (some ⟨n, off, none⟩)) => (match aLoad P H t (.pointer (some ⟨n, off, none⟩)) with
    | some v => (∀ r ∈ fps, Meets anc [n] [] (idsV v) r) ∧ K (⟨i, [n], [], H.next, H.next⟩ :: fps) v H
    | none => False)
  | _ => False

def pureD (K : List Fp → Value → AHeap → Prop) (H : AHeap) (anc : Nat) (fps : List Fp) : ARes → Prop
  | some (.value v, _) => IdsOk anc fps (idsV v) ∧ K fps v H
  | _ => False

def regBin (P : Program) (op : BinOp) (t : TypeId) : Value → Value → Option Value
  | .int k p, .int k' q => if k = k' then intBin op k p q else none
  | .bool p, .bool q => (match P.underlying t with
    | some .bool => eqOp op (p == q)
    | _ => none)
  | _, _ => none

theorem regBin_aBin {op : BinOp} {t : TypeId} {p q v : Value} (h : regBin P op t p q = some v) (G : AHeap) : aBin P G op t p q = some v := by
  unfold regBin at h
  split at h
  · simp only [aBin]; exact h
  · simp only [aBin]; exact h
  · cases h

def binD (P : Program) (op : BinOp) (t : TypeId) (K : List Fp → Value → AHeap → Prop) (H : AHeap) (anc : Nat) (fps : List Fp) (D : Prop) : Option Value → Option Value → Prop
  | some p, some q => (match regBin P op t p q with
    | some v => IdsOk anc fps (idsV v) ∧ K fps v H
    | none => D)
  | _, _ => D

def storeD (P : Program) (t : TypeId) (H : AHeap) (anc i : Nat) (fps : List Fp) (K : List Fp → Value → AHeap → Prop) : Option Value → Option Value → Prop
  | some (.pointer (some ⟨n, off, none⟩)), some v => (match aStore P H t (.pointer (some ⟨n, off, none⟩)) v with
    | some H1 => n < H.next ∧ (∀ r ∈ fps, Meets anc [n] [n] (idsAt H1 n) r) ∧ K (⟨i, [n], [n], H.next, H.next⟩ :: fps) undef H1
    | none => False)
  | _, _ => False

def newOp : Op → Bool
  | .alloc _ => true
  | .box _ _ => true
  | .buildSlice _ _ _ => true
  | .makeSlice _ _ _ => true
  | _ => false

theorem new_fun {op : Op} (hp : newOp op = true) (a : AAct) : ∃ f : Nat → Option (Value × AObj), ∀ G : AHeap, aop op P a G = (f G.next).map fun x => (.value x.1, G.new x.2) := by
  have key : ∀ (t : TypeId) (v : Value), ∃ f : Nat → Option (Value × AObj), ∀ G : AHeap, xBox t v G = (f G.next).map fun x => (.value x.1, G.new x.2) := by
    intro t v
    refine ⟨fun n => if scbL n v.cells.toList then some (.pointer (some ⟨n, 0, none⟩), ⟨.cells #[] t, false, RV.ofList v.cells.toList⟩) else none, fun G => ?_⟩
    simp only [xBox, aNew, Option.bind_eq_bind]
    split <;> rfl
  cases op with
  | alloc t =>
    simp only [aop, xAlloc]
    cases zeroOf P t with
    | none => exact ⟨fun _ => none, fun G => rfl⟩
    | some z => exact key t z
  | box t x =>
    simp only [aop, xBoxOp]
    cases aeval P a x with
    | none => exact ⟨fun _ => none, fun G => rfl⟩
    | some z => exact key t z
  | buildSlice t n ps =>
    simp only [aop, xBuildSlice]
    cases pairs P a ps.toList with
    | none => exact ⟨fun _ => none, fun G => rfl⟩
    | some l =>
      simp only [Option.bind_eq_bind, Option.bind_some, aBuildSlice]
      cases hu : P.underlying t with
      | none => exact ⟨fun _ => none, fun G => rfl⟩
      | some td =>
        cases td with
        | slice e =>
          simp only [Option.bind_some]
          cases hsz : szOf P e with
          | none => exact ⟨fun _ => none, fun G => rfl⟩
          | some sz =>
            cases hz : zeroOf P e with
            | none => exact ⟨fun _ => none, fun G => rfl⟩
            | some z =>
              simp only [Option.bind_some]
              split
              · cases hf : Instr.fill (fun i => some (i * sz, sz)) (zerosL z.cells.toList n).toArray l with
                | none => exact ⟨fun _ => none, fun G => rfl⟩
                | some cells =>
                  refine ⟨fun m => if scbL m cells.toList then some (.slice (some ⟨m, 0, some 0⟩) n n, ⟨.cells #[] e, false, RV.ofList cells.toList⟩) else none, fun G => ?_⟩
                  simp only [Option.bind_some, aNew, rvh]
                  split <;> rfl
              · exact ⟨fun _ => none, fun G => rfl⟩
        | _ => exact ⟨fun _ => none, fun G => rfl⟩
  | makeSlice t l c =>
    simp only [aop, xMakeSlice]
    cases aeval P a l with
    | none => exact ⟨fun _ => none, fun G => rfl⟩
    | some l =>
      cases aeval P a c with
      | none => exact ⟨fun _ => none, fun G => rfl⟩
      | some c =>
        simp only [Option.bind_eq_bind, Option.bind_some]
        unfold aMakeSlice
        split
        · rename_i l c
          cases hu : P.underlying t with
          | none => exact ⟨fun _ => none, fun G => rfl⟩
          | some td =>
            cases td with
            | slice e =>
              simp only [Option.bind_eq_bind, Option.bind_some]
              cases hby : bytesOf P e with
              | none => exact ⟨fun _ => none, fun G => rfl⟩
              | some by1 =>
                cases hsz : szOf P e with
                | none => exact ⟨fun _ => none, fun G => rfl⟩
                | some sz =>
                  cases hz : zeroOf P e with
                  | none => exact ⟨fun _ => none, fun G => rfl⟩
                  | some z =>
                    simp only [Option.bind_some]
                    split
                    · refine ⟨fun m => if scbL m (zerosL z.cells.toList c.toNat) then some (.slice (some ⟨m, 0, some 0⟩) l.toNat c.toNat, ⟨.cells #[] e, false, RV.ofList (zerosL z.cells.toList c.toNat)⟩) else none, fun G => ?_⟩
                      simp only [aNew, rvh]
                      split <;> rfl
                    · exact ⟨fun _ => none, fun G => rfl⟩
            | _ => exact ⟨fun _ => none, fun G => rfl⟩
        · exact ⟨fun _ => none, fun G => rfl⟩
  | _ => cases hp

def newD (H : AHeap) (anc i : Nat) (fps : List Fp) (K : List Fp → Value → AHeap → Prop) : ARes → Prop
  | some (.value v, H1) => (∀ r ∈ fps, Meets anc [] [] (idsV v ++ idsAt H1 H.next) r) ∧ K (⟨i, [], [], H.next, H.next + 1⟩ :: fps) v H1
  | _ => False

def regBt (P : Program) (b : Builtin) (ts : Array TypeId) (vs : List Value) : Option Value :=
  match b with
  | .len => (match ts.toList, vs with
    | t :: _, [x] => (match P.underlying t, x with
      | some (.slice _), .slice _ n _ => some (goInt n)
      | some .string, .string s => some (goInt s.size)
      | _, _ => none)
    | _, _ => none)
  | .max => aMinMax true vs
  | .min => aMinMax false vs
  | _ => none

theorem regBt_aBuiltin {b : Builtin} {ts : Array TypeId} {vs : List Value} {v : Value} (h : regBt P b ts vs = some v) (G : AHeap) : aBuiltin P G b ts vs = some (v, G) := by
  unfold regBt at h
  split at h
  · split at h
    · rename_i t _ x hts
      split at h
      · rename_i hu
        simp only [aBuiltin, hts, aLen, hu]
        simp only [Option.some.injEq] at h
        rw [h]; rfl
      · rename_i hu
        simp only [aBuiltin, hts, aLen, hu]
        simp only [Option.some.injEq] at h
        rw [h]; rfl
      · cases h
    · cases h
  · simp only [aBuiltin, h, Option.map_some]
  · simp only [aBuiltin, h, Option.map_some]
  · cases h

def btD (P : Program) (b : Builtin) (ts : Array TypeId) (K : List Fp → Value → AHeap → Prop) (H : AHeap) (anc : Nat) (fps : List Fp) (D : Prop) : Option (List Value) → Prop
  | some vs => (match regBt P b ts vs with
    | some v => IdsOk anc fps (idsV v) ∧ K fps v H
    | none => D)
  | none => D

def restD (P : Program) (o : Oper) (a : AAct) (H : AHeap) (anc i : Nat) (fps : List Fp) (K : List Fp → Value → AHeap → Prop) : Prop :=
  match newOp o.op with
  | true => newD H anc i fps K (aop o.op P a H)
  | false => (match o.op with
    | .call ⟨.builtin b, args, ts⟩ => btD P b ts K H anc fps (genD P o a H anc i fps K) (aevals P a args.toList)
    | _ => genD P o a H anc i fps K)

def stepD (P : Program) (o : Oper) (a : AAct) (H : AHeap) (anc i : Nat) (fps : List Fp) (K : List Fp → Value → AHeap → Prop) : Prop :=
  match pureOp o.op with
  | true => pureD K H anc fps (aop o.op P a H)
  | false => (match o.op with
    | .load t x => loadD P t H anc i fps K (aeval P a x)
    | .store t x y => storeD P t H anc i fps K (aeval P a x) (aeval P a y)
    | .binOp op t x y _ => binD P op t K H anc fps (genD P o a H anc i fps K) (aeval P a x) (aeval P a y)
    | _ => restD P o a H anc i fps K)

def wkD (P : Program) (ops : Array Oper) (anc : List Nat) : List Oper → Nat → List Fp → AAct → AHeap → (AAct → AHeap → Prop) → Prop
  | [], _, _, a, H, Q => Q a H
  | o :: rest, i, fps, a, H, Q =>
    match wantA ops a o with
    | some true => stepD P o a H (anc.getD i 0) i fps fun fps' v H1 => wkD P ops anc rest (i + 1) fps' (a.put o.dst v) H1 Q
    | some false => wkD P ops anc rest (i + 1) fps (a.put o.dst undef) H Q
    | none => False

theorem wpDraw_store {ops : Array Oper} {anc : List Nat} {o : Oper} {rest : List Oper} {i : Nat} {fps : List Fp} {a : AAct} {Q : AAct → AHeap → Prop} {t : TypeId} {x y : Operand} {v : Value} {n off : Nat} {H1 : AHeap} (ho : o.op = .store t x y) (hw : wantA ops a o = some true)
    (hx : aeval P a x = some (.pointer (some ⟨n, off, none⟩))) (hy : aeval P a y = some v) (hs : aStore P H t (.pointer (some ⟨n, off, none⟩)) v = some H1) (hlt : n < H.next) (hm : ∀ r ∈ fps, Meets (anc.getD i 0) [n] [n] (idsAt H1 n) r)
    (h : wpDraw P ops anc rest (i + 1) (⟨i, [n], [n], H.next, H.next⟩ :: fps) (a.put o.dst undef) H1 Q) : wpDraw P ops anc (o :: rest) i fps a H Q := by
  have hn := restrict_next H [n]
  have hgn : (H.restrict [n]).get n = H.get n := by rw [restrict_get]; simp
  simp only [aStore, Option.bind_eq_bind] at hs
  cases hsz : szOf P t with
  | none => rw [hsz] at hs; cases hs
  | some sz =>
    rw [hsz] at hs
    simp only [Option.bind_some] at hs
    split at hs
    · rename_i hl
      subst hl
      simp only [aWrite, Option.bind_eq_bind] at hs
      cases hc : cellsAt H n with
      | none => rw [hc] at hs; cases hs
      | some z =>
        obtain ⟨rv, e, ob⟩ := z
        rw [hc] at hs
        simp only [Option.bind_some] at hs
        split at hs
        · rename_i hcond
          simp only [Option.some.injEq] at hs
          subst hs
          have hcr : cellsAt (H.restrict [n]) n = some (rv, e, ob) := by rw [← hc]; simp only [cellsAt, hgn]
          have hst : aStore P (H.restrict [n]) t (.pointer (some ⟨n, off, none⟩)) v = some ((H.restrict [n]).upd n (some ⟨.cells #[] e, ob, rv.sets off v.cells.toList⟩)) := by
            simp only [aStore, hsz, Option.bind_eq_bind, Option.bind_some, if_true, aWrite, hcr, hn.1, hcond]
          have hd : ((H.restrict [n]).upd n (some ⟨.cells #[] e, ob, rv.sets off v.cells.toList⟩)).dirty = [n] := by
            simp only [AHeap.upd, hn.2.1, hn.2.2, blt_of hlt, if_true]
          have hnx : ((H.restrict [n]).upd n (some ⟨.cells #[] e, ob, rv.sets off v.cells.toList⟩)).next = H.next := hn.1
          have hgg : ((H.restrict [n]).upd n (some ⟨.cells #[] e, ob, rv.sets off v.cells.toList⟩)).get n = some ⟨.cells #[] e, ob, rv.sets off v.cells.toList⟩ := by rw [AHeap.get_upd, if_pos rfl]
          have hmg : H.merge ((H.restrict [n]).upd n (some ⟨.cells #[] e, ob, rv.sets off v.cells.toList⟩)) = H.upd n (some ⟨.cells #[] e, ob, rv.sets off v.cells.toList⟩) := by
            unfold AHeap.merge
            rw [hd, hnx, Nat.sub_self]
            simp only [AHeap.mergeW, AHeap.mergeN, hgg]
            rfl
          simp only [wpDraw, hw]
          refine ⟨[n], undef, _, opS_of (x := .skip) (g := (H.restrict [n]).upd n (some ⟨.cells #[] e, ob, rv.sets off v.cells.toList⟩)) ?_ ⟨rfl, rfl⟩, ?_, by rw [hd]; simp, fun r hr => fpOk_of ?_, ?_⟩
          · rw [ho]
            simp only [aop, xStore, hx, hy, hst, ruh, Option.bind_eq_bind, Option.bind_some, Option.map_some]
          · intro m hm'
            simp only [List.mem_singleton] at hm'
            subst hm'
            intro hg
            simp [cellsAt, hg] at hc
          · have hi : idsAt ((H.restrict [n]).upd n (some ⟨.cells #[] e, ob, rv.sets off v.cells.toList⟩)) n = idsAt (H.upd n (some ⟨.cells #[] e, ob, rv.sets off v.cells.toList⟩)) n := by
              simp only [idsAt, AHeap.get_upd, if_true]
            have : outIds undef ((H.restrict [n]).upd n (some ⟨.cells #[] e, ob, rv.sets off v.cells.toList⟩)) H.next = idsAt (H.upd n (some ⟨.cells #[] e, ob, rv.sets off v.cells.toList⟩)) n := by
              simp only [outIds, hnx, hd, Nat.sub_self, rangeFrom, List.append_nil, List.flatMap_cons, List.flatMap_nil, undef, idsV, idsA, idsL, List.nil_append]
              exact hi
            rw [hd, this]
            exact hm r hr
          · rw [hmg, hd, hnx]; exact h
        · cases hs
    · cases hs

theorem wpDraw_new {ops : Array Oper} {anc : List Nat} {o : Oper} {rest : List Oper} {i : Nat} {fps : List Fp} {a : AAct} {Q : AAct → AHeap → Prop} {v : Value} {H1 : AHeap} (hp : newOp o.op = true) (hw : wantA ops a o = some true)
    (hx : aop o.op P a H = some (.value v, H1)) (hm : ∀ r ∈ fps, Meets (anc.getD i 0) [] [] (idsV v ++ idsAt H1 H.next) r)
    (h : wpDraw P ops anc rest (i + 1) (⟨i, [], [], H.next, H.next + 1⟩ :: fps) (a.put o.dst v) H1 Q) : wpDraw P ops anc (o :: rest) i fps a H Q := by
  obtain ⟨f, hf⟩ := new_fun (P := P) hp a
  have hn := restrict_next H []
  rw [hf H] at hx
  cases hfn : f H.next with
  | none => rw [hfn] at hx; cases hx
  | some z =>
    obtain ⟨u, ob⟩ := z
    rw [hfn] at hx
    simp only [Option.map_some, Option.some.injEq, Prod.mk.injEq, ANext.value.injEq] at hx
    obtain ⟨rfl, rfl⟩ := hx
    have hd : ((H.restrict []).new ob).dirty = [] := hn.2.2
    have hnx : ((H.restrict []).new ob).next = H.next + 1 := by simp only [AHeap.new, hn.1]
    have hg : ((H.restrict []).new ob).get H.next = some ob := by rw [AHeap.get_new, if_pos hn.1.symm]
    have hmg : H.merge ((H.restrict []).new ob) = H.new ob := by
      unfold AHeap.merge
      rw [hd, hnx, Nat.add_sub_cancel_left]
      simp only [AHeap.mergeW, AHeap.mergeN, hg]
      rfl
    simp only [wpDraw, hw]
    refine ⟨[], u, (H.restrict []).new ob, opS_of (x := .value u) (g := (H.restrict []).new ob) ?_ ⟨rfl, rfl⟩, by simp, by rw [hd]; simp, fun r hr => fpOk_of ?_, ?_⟩
    · rw [hf, hn.1, hfn]; rfl
    · have hi : idsAt ((H.restrict []).new ob) H.next = idsAt (H.new ob) H.next := by
        simp only [idsAt, hg, AHeap.get_new, if_true]
      have : outIds u ((H.restrict []).new ob) H.next = idsV u ++ idsAt (H.new ob) H.next := by
        simp only [outIds, hnx, hd, Nat.add_sub_cancel_left, rangeFrom, List.nil_append, List.flatMap_cons, List.flatMap_nil, List.append_nil, hi]
      rw [hd, this]
      exact hm r hr
    · rw [hmg, hd, hnx]; exact h

theorem wkD_draw {ops : Array Oper} {anc : List Nat} {Q : AAct → AHeap → Prop} : ∀ (rest : List Oper) (i : Nat) (fps : List Fp) (a : AAct) (H : AHeap), wkD P ops anc rest i fps a H Q → wpDraw P ops anc rest i fps a H Q
  | [], _, _, _, _, h => h
  | o :: rest, i, fps, a, H, h => by
    simp only [wkD] at h
    split at h
    · rename_i hw
      unfold stepD at h
      split at h
      · rename_i hp
        unfold pureD at h
        split at h
        · rename_i v g hx
          obtain ⟨f, hf⟩ := pure_fun (P := P) hp a
          have hg : g = H := by
            have := hf H
            rw [hx] at this
            cases f with
            | none => cases this
            | some y => simp only [Option.map_some, Option.some.injEq, Prod.mk.injEq] at this; exact this.2
          subst hg
          exact wpDraw_pure hp hw hx h.1 (wkD_draw rest _ _ _ _ h.2)
        · exact h.elim
      · split at h
        · rename_i t x hop
          unfold loadD at h
          split at h
          · rename_i n off hx
            split at h
            · rename_i v hl
              exact wpDraw_load hop hw hx hl h.1 (wkD_draw rest _ _ _ _ h.2)
            · exact h.elim
          · exact h.elim
        · rename_i t x y hop
          unfold storeD at h
          split at h
          · rename_i n off v hx hy
            split at h
            · rename_i H1 hs
              exact wpDraw_store hop hw hx hy hs h.1 h.2.1 (wkD_draw rest _ _ _ _ h.2.2)
            · exact h.elim
          · exact h.elim
        · rename_i op t x y u hop
          have gen : genD P o a H (anc.getD i 0) i fps (fun fps' v H1 => wkD P ops anc rest (i + 1) fps' (a.put o.dst v) H1 Q) → wpDraw P ops anc (o :: rest) i fps a H Q := by
            rintro ⟨F, v, g, h1, h2, h3, h4, h5⟩
            simp only [wpDraw, hw]
            exact ⟨F, v, g, h1, h2, h3, h4, wkD_draw rest _ _ _ _ h5⟩
          unfold binD at h
          split at h
          · rename_i p q hx hy
            split at h
            · rename_i v hv
              refine wpDraw_reg hw (fun G => ?_) h.1 (wkD_draw rest _ _ _ _ h.2)
              rw [hop]
              simp only [aop, xBin, hx, hy, Option.bind_eq_bind, Option.bind_some, binV, regBin_aBin hv G]
            · exact gen h
          · exact gen h
        · have gen : genD P o a H (anc.getD i 0) i fps (fun fps' v H1 => wkD P ops anc rest (i + 1) fps' (a.put o.dst v) H1 Q) → wpDraw P ops anc (o :: rest) i fps a H Q := by
            rintro ⟨F, v, g, h1, h2, h3, h4, h5⟩
            simp only [wpDraw, hw]
            exact ⟨F, v, g, h1, h2, h3, h4, wkD_draw rest _ _ _ _ h5⟩
          unfold restD at h
          split at h
          · rename_i hp
            unfold newD at h
            split at h
            · rename_i v H1 hx
              exact wpDraw_new hp hw hx h.1 (wkD_draw rest _ _ _ _ h.2)
            · exact h.elim
          · split at h
            · rename_i b args ts hop
              unfold btD at h
              split at h
              · rename_i vs hvs
                split at h
                · rename_i v hv
                  refine wpDraw_reg hw (fun G => ?_) h.1 (wkD_draw rest _ _ _ _ h.2)
                  rw [hop]
                  simp only [aop, xCall, hvs, Option.bind_eq_bind, Option.bind_some, regBt_aBuiltin hv G, rvh, Option.map_some]
                · exact gen h
              · exact gen h
            · exact gen h
    · rename_i hw
      simp only [wpDraw, hw]
      exact wkD_draw rest _ _ _ _ h
    · exact h.elim

section
variable {ops : Array Oper} {anc : List Nat} {d : Nat} {ty : TypeId} {pos : String} {after : Array Edge} {rest : List Oper} {i : Nat} {fps : List Fp} {Q : AAct → AHeap → Prop}

def valD (P : Program) (ops : Array Oper) (anc : List Nat) (rest : List Oper) (i : Nat) (fps : List Fp) (N : Nat) (E : Env) (ds : List Deferred) (d : Nat) (H : AHeap) (Q : AAct → AHeap → Prop) : Option Value → Prop
  | some v => IdsOk (anc.getD i 0) fps (idsV v) ∧ wkD P ops anc rest (i + 1) fps (mkA N (upd E d v) ds) H Q
  | none => False
theorem valD_some {v : Value} : valD P ops anc rest i fps N E ds d H Q (some v) = (IdsOk (anc.getD i 0) fps (idsV v) ∧ wkD P ops anc rest (i + 1) fps (mkA N (upd E d v) ds) H Q) := by simp only [valD]

theorem w_draw {Q : Exit → AAct → AHeap → Prop} {id : Nat} {l : List Oper} {a : AAct} (hst : staticOk ⟨l⟩ = true) (h : wkD P ⟨l⟩ (ancs ⟨l⟩) l 0 [] a H (Q .normal)) : wpA P ro (.region id ⟨l⟩ true) Q a H :=
  ⟨hst, wkD_draw l 0 [] a H h⟩

theorem wd_nil {a : AAct} : wkD P ops anc [] i fps a H Q = Q a H := by simp only [wkD]

theorem wd_rv {op : Op} {x : Option Value} (hp : pureOp op = true) (h : aop op P (mkA N E ds) H = rv H x) (hd : d < N) : wkD P ops anc (⟨some d, op, ty, pos, after, none⟩ :: rest) i fps (mkA N E ds) H Q = valD P ops anc rest i fps N E ds d H Q x := by
  simp only [wkD, wantA, stepD, hp, h, rv]
  cases x with
  | none => rfl
  | some v => simp only [Option.map_some, pureD, put_some N E ds d v hd, valD]

theorem wd_move {x : Operand} (hx : opOk P N x = true) (hd : d < N) : wkD P ops anc (⟨some d, .move x, ty, pos, after, none⟩ :: rest) i fps (mkA N E ds) H Q = valD P ops anc rest i fps N E ds d H Q (some (opv E x)) :=
  wd_rv rfl (by simp only [aop, xMove, aeval_opv hx]) hd
theorem wd_assign {x : Operand} (hx : opOk P N x = true) (hd : d < N) : wkD P ops anc (⟨some d, .assign x, ty, pos, after, none⟩ :: rest) i fps (mkA N E ds) H Q = valD P ops anc rest i fps N E ds d H Q (some (opv E x)) :=
  wd_rv rfl (by simp only [aop, xMove, aeval_opv hx]) hd
theorem wd_fieldAddr {x : Operand} {t : TypeId} {f : Nat} (hx : opOk P N x = true) (hd : d < N) : wkD P ops anc (⟨some d, .fieldAddr t x f, ty, pos, after, none⟩ :: rest) i fps (mkA N E ds) H Q = valD P ops anc rest i fps N E ds d H Q (aFieldAddr P t (opv E x) f) :=
  wd_rv rfl (by simp only [aop, xFieldAddr, aeval_opv hx, Option.bind_eq_bind, Option.bind_some]) hd
theorem wd_field {x : Operand} {t : TypeId} {f : Nat} (hx : opOk P N x = true) (hd : d < N) : wkD P ops anc (⟨some d, .field t x f, ty, pos, after, none⟩ :: rest) i fps (mkA N E ds) H Q = valD P ops anc rest i fps N E ds d H Q (aField P t (opv E x) f) :=
  wd_rv rfl (by simp only [aop, xField, aeval_opv hx, Option.bind_eq_bind, Option.bind_some]) hd
theorem wd_indexAddr {x y : Operand} {t : TypeId} (hx : opOk P N x = true) (hi : opOk P N y = true) (hd : d < N) : wkD P ops anc (⟨some d, .indexAddr t x y, ty, pos, after, none⟩ :: rest) i fps (mkA N E ds) H Q = valD P ops anc rest i fps N E ds d H Q (aIndexAddr P t (opv E x) (opv E y)) :=
  wd_rv rfl (by simp only [aop, xIndexAddr, aeval_opv hx, aeval_opv hi, Option.bind_eq_bind, Option.bind_some]) hd
theorem wd_typeAssert {x : Operand} {t u : TypeId} {ok : Bool} (hx : opOk P N x = true) (hd : d < N) : wkD P ops anc (⟨some d, .typeAssert x t u ok, ty, pos, after, none⟩ :: rest) i fps (mkA N E ds) H Q = valD P ops anc rest i fps N E ds d H Q (aTypeAssert P (opv E x) u ok) :=
  wd_rv rfl (by simp only [aop, xTypeAssert, aeval_opv hx, Option.bind_eq_bind, Option.bind_some]) hd
theorem wd_extract {x : Operand} {k : Nat} (hx : opOk P N x = true) (hd : d < N) : wkD P ops anc (⟨some d, .extract x k, ty, pos, after, none⟩ :: rest) i fps (mkA N E ds) H Q = valD P ops anc rest i fps N E ds d H Q (exV k (opv E x)) :=
  wd_rv rfl (by
    simp only [aop, xExtract, aeval_opv hx, Option.bind_eq_bind, Option.bind_some, extractV]
    cases opv E x <;> rfl) hd
theorem wd_nilCheck {x : Operand} (hx : opOk P N x = true) (hd : d < N) (h : (nilW P (opv E x)).isSome = true) : wkD P ops anc (⟨some d, .nilCheck x, ty, pos, after, none⟩ :: rest) i fps (mkA N E ds) H Q = valD P ops anc rest i fps N E ds d H Q (nilW P (opv E x)) :=
  wd_rv rfl (by
    simp only [aop, xNil, aeval_opv hx, Option.bind_eq_bind, Option.bind_some]
    simp only [nilW] at h ⊢
    unfold nilV at h ⊢
    split <;> simp_all [rv]) hd
theorem wd_build {t : TypeId} {l : List (Nat × Operand)} (hd : d < N) : wkD P ops anc (⟨some d, .build t ⟨l⟩, ty, pos, after, none⟩ :: rest) i fps (mkA N E ds) H Q = valD P ops anc rest i fps N E ds d H Q ((pairs P (mkA N E ds) l).bind (aBuild P t)) :=
  wd_rv rfl (by
    simp only [aop, xBuild, Option.bind_eq_bind]
    cases pairs P (mkA N E ds) l <;> rfl) hd
theorem wd_pick {c x y : Operand} (hc : opOk P N c = true) (hx : opOk P N x = true) (hy : opOk P N y = true) (hd : d < N) : wkD P ops anc (⟨some d, .pick c x y, ty, pos, after, none⟩ :: rest) i fps (mkA N E ds) H Q = valD P ops anc rest i fps N E ds d H Q (pickV (opv E x) (opv E y) (opv E c)) :=
  wd_rv rfl (by
    simp only [aop, xPick, aeval_opv hc, aeval_opv hx, aeval_opv hy, Option.bind_eq_bind, Option.bind_some]
    cases opv E c with
    | bool b => cases b <;> rfl
    | _ => rfl) hd
theorem wd_iface {t : TypeId} {x : Operand} (hx : opOk P N x = true) (hd : d < N) : wkD P ops anc (⟨some d, .makeInterface t x, ty, pos, after, none⟩ :: rest) i fps (mkA N E ds) H Q = valD P ops anc rest i fps N E ds d H Q (ifaceW P t (opv E x)) :=
  wd_rv rfl (by
    simp only [aop, xIface, aeval_opv hx, Option.bind_eq_bind, Option.bind_some, ifaceV, ifaceW]
    cases P.underlying t with
    | none => rfl
    | some td => cases td <;> rfl) hd
theorem wd_bin {op : BinOp} {t u : TypeId} {x y : Operand} (hx : opOk P N x = true) (hy : opOk P N y = true) (hd : d < N) (h : (regBin P op t (opv E x) (opv E y)).isSome = true) : wkD P ops anc (⟨some d, .binOp op t x y u, ty, pos, after, none⟩ :: rest) i fps (mkA N E ds) H Q = valD P ops anc rest i fps N E ds d H Q (regBin P op t (opv E x) (opv E y)) := by
  cases hv : regBin P op t (opv E x) (opv E y) with
  | none => rw [hv] at h; cases h
  | some v => simp only [wkD, wantA, stepD, pureOp, binD, aeval_opv hx, aeval_opv hy, hv, put_some N E ds d v hd, valD]
def loadV (P : Program) (ops : Array Oper) (anc : List Nat) (rest : List Oper) (i : Nat) (fps : List Fp) (N : Nat) (E : Env) (ds : List Deferred) (d : Nat) (H : AHeap) (Q : AAct → AHeap → Prop) (n : Nat) : Option Value → Prop
  | some v => (∀ r ∈ fps, Meets (anc.getD i 0) [n] [] (idsV v) r) ∧ wkD P ops anc rest (i + 1) (⟨i, [n], [], H.next, H.next⟩ :: fps) (mkA N (upd E d v) ds) H Q
  | none => False
theorem loadV_some {n : Nat} {v : Value} : loadV P ops anc rest i fps N E ds d H Q n (some v) = ((∀ r ∈ fps, Meets (anc.getD i 0) [n] [] (idsV v) r) ∧ wkD P ops anc rest (i + 1) (⟨i, [n], [], H.next, H.next⟩ :: fps) (mkA N (upd E d v) ds) H Q) := by simp only [loadV]
def ptrB : Value → Nat
  | .pointer (some a) => a.block
  | _ => 0
def plainPtr : Value → Bool
  | .pointer (some ⟨_, _, none⟩) => true
  | _ => false
theorem ptrB_eq {n off : Nat} : ptrB (.pointer (some ⟨n, off, none⟩)) = n := by simp only [ptrB]
theorem plainPtr_eq {n off : Nat} : plainPtr (.pointer (some ⟨n, off, none⟩)) = true := by simp only [plainPtr]
theorem wd_load {x : Operand} {t : TypeId} (hx : opOk P N x = true) (hd : d < N) (hp : plainPtr (opv E x) = true) : wkD P ops anc (⟨some d, .load t x, ty, pos, after, none⟩ :: rest) i fps (mkA N E ds) H Q = loadV P ops anc rest i fps N E ds d H Q (ptrB (opv E x)) (aLoad P H t (opv E x)) := by
  simp only [wkD, wantA, stepD, pureOp, aeval_opv hx]
  unfold plainPtr at hp
  split at hp
  · rename_i n off heq
    rw [heq]
    simp only [loadD, ptrB]
    cases aLoad P H t (.pointer (some ⟨n, off, none⟩)) with
    | none => rfl
    | some v => simp only [put_some N E ds d v hd, loadV]
  · cases hp

def genV (P : Program) (ops : Array Oper) (anc : List Nat) (o : Oper) (rest : List Oper) (i : Nat) (fps : List Fp) (a : AAct) (H : AHeap) (Q : AAct → AHeap → Prop) : Prop :=
  genD P o a H (anc.getD i 0) i fps fun fps' v H1 => wkD P ops anc rest (i + 1) fps' (a.put o.dst v) H1 Q
theorem wd_call {f : Operand} {args : Array Operand} {ts : Array TypeId} {dst : Option Nat} : wkD P ops anc (⟨dst, .call ⟨.value f, args, ts⟩, ty, pos, after, none⟩ :: rest) i fps (mkA N E ds) H Q = genV P ops anc ⟨dst, .call ⟨.value f, args, ts⟩, ty, pos, after, none⟩ rest i fps (mkA N E ds) H Q := by
  simp only [wkD, wantA, stepD, pureOp, restD, newOp, genV]

theorem genV_quiet {f : FuncId} {args : List Operand} {ts : Array TypeId} {v : Value} (F : List Nat) (ha : args.all (opOk P N) = true) (hb : hasBody P f = true) (hd : d < N) (hF : ∀ n ∈ F, H.get n ≠ none)
    (hc : ∀ G : AHeap, G.next = H.next → (∀ n ∈ F, G.get n = H.get n) → CallS P f (args.map (opv E)) G (.ok v) G) (hm : ∀ r ∈ fps, Meets (anc.getD i 0) F [] (idsV v) r)
    (h : wkD P ops anc rest (i + 1) (⟨i, F, [], H.next, H.next⟩ :: fps) (mkA N (upd E d v) ds) H Q) : genV P ops anc ⟨some d, .call ⟨.value (.func f), ⟨args⟩, ts⟩, ty, pos, after, none⟩ rest i fps (mkA N E ds) H Q := by
  have hn := restrict_next H F
  refine ⟨F, v, H.restrict F, ?_, hF, (by rw [hn.2.2]; simp), fun r hr => fpOk_of ?_, ?_⟩
  · refine opS_of (x := .enter f (args.map (opv E))) (g := H.restrict F) ?_ (hc _ hn.1 (fun n hn' => by rw [restrict_get, if_pos hn']))
    simp only [aop, xCall, aevals_opv ha, aeval, Option.bind_eq_bind, Option.bind_some, callV, aInvoke, enterN, hb, if_true, List.nil_append, List.append_nil, Option.map_some]
  · simp only [outIds, hn.2.2, hn.1, Nat.sub_self, rangeFrom, List.append_nil, List.flatMap_nil]
    exact hm r hr
  · rw [merge_self, hn.2.2, hn.1]
    simp only [put_some N E ds d v hd]
    exact h

theorem reg_add {t : TypeId} {k : IntKind} {x y : Int} : regBin P .add t (.int k x) (.int k y) = some (.int k (k.wrap (x + y))) := by simp [regBin, intBin]
theorem reg_sub {t : TypeId} {k : IntKind} {x y : Int} : regBin P .sub t (.int k x) (.int k y) = some (.int k (k.wrap (x - y))) := by simp [regBin, intBin]
theorem reg_mul {t : TypeId} {k : IntKind} {x y : Int} : regBin P .mul t (.int k x) (.int k y) = some (.int k (k.wrap (x * y))) := by simp [regBin, intBin]
theorem reg_lss {t : TypeId} {k : IntKind} {x y : Int} : regBin P .lss t (.int k x) (.int k y) = some (.bool (decide (x < y))) := by simp [regBin, intBin]
theorem reg_leq {t : TypeId} {k : IntKind} {x y : Int} : regBin P .leq t (.int k x) (.int k y) = some (.bool (decide (x ≤ y))) := by simp [regBin, intBin]
theorem reg_gtr {t : TypeId} {k : IntKind} {x y : Int} : regBin P .gtr t (.int k x) (.int k y) = some (.bool (decide (y < x))) := by simp [regBin, intBin]
theorem reg_geq {t : TypeId} {k : IntKind} {x y : Int} : regBin P .geq t (.int k x) (.int k y) = some (.bool (decide (y ≤ x))) := by simp [regBin, intBin]
theorem reg_eql {t : TypeId} {k : IntKind} {x y : Int} : regBin P .eql t (.int k x) (.int k y) = some (.bool (decide (x = y))) := by simp [regBin, intBin]; rfl
theorem reg_neq {t : TypeId} {k : IntKind} {x y : Int} : regBin P .neq t (.int k x) (.int k y) = some (.bool (decide (x ≠ y))) := by
  have : (x != y) = decide (x ≠ y) := by by_cases h : x = y <;> simp [h]
  simp [regBin, intBin, this]
theorem reg_eqb {t : TypeId} {x y : Bool} (h : P.underlying t = some .bool) : regBin P .eql t (.bool x) (.bool y) = some (.bool (decide (x = y))) := by simp only [regBin, h, eqOp]; cases x <;> cases y <;> rfl
theorem reg_neb {t : TypeId} {x y : Bool} (h : P.underlying t = some .bool) : regBin P .neq t (.bool x) (.bool y) = some (.bool (decide (x ≠ y))) := by simp only [regBin, h, eqOp]; cases x <;> cases y <;> rfl

theorem bt_max {ts : Array TypeId} {k : IntKind} {x y : Int} : aBuiltin P H .max ts [.int k x, .int k y] = some (.int k (max x y), H) := by
  have : (if y > x then y else x) = max x y := by split <;> omega
  simp [aBuiltin, aMinMax, this]
theorem bt_min {ts : Array TypeId} {k : IntKind} {x y : Int} : aBuiltin P H .min ts [.int k x, .int k y] = some (.int k (min x y), H) := by
  have : (if y < x then y else x) = min x y := by split <;> omega
  simp [aBuiltin, aMinMax, this]
theorem bt_len {t e : TypeId} {x : Option Addr} {n c : Nat} (h : P.underlying t = some (.slice e)) : aBuiltin P H .len ⟨[t]⟩ [.slice x n c] = some (goInt n, H) := by
  simp [aBuiltin, aLen, h]

def storeV (P : Program) (ops : Array Oper) (anc : List Nat) (rest : List Oper) (i : Nat) (fps : List Fp) (a : AAct) (H : AHeap) (Q : AAct → AHeap → Prop) (n : Nat) : Option AHeap → Prop
  | some H1 => n < H.next ∧ (∀ r ∈ fps, Meets (anc.getD i 0) [n] [n] (idsAt H1 n) r) ∧ wkD P ops anc rest (i + 1) (⟨i, [n], [n], H.next, H.next⟩ :: fps) a H1 Q
  | none => False
theorem storeV_some {n : Nat} {a : AAct} {H1 : AHeap} : storeV P ops anc rest i fps a H Q n (some H1) = (n < H.next ∧ (∀ r ∈ fps, Meets (anc.getD i 0) [n] [n] (idsAt H1 n) r) ∧ wkD P ops anc rest (i + 1) (⟨i, [n], [n], H.next, H.next⟩ :: fps) a H1 Q) := by simp only [storeV]
theorem wd_store {x y : Operand} {t : TypeId} (hx : opOk P N x = true) (hy : opOk P N y = true) (hp : plainPtr (opv E x) = true) : wkD P ops anc (⟨none, .store t x y, ty, pos, after, none⟩ :: rest) i fps (mkA N E ds) H Q = storeV P ops anc rest i fps (mkA N E ds) H Q (ptrB (opv E x)) (aStore P H t (opv E x) (opv E y)) := by
  simp only [wkD, wantA, stepD, pureOp, aeval_opv hx, aeval_opv hy]
  unfold plainPtr at hp
  split at hp
  · rename_i n off heq
    rw [heq]
    simp only [storeD, ptrB]
    cases aStore P H t (.pointer (some ⟨n, off, none⟩)) (opv E y) with
    | none => rfl
    | some H1 => simp only [put_none, storeV]
  · cases hp

def newV (P : Program) (ops : Array Oper) (anc : List Nat) (rest : List Oper) (i : Nat) (fps : List Fp) (N : Nat) (E : Env) (ds : List Deferred) (d : Nat) (H : AHeap) (Q : AAct → AHeap → Prop) : Option (Value × AHeap) → Prop
  | some (v, H1) => (∀ r ∈ fps, Meets (anc.getD i 0) [] [] (idsV v ++ idsAt H1 H.next) r) ∧ wkD P ops anc rest (i + 1) (⟨i, [], [], H.next, H.next + 1⟩ :: fps) (mkA N (upd E d v) ds) H1 Q
  | none => False
theorem newV_some {v : Value} {H1 : AHeap} : newV P ops anc rest i fps N E ds d H Q (some (v, H1)) = ((∀ r ∈ fps, Meets (anc.getD i 0) [] [] (idsV v ++ idsAt H1 H.next) r) ∧ wkD P ops anc rest (i + 1) (⟨i, [], [], H.next, H.next + 1⟩ :: fps) (mkA N (upd E d v) ds) H1 Q) := by simp only [newV]
theorem wd_rvh {op : Op} {x : Option (Value × AHeap)} (hp : newOp op = true) (h : aop op P (mkA N E ds) H = rvh x) (hd : d < N) : wkD P ops anc (⟨some d, op, ty, pos, after, none⟩ :: rest) i fps (mkA N E ds) H Q = newV P ops anc rest i fps N E ds d H Q x := by
  have h1 : pureOp op = false := by cases op <;> first | rfl | cases hp
  have h2 : stepD P ⟨some d, op, ty, pos, after, none⟩ (mkA N E ds) H = restD P ⟨some d, op, ty, pos, after, none⟩ (mkA N E ds) H := by
    funext anc i fps K
    cases op <;> first | rfl | cases hp
  simp only [wkD, wantA, h2, restD, hp, h, rvh]
  cases x with
  | none => rfl
  | some v => simp only [Option.map_some, newD, put_some N E ds d v.1 hd, newV]
theorem wd_alloc {t : TypeId} (hd : d < N) : wkD P ops anc (⟨some d, .alloc t, ty, pos, after, none⟩ :: rest) i fps (mkA N E ds) H Q = newV P ops anc rest i fps N E ds d H Q (allocV H t (zeroOf P t)) :=
  wd_rvh rfl (by
    simp only [aop, xAlloc, Option.bind_eq_bind]
    cases zeroOf P t with
    | none => rfl
    | some z =>
      simp only [Option.bind_some, xBox, allocV, rvh, Option.bind_eq_bind]
      cases aNew H t z.cells.toList false <;> rfl) hd
theorem wd_box {t : TypeId} {x : Operand} (hx : opOk P N x = true) (hd : d < N) : wkD P ops anc (⟨some d, .box t x, ty, pos, after, none⟩ :: rest) i fps (mkA N E ds) H Q = newV P ops anc rest i fps N E ds d H Q (allocV H t (some (opv E x))) :=
  wd_rvh rfl (by
    simp only [aop, xBoxOp, aeval_opv hx, Option.bind_eq_bind, Option.bind_some, xBox, allocV, rvh]
    cases aNew H t (opv E x).cells.toList false <;> rfl) hd
theorem wd_buildSlice {t : TypeId} {n : Nat} {l : List (Nat × Operand)} (hd : d < N) : wkD P ops anc (⟨some d, .buildSlice t n ⟨l⟩, ty, pos, after, none⟩ :: rest) i fps (mkA N E ds) H Q = newV P ops anc rest i fps N E ds d H Q ((pairs P (mkA N E ds) l).bind (aBuildSlice P H t n)) :=
  wd_rvh rfl (by
    simp only [aop, xBuildSlice, Option.bind_eq_bind]
    cases pairs P (mkA N E ds) l <;> rfl) hd
theorem wd_makeSlice {t : TypeId} {x y : Operand} (hx : opOk P N x = true) (hy : opOk P N y = true) (hd : d < N) : wkD P ops anc (⟨some d, .makeSlice t x y, ty, pos, after, none⟩ :: rest) i fps (mkA N E ds) H Q = newV P ops anc rest i fps N E ds d H Q (aMakeSlice P H t (opv E x) (opv E y)) :=
  wd_rvh rfl (by simp only [aop, xMakeSlice, aeval_opv hx, aeval_opv hy, Option.bind_eq_bind, Option.bind_some]) hd
theorem wd_builtin {b : Builtin} {args : List Operand} {ts : Array TypeId} (ha : args.all (opOk P N) = true) (hd : d < N) (h : (regBt P b ts (args.map (opv E))).isSome = true) :
    wkD P ops anc (⟨some d, .call ⟨.builtin b, ⟨args⟩, ts⟩, ty, pos, after, none⟩ :: rest) i fps (mkA N E ds) H Q = valD P ops anc rest i fps N E ds d H Q (regBt P b ts (args.map (opv E))) := by
  cases hv : regBt P b ts (args.map (opv E)) with
  | none => rw [hv] at h; cases h
  | some v => simp only [wkD, wantA, stepD, pureOp, restD, newOp, btD, aevals_opv ha, hv, put_some N E ds d v hd, valD]
theorem rb_max {ts : Array TypeId} {k : IntKind} {x y : Int} : regBt P .max ts [.int k x, .int k y] = some (.int k (max x y)) := by
  have : (if y > x then y else x) = max x y := by split <;> omega
  simp [regBt, aMinMax, this]
theorem rb_min {ts : Array TypeId} {k : IntKind} {x y : Int} : regBt P .min ts [.int k x, .int k y] = some (.int k (min x y)) := by
  have : (if y < x then y else x) = min x y := by split <;> omega
  simp [regBt, aMinMax, this]
theorem rb_len {t e : TypeId} {x : Option Addr} {n c : Nat} (h : P.underlying t = some (.slice e)) : regBt P .len ⟨[t]⟩ [.slice x n c] = some (goInt n) := by
  simp [regBt, h]

def guardV (P : Program) (ops : Array Oper) (anc : List Nat) (o : Oper) (rest : List Oper) (i : Nat) (fps : List Fp) (N : Nat) (E : Env) (ds : List Deferred) (H : AHeap) (Q : AAct → AHeap → Prop) (want : Bool) : Value → Prop
  | .bool b => if b = want then wkD P ops anc (o :: rest) i fps (mkA N E ds) H Q else wkD P ops anc rest (i + 1) fps ((mkA N E ds).put o.dst undef) H Q
  | _ => wkD P ops anc rest (i + 1) fps ((mkA N E ds).put o.dst undef) H Q
theorem guardV_bool {o : Oper} {want b : Bool} : guardV P ops anc o rest i fps N E ds H Q want (.bool b) = if b = want then wkD P ops anc (o :: rest) i fps (mkA N E ds) H Q else wkD P ops anc rest (i + 1) fps ((mkA N E ds).put o.dst undef) H Q := by simp only [guardV]
theorem genD_guard {op : Op} {dst : Option Nat} {g : Option (Nat × Bool)} {a : AAct} {anc i : Nat} {K : List Fp → Value → AHeap → Prop} : genD P ⟨dst, op, ty, pos, after, g⟩ a H anc i fps K = genD P ⟨dst, op, ty, pos, after, none⟩ a H anc i fps K := rfl
theorem stepD_guard {op : Op} {dst : Option Nat} {g : Option (Nat × Bool)} {a : AAct} {anc i : Nat} {K : List Fp → Value → AHeap → Prop} : stepD P ⟨dst, op, ty, pos, after, g⟩ a H anc i fps K = stepD P ⟨dst, op, ty, pos, after, none⟩ a H anc i fps K := by
  unfold stepD restD
  simp only [genD_guard (g := g)]
theorem wd_guard {dst : Option Tmp} {op : Op} {j d : Nat} {want : Bool} (hj : dstOf ops j = some d) (hd : d < N) :
    wkD P ops anc (⟨dst, op, ty, pos, after, some (j, want)⟩ :: rest) i fps (mkA N E ds) H Q = guardV P ops anc ⟨dst, op, ty, pos, after, none⟩ rest i fps N E ds H Q want (E d) := by
  unfold dstOf at hj
  cases ho : ops[j]? with
  | none => rw [ho] at hj; cases hj
  | some oj =>
    rw [ho] at hj
    simp only [Option.bind_some] at hj
    have hw : wantA ops (mkA N E ds) ⟨dst, op, ty, pos, after, some (j, want)⟩ = (match E d with
        | .bool b => some (b == want)
        | _ => some false) := by
      simp only [wantA, ho, hj, tmp_mk N E ds d hd]
      cases E d <;> rfl
    have hn : wantA ops (mkA N E ds) ⟨dst, op, ty, pos, after, none⟩ = some true := rfl
    cases hv : E d with
    | bool b =>
      rw [hv] at hw
      simp only [guardV]
      by_cases h : b = want
      · rw [if_pos h]
        have : (b == want) = true := by simpa using h
        simp only [wkD, hw, this, hn]
        exact stepD_guard
      · rw [if_neg h]
        have : (b == want) = false := by simpa using h
        simp only [wkD, hw, this]
    | _ => rw [hv] at hw; simp only [wkD, hw, guardV]

theorem idsOk_nil {anc : Nat} {O : List Nat} : IdsOk anc [] O = True := by simp [IdsOk]
theorem idsOk_quiet {anc j n : Nat} {F W O : List Nat} : IdsOk anc (⟨j, F, W, n, n⟩ :: fps) O = IdsOk anc fps O := by simp [IdsOk]
theorem meets_nil {anc : Nat} {F W O : List Nat} : (∀ r ∈ ([] : List Fp), Meets anc F W O r) = True := by simp
theorem meets_quiet {anc j n : Nat} {F G O : List Nat} : (∀ r ∈ (⟨j, F, [], n, n⟩ : Fp) :: fps, Meets anc G [] O r) = ∀ r ∈ fps, Meets anc G [] O r := by
  simp [Meets]

end
end
end Go.Ax

/- Walks over abstract heaps: calls that only make new memory. -/
namespace Go.Ax

structure Grow (H H1 : AHeap) : Prop where
  next : H.next ≤ H1.next
  get : ∀ n, n < H.next → H1.get n = H.get n
  base : H1.base = H.base
  dirty : H1.dirty = H.dirty

theorem Grow.refl (H : AHeap) : Grow H H := ⟨Nat.le_refl _, fun _ _ => rfl, rfl, rfl⟩
theorem Grow.trans {H H1 H2 : AHeap} (a : Grow H H1) (b : Grow H1 H2) : Grow H H2 :=
  ⟨Nat.le_trans a.next b.next, fun n h => (b.get n (Nat.lt_of_lt_of_le h a.next)).trans (a.get n h), b.base.trans a.base, b.dirty.trans a.dirty⟩
theorem Grow.nw (H : AHeap) (e : TypeId) (l : List Value) (o : Bool) : Grow H (nw H e l o) :=
  ⟨Nat.le_succ _, fun n h => nw_get e l o (Nat.ne_of_lt h), rfl, rfl⟩
theorem Grow.blk {H H1 : AHeap} (g : Grow H H1) {n : Nat} {e : TypeId} {o : Bool} {l : List Value} (hn : n < H.next) (h : Blk H n e o l) : Blk H1 n e o l := h.of_get (g.get n hn)

theorem idsOk_empty {anc : Nat} {fps : List Fp} : IdsOk anc fps [] = True := by simp [IdsOk]
theorem idsOk_cons {anc : Nat} {fps : List Fp} {r : Fp} {O : List Nat} : IdsOk anc (r :: fps) O = ((r.lo < r.hi → anc.testBit r.i = true ∨ ∀ n ∈ O, n < r.lo ∨ r.hi ≤ n) ∧ IdsOk anc fps O) := by simp [IdsOk]
theorem ids_int {k : IntKind} {n : Int} : idsV (.int k n) = [] := by simp only [idsV]
theorem ids_bool {b : Bool} : idsV (.bool b) = [] := by simp only [idsV]
theorem ids_ptr {a : Addr} : idsV (.pointer (some a)) = [a.block] := by simp only [idsV]
theorem ids_nil : idsV (.pointer none) = [] := by simp only [idsV]
theorem ids_iface {t : TypeId} {v : Value} : idsV (.iface t v) = idsV v := by simp only [idsV]
theorem ids_agg {l : List Value} : idsV (.agg ⟨l⟩) = idsL l := by simp only [idsV, idsA]
theorem ids_tuple {l : List Value} : idsV (.tuple ⟨l⟩) = idsL l := by simp only [idsV, idsA]
theorem ids_func {f : FuncId} : idsV (.func (.func f) ⟨[]⟩ ⟨[]⟩) = [] := by simp [idsV, idsA, idsL]
theorem idsL_nil : idsL [] = [] := by simp only [idsL]
theorem idsL_cons {v : Value} {r : List Value} : idsL (v :: r) = idsV v ++ idsL r := by simp only [idsL]

section
variable {P : Program} {H : AHeap} {N : Nat} {E : Env} {ds : List Deferred} {ops : Array Oper} {anc : List Nat} {d : Nat} {ty : TypeId} {pos : String} {after : Array Edge} {rest : List Oper} {i : Nat} {fps : List Fp} {Q : AAct → AHeap → Prop}

theorem grow_merge {F : List Nat} {g : AHeap} (h : Grow (H.restrict F) g) : Grow H (H.merge g) ∧ (H.merge g).next = g.next ∧ ∀ n, H.next ≤ n → n < g.next → (H.merge g).get n = g.get n := by
  have hn := restrict_next H F
  have hd : g.dirty = [] := h.dirty.trans hn.2.2
  have hle : H.next ≤ g.next := by have := h.next; rw [hn.1] at this; exact this
  have hf := merge_facts H g
  refine ⟨⟨by rw [hf.1]; exact hle, fun n hlt => ?_, hf.2.1, ?_⟩, hf.1, fun n h1 h2 => ?_⟩
  · rw [merge_neg H g hle]
    rintro (h' | h')
    · rw [hd] at h'; cases h'
    · omega
  · simp only [AHeap.merge, hd, AHeap.mergeW]
    exact (mergeN_next g _ _ H).2
  · exact merge_pos H g hle (.inr ⟨h1, h2⟩)

theorem genV_grow {f : FuncId} {args : List Operand} {ts : Array TypeId} {v : Value} (F : List Nat) (ha : args.all (opOk P N) = true) (hb : hasBody P f = true) (hd : d < N) (hF : ∀ n ∈ F, H.get n ≠ none)
    {g : AHeap} (hc : CallS P f (args.map (opv E)) (H.restrict F) (.ok v) g) (hg : Grow (H.restrict F) g) (hm : ∀ r ∈ fps, Meets (anc.getD i 0) F [] (outIds v g H.next) r)
    (h : wkD P ops anc rest (i + 1) (⟨i, F, [], H.next, g.next⟩ :: fps) (mkA N (upd E d v) ds) (H.merge g) Q) : genV P ops anc ⟨some d, .call ⟨.value (.func f), ⟨args⟩, ts⟩, ty, pos, after, none⟩ rest i fps (mkA N E ds) H Q := by
  have hn := restrict_next H F
  have hdt : g.dirty = [] := hg.dirty.trans hn.2.2
  refine ⟨F, v, g, ?_, hF, (by rw [hdt]; simp), fun r hr => fpOk_of ?_, ?_⟩
  · refine opS_of (x := .enter f (args.map (opv E))) (g := H.restrict F) ?_ hc
    simp only [aop, xCall, aevals_opv ha, aeval, Option.bind_eq_bind, Option.bind_some, callV, aInvoke, enterN, hb, if_true, List.nil_append, List.append_nil, Option.map_some]
  · rw [hdt]; exact hm r hr
  · rw [hdt]
    simp only [put_some N E ds d v hd]
    exact h

theorem genV_growV {f : FuncId} {x : Operand} {args : List Operand} {ts : Array TypeId} {v : Value} (F : List Nat) (hx : opOk P N x = true) (hv : opv E x = .func (.func f) ⟨[]⟩ ⟨[]⟩) (ha : args.all (opOk P N) = true) (hb : hasBody P f = true) (hd : d < N) (hF : ∀ n ∈ F, H.get n ≠ none)
    {g : AHeap} (hc : CallS P f (args.map (opv E)) (H.restrict F) (.ok v) g) (hg : Grow (H.restrict F) g) (hm : ∀ r ∈ fps, Meets (anc.getD i 0) F [] (outIds v g H.next) r)
    (h : wkD P ops anc rest (i + 1) (⟨i, F, [], H.next, g.next⟩ :: fps) (mkA N (upd E d v) ds) (H.merge g) Q) : genV P ops anc ⟨some d, .call ⟨.value x, ⟨args⟩, ts⟩, ty, pos, after, none⟩ rest i fps (mkA N E ds) H Q := by
  have hn := restrict_next H F
  have hdt : g.dirty = [] := hg.dirty.trans hn.2.2
  refine ⟨F, v, g, ?_, hF, (by rw [hdt]; simp), fun r hr => fpOk_of ?_, ?_⟩
  · refine opS_of (x := .enter f (args.map (opv E))) (g := H.restrict F) ?_ hc
    simp only [aop, xCall, aevals_opv ha, aeval_opv hx, hv, Option.bind_eq_bind, Option.bind_some, callV, aInvoke, enterN, hb, if_true, List.nil_append, List.append_nil, Option.map_some]
  · rw [hdt]; exact hm r hr
  · rw [hdt]
    simp only [put_some N E ds d v hd]
    exact h

theorem wd_index {x y : Operand} {t : TypeId} (hx : opOk P N x = true) (hy : opOk P N y = true) (hd : d < N) (h : (aIndex P t (opv E x) (opv E y)).isSome = true) : wkD P ops anc (⟨some d, .index t x y, ty, pos, after, none⟩ :: rest) i fps (mkA N E ds) H Q = valD P ops anc rest i fps N E ds d H Q (aIndex P t (opv E x) (opv E y)) := by
  cases hv : aIndex P t (opv E x) (opv E y) with
  | none => rw [hv] at h; cases h
  | some v => exact wd_rv (x := some v) rfl (by simp only [aop, xIndex, aeval_opv hx, aeval_opv hy, Option.bind_eq_bind, Option.bind_some, indexV, hv]; rfl) hd

end
end Go.Ax

/- Walks over abstract heaps: a heap that is not known with a row of new blocks behind it. -/
namespace Go.Ax

theorem lset_same {α : Type} (d v w : α) : ∀ (l : List α) (i : Nat), lset d (lset d l i v) i w = lset d l i w
  | [], 0 => rfl
  | [], i + 1 => by simp only [lset, lset_same d v w [] i]
  | _ :: _, 0 => rfl
  | x :: r, i + 1 => by simp only [lset, lset_same d v w r i]

theorem lset_comm {α : Type} (d v w : α) : ∀ (l : List α) (i j : Nat), i ≠ j → lset d (lset d l i v) j w = lset d (lset d l j w) i v
  | [], 0, 0, h => absurd rfl h
  | [], 0, _ + 1, _ => rfl
  | [], _ + 1, 0, _ => rfl
  | [], i + 1, j + 1, h => by simp only [lset, lset_comm d v w [] i j (by omega)]
  | _ :: _, 0, 0, h => absurd rfl h
  | _ :: _, 0, _ + 1, _ => rfl
  | _ :: _, _ + 1, 0, _ => rfl
  | x :: r, i + 1, j + 1, h => by simp only [lset, lset_comm d v w r i j (by omega)]

theorem rootPut_same (R : List (List (List (Option AObj)))) (n : Nat) (o o' : Option AObj) : rootPut (rootPut R n o) n o' = rootPut R n o' := by
  simp only [rootPut, lset_getD, if_true, lset_same]

theorem rootPut_comm (R : List (List (List (Option AObj)))) {n m : Nat} (o o' : Option AObj) (h : n ≠ m) : rootPut (rootPut R n o) m o' = rootPut (rootPut R m o') n o := by
  simp only [rootPut, lset_getD]
  by_cases h1 : m / 256 = n / 256
  · rw [if_pos h1, if_pos h1.symm]
    simp only [lset_getD]
    by_cases h2 : m / 16 % 16 = n / 16 % 16
    · rw [if_pos h2, if_pos h2.symm, h1, h2, lset_same, lset_same, lset_same, lset_same, lset_comm none o o' _ _ _ (by omega)]
    · rw [if_neg h2, if_neg (fun e => h2 e.symm), h1, lset_same, lset_same, lset_comm _ _ _ _ _ _ (fun e => h2 e.symm)]
  · rw [if_neg h1, if_neg (fun e => h1 e.symm), lset_comm _ _ _ _ _ _ (fun e => h1 e.symm)]

theorem RV.set_same (v : RV) (i : Nat) (x y : Value) : (v.set i x).set i y = v.set i y := by
  simp only [RV.set, lset_getD, if_true, lset_same]

theorem RV.set_comm (v : RV) {i j : Nat} (x y : Value) (h : i ≠ j) : (v.set i x).set j y = (v.set j y).set i x := by
  simp only [RV.set, lset_getD]
  by_cases h1 : j / 16 = i / 16
  · rw [if_pos h1, if_pos h1.symm, h1, lset_same, lset_same, lset_comm _ _ _ _ _ _ (by omega)]
  · rw [if_neg h1, if_neg (fun e => h1 e.symm), lset_comm _ _ _ _ _ _ (fun e => h1 e.symm)]

theorem RV.sets_set (l : List Value) : ∀ (v : RV) (i j : Nat) (y : Value), j < i → (v.sets i l).set j y = (v.set j y).sets i l := by
  induction l with
  | nil => intros; rfl
  | cons x r ih =>
    intro v i j y h
    simp only [RV.sets]
    rw [ih _ _ _ _ (by omega), RV.set_comm _ _ _ (by omega)]

def putL : List Value → Nat → List Value → List Value
  | [], _, _ => []
  | x :: r, 0, [] => x :: r
  | _ :: r, 0, y :: ys => y :: putL r 0 ys
  | x :: r, k + 1, vs => x :: putL r k vs

theorem putL_nil (l : List Value) : putL l 0 [] = l := by cases l <;> rfl

theorem putL_length : ∀ (l : List Value) (off : Nat) (vs : List Value), (putL l off vs).length = l.length
  | [], _, _ => rfl
  | _ :: _, 0, [] => rfl
  | _ :: r, 0, y :: ys => by simp only [putL, List.length_cons, putL_length r 0 ys]
  | x :: r, k + 1, vs => by simp only [putL, List.length_cons, putL_length r k vs]

theorem putL_splice : ∀ (l : List Value) (off : Nat) (vs : List Value), off + vs.length ≤ l.length → putL l off vs = splice l off vs
  | [], off, vs, h => by
    simp only [List.length_nil] at h
    have h1 : off = 0 := by omega
    have h2 : vs = [] := List.length_eq_zero_iff.1 (by omega)
    subst h1 h2; rfl
  | x :: r, 0, [], _ => by simp [putL, splice]
  | x :: r, 0, y :: ys, h => by
    have := putL_splice r 0 ys (by simp only [List.length_cons] at h; omega)
    simp only [splice, List.take_zero, List.nil_append, Nat.zero_add] at this
    simp [putL, splice, this]
  | x :: r, k + 1, vs, h => by
    have := putL_splice r k vs (by simp only [List.length_cons] at h; omega)
    rw [putL, this]
    simp [splice, Nat.add_right_comm k 1 vs.length]

theorem RV.sets_put : ∀ (l : List Value) (v : RV) (k off : Nat) (vs : List Value), off + vs.length ≤ l.length → (v.sets k l).sets (k + off) vs = v.sets k (putL l off vs)
  | [], v, k, off, vs, h => by
    have h2 : vs = [] := List.length_eq_zero_iff.1 (by simp only [List.length_nil] at h; omega)
    subst h2
    rfl
  | x :: r, v, k, 0, [], _ => rfl
  | x :: r, v, k, 0, y :: ys, h => by
    have ih := RV.sets_put r (v.set k y) (k + 1) 0 ys (by simp only [List.length_cons] at h; omega)
    simp only [RV.sets, putL, Nat.add_zero] at ih ⊢
    rw [RV.sets_set _ _ _ _ _ (Nat.lt_succ_self k), RV.set_same]
    exact ih
  | x :: r, v, k, off + 1, vs, h => by
    have ih := RV.sets_put r (v.set k x) (k + 1) off vs (by simp only [List.length_cons] at h; omega)
    simp only [RV.sets, putL]
    rw [show k + (off + 1) = k + 1 + off by omega]
    exact ih

theorem RV.sets_n (l : List Value) : ∀ (t : List (List Value)) (n m i : Nat), ({ RV.sets ⟨t, n⟩ i l with n := m } : RV) = RV.sets ⟨t, m⟩ i l := by
  induction l with
  | nil => intros; rfl
  | cons x r ih => intro t n m i; simp only [RV.sets, RV.set]; exact ih _ n m _

theorem RV.ofList_sets (l : List Value) (off : Nat) (vs : List Value) (h : off + vs.length ≤ l.length) : (RV.ofList l).sets off vs = RV.ofList (putL l off vs) := by
  unfold RV.ofList
  rw [RV.sets_n, RV.sets_n, putL_length]
  have := RV.sets_put l ⟨[], l.length⟩ 0 off vs h
  rw [Nat.zero_add] at this
  exact this

theorem RV.gets_ofList (l : List Value) : (RV.ofList l).gets 0 l.length = l := by
  apply List.ext_getElem?
  intro i
  rw [RV.gets_eq]
  by_cases hi : i < l.length
  · simp [hi, RV.get_ofList, List.getD]
  · rw [List.getElem?_eq_none (by simpa using hi), List.getElem?_eq_none (by omega)]

structure Bl where
  e : TypeId
  o : Bool
  l : List Value

def Bl.obj (b : Bl) : AObj := ⟨.cells #[] b.e, b.o, RV.ofList b.l⟩

def ext (H : AHeap) : List Bl → AHeap
  | [] => H
  | b :: r => ext (nw H b.e b.l b.o) r

section
variable {P : Program} {H : AHeap} {L : List Bl}

theorem ext_nil : ext H [] = H := rfl

theorem ext_next : ∀ {L : List Bl} {H : AHeap}, (ext H L).next = H.next + L.length
  | [], _ => rfl
  | b :: r, H => by rw [ext, ext_next, nw_next, List.length_cons]; omega
theorem ext_base : ∀ {L : List Bl} {H : AHeap}, (ext H L).base = H.base
  | [], _ => rfl
  | b :: r, H => by rw [ext, ext_base, nw_base]
theorem ext_dirty : ∀ {L : List Bl} {H : AHeap}, (ext H L).dirty = H.dirty
  | [], _ => rfl
  | b :: r, H => by rw [ext, ext_dirty, nw_dirty]

theorem ext_get_old : ∀ {L : List Bl} {H : AHeap} {n : Nat}, n < H.next → (ext H L).get n = H.get n
  | [], _, _, _ => rfl
  | b :: r, H, n, h => by rw [ext, ext_get_old (by rw [nw_next]; omega), nw_get _ _ _ (by omega)]

theorem ext_get_new : ∀ {L : List Bl} {H : AHeap} {i : Nat}, i < L.length → (ext H L).get (H.next + i) = L[i]?.map Bl.obj
  | [], _, _, h => absurd h (by simp)
  | b :: r, H, 0, _ => by
    rw [ext, ext_get_old (by rw [nw_next]; omega), nw, AHeap.get_new, if_pos (by omega)]
    rfl
  | b :: r, H, i + 1, h => by
    have := ext_get_new (L := r) (H := nw H b.e b.l b.o) (i := i) (by simpa using h)
    rw [nw_next] at this
    rw [ext, show H.next + (i + 1) = H.next + 1 + i by omega, this]
    simp

theorem ext_get_far : ∀ {L : List Bl} {H : AHeap} {n : Nat}, H.next + L.length ≤ n → (ext H L).get n = H.get n
  | [], _, _, _ => rfl
  | b :: r, H, n, h => by
    rw [List.length_cons] at h
    rw [ext, ext_get_far (by rw [nw_next]; omega), nw_get _ _ _ (by omega)]

theorem ext_snoc : ∀ {L : List Bl} {H : AHeap} (e : TypeId) (l : List Value) (o : Bool), nw (ext H L) e l o = ext H (L ++ [⟨e, o, l⟩])
  | [], _, _, _, _ => rfl
  | b :: r, H, e, l, o => by rw [ext, ext_snoc, List.cons_append, ext]

theorem ext_append : ∀ {L M : List Bl} {H : AHeap}, ext (ext H L) M = ext H (L ++ M)
  | [], _, _ => rfl
  | b :: r, M, H => by rw [ext, ext_append, List.cons_append, ext]

theorem upd_new {n : Nat} {o : Option AObj} {x : AObj} (h : n < H.next) : (H.new x).upd n o = (H.upd n o).new x := by
  simp only [AHeap.upd, AHeap.new]
  rw [rootPut_comm _ _ _ (Nat.ne_of_gt h)]
  rfl

theorem ext_upd_old : ∀ {L : List Bl} {H : AHeap} {n : Nat} {o : Option AObj}, n < H.next → (ext H L).upd n o = ext (H.upd n o) L
  | [], _, _, _, _ => rfl
  | b :: r, H, n, o, h => by
    rw [ext, ext_upd_old (by rw [nw_next]; omega), ext]
    congr 1
    exact upd_new h

theorem new_upd {o x : AObj} (h : H.base ≤ H.next) : (H.new x).upd H.next (some o) = H.new o := by
  have : Nat.blt H.next H.base = false := by
    cases hb : Nat.blt H.next H.base with
    | false => rfl
    | true => have := blt_lt hb; omega
  simp only [AHeap.upd, AHeap.new, rootPut_same, this, Bool.false_eq_true, if_false]

theorem ext_upd_new : ∀ {L : List Bl} {H : AHeap} {i : Nat} {b : Bl}, H.base ≤ H.next → i < L.length → (ext H L).upd (H.next + i) (some b.obj) = ext H (L.set i b)
  | [], _, _, _, _, h => absurd h (by simp)
  | c :: r, H, 0, b, hb, _ => by
    rw [ext, ext_upd_old (by rw [nw_next]; omega), List.set_cons_zero, ext]
    congr 1
    exact new_upd hb
  | c :: r, H, i + 1, b, hb, h => by
    have := ext_upd_new (L := r) (H := nw H c.e c.l c.o) (i := i) (b := b) (by rw [nw_next, nw_base]; omega) (by simpa using h)
    rw [nw_next] at this
    rw [ext, show H.next + (i + 1) = H.next + 1 + i by omega, this, List.set_cons_succ, ext]

def bk (H : AHeap) (n : Nat) : Option Bl := (cellsAt H n).map fun x => ⟨x.2.1, x.2.2, x.1.gets 0 x.1.n⟩

theorem bk_get {H G : AHeap} {n : Nat} (h : H.get n = G.get n) : bk H n = bk G n := by simp only [bk, cellsAt, h]
theorem bk_ne {n : Nat} {b : Bl} (h : bk H n = some b) : H.get n ≠ none := by
  intro hg
  simp [bk, cellsAt, hg] at h

theorem bk_blk {n : Nat} {b : Bl} (h : bk H n = some b) : Blk H n b.e b.o b.l := by
  unfold bk at h
  cases hc : cellsAt H n with
  | none => rw [hc] at h; cases h
  | some x =>
    rw [hc] at h
    obtain ⟨rv, e, o⟩ := x
    cases h
    exact ⟨rv, hc, by simp, fun i hi => by rw [RV.length_gets] at hi; rw [RV.gets_getD _ _ _ _ hi, Nat.zero_add]⟩

theorem blk_bk {n : Nat} {e : TypeId} {o : Bool} {l : List Value} (h : Blk H n e o l) : bk H n = some ⟨e, o, l⟩ := by
  obtain ⟨rv, hc, hn, hg⟩ := h
  simp only [bk, hc, Option.map_some]
  rw [hn, Blk.gets hn hg 0 l.length (by omega)]
  simp

theorem bk_old {n : Nat} (h : n < H.next) : bk (ext H L) n = bk H n := bk_get (ext_get_old h)
theorem bk_new {b i : Nat} (h : H.next = b) : bk (ext H L) (b + i) = if i < L.length then L[i]? else bk H (b + i) := by
  subst h
  by_cases hi : i < L.length
  · rw [if_pos hi]
    simp only [bk, cellsAt, ext_get_new hi]
    rw [List.getElem?_eq_getElem hi]
    simp only [Option.map_some, Bl.obj, RV.n_ofList, RV.gets_ofList]
  · rw [if_neg hi]
    exact bk_get (ext_get_far (by omega))

def qk (H : AHeap) (n : Nat) : Option Bl :=
  match H.get n with
  | some ⟨.cells _ e (_ + 1, _), o, v⟩ => some ⟨e, o, v.gets 0 v.n⟩
  | _ => none
def orr : Option Bl → Option Bl → Option Bl
  | some b, _ => some b
  | none, x => x
theorem orr_some {b : Bl} {x : Option Bl} : orr (some b) x = some b := rfl
abbrev rk (H : AHeap) (n : Nat) : Option Bl := orr (bk H n) (qk H n)
theorem qk_get {H G : AHeap} {n : Nat} (h : H.get n = G.get n) : qk H n = qk G n := by simp only [qk, h]
theorem rk_get {H G : AHeap} {n : Nat} (h : H.get n = G.get n) : rk H n = rk G n := by simp only [rk, bk_get h, qk_get h]
theorem rk_of {n : Nat} {b : Bl} (h : bk H n = some b) : rk H n = some b := by simp only [rk, h, orr]
theorem rk_eq {n : Nat} : rk H n = (cellsR H n).map fun x => ⟨x.2.1, x.2.2, x.1.gets 0 x.1.n⟩ := by
  unfold rk bk qk cellsAt cellsR
  cases H.get n with
  | none => rfl
  | some o =>
    obtain ⟨ob, op, v⟩ := o
    cases ob with
    | cells c e f =>
      obtain ⟨k, g⟩ := f
      cases k <;> rfl
    | _ => rfl
theorem rk_ne {n : Nat} {b : Bl} (h : rk H n = some b) : H.get n ≠ none := by
  intro hg
  rw [rk_eq] at h
  simp [cellsR, hg] at h
theorem rk_blk {n : Nat} {b : Bl} (h : rk H n = some b) : ∃ rv, cellsR H n = some (rv, b.e, b.o) ∧ rv.n = b.l.length ∧ ∀ i, i < b.l.length → rv.get i = b.l.getD i undef := by
  rw [rk_eq] at h
  cases hc : cellsR H n with
  | none => rw [hc] at h; cases h
  | some x =>
    rw [hc] at h
    obtain ⟨rv, e, o⟩ := x
    cases h
    exact ⟨rv, rfl, by simp, fun i hi => by rw [RV.length_gets] at hi; rw [RV.gets_getD _ _ _ _ hi, Nat.zero_add]⟩
theorem qk_old {n : Nat} (h : n < H.next) : qk (ext H L) n = qk H n := qk_get (ext_get_old h)
theorem rk_old {n : Nat} (h : n < H.next) : rk (ext H L) n = rk H n := rk_get (ext_get_old h)

def ldB (P : Program) (t : TypeId) (off : Nat) : Option Bl → Option Value
  | none => none
  | some b => (match aggT P t with
    | some true => (szOf P t).bind fun sz => if off + sz ≤ b.l.length then some (.agg ⟨(b.l.drop off).take sz⟩) else none
    | some false => b.l[off]?
    | none => none)

theorem load_bk {t : TypeId} {n off : Nat} : aLoad P H t (.pointer (some ⟨n, off, none⟩)) = ldB P t off (orr (bk H n) (qk H n)) := by
  show _ = ldB P t off (rk H n)
  cases hb : rk H n with
  | none =>
    have : cellsR H n = none := by
      rw [rk_eq] at hb
      simpa using hb
    simp only [aLoad, this, ldB, Option.bind_eq_bind, Option.bind_none]
  | some b =>
    have hblk := rk_blk hb
    simp only [ldB]
    obtain ⟨rv, h1, h2, h3⟩ := hblk
    simp only [aLoad, h1, Option.bind_eq_bind, Option.bind_some]
    cases aggT P t with
    | none => rfl
    | some x =>
      cases x with
      | false =>
        simp only [Option.bind_some]
        by_cases h : off < b.l.length
        · rw [if_pos (blt_of (by omega)), h3 off h]
          simp [List.getD, h]
        · rw [if_neg (fun e => h (by have := blt_lt e; omega)), List.getElem?_eq_none (by omega)]
      | true =>
        simp only [Option.bind_some]
        cases szOf P t with
        | none => rfl
        | some sz =>
          simp only [Option.bind_some]
          by_cases h : off + sz ≤ b.l.length
          · rw [if_pos (by rw [Nat.ble_eq]; omega), if_pos h, Blk.gets h2 h3 off sz h]
          · rw [if_neg (by rw [Nat.ble_eq]; omega), if_neg h]

theorem ld_one {t e : TypeId} {o : Bool} {l : List Value} {off : Nat} (h : aggT P t = some false) : ldB P t off (some ⟨e, o, l⟩) = l[off]? := by simp only [ldB, h]
theorem ld_agg {t e : TypeId} {o : Bool} {l : List Value} {off : Nat} (h : aggT P t = some true) : ldB P t off (some ⟨e, o, l⟩) = (szOf P t).bind fun sz => if off + sz ≤ l.length then some (.agg ((l.drop off).take sz).toArray) else none := by simp only [ldB, h]

structure WF (P : Program) (H : AHeap) : Prop where
  base : H.base ≤ H.next
  glob : P.globals.size ≤ H.next
  dom : ∀ n o, H.get n = some o → n < H.next ∧ sco H.next o

theorem WF.lt (w : WF P H) {n : Nat} {b : Bl} (h : bk H n = some b) : n < H.next := by
  cases hg : H.get n with
  | none => exact absurd hg (bk_ne h)
  | some o => exact (w.dom n o hg).1

theorem WF.sc (w : WF P H) {n : Nat} {b : Bl} (h : bk H n = some b) {v : Value} (hv : v ∈ b.l) : scb H.next v = true := by
  unfold bk at h
  cases hc : cellsAt H n with
  | none => rw [hc] at h; cases h
  | some x =>
    rw [hc] at h
    obtain ⟨rv, e, o⟩ := x
    cases h
    unfold cellsAt at hc
    split at hc
    · rename_i hg
      cases hc
      have := (w.dom n _ hg).2
      simp only [sco] at this
      simp only [RV.gets_eq, List.mem_map, List.mem_range, Nat.zero_add] at hv
      obtain ⟨i, hi, rfl⟩ := hv
      exact this i hi
    · cases hc

theorem new_ext {e : TypeId} {l : List Value} {o : Bool} (h : scbL (H.next + L.length) l = true) : aNew (ext H L) e l o = some (ext H (L ++ [⟨e, o, l⟩])) := by
  rw [aNew_nw (by rw [ext_next]; exact h), ext_snoc]

theorem write_new {b i off : Nat} {vs : List Value} {e : TypeId} {o : Bool} {l : List Value} (hH : H.next = b) (hb : H.base ≤ H.next) (hi : L[i]? = some ⟨e, o, l⟩) (hoff : off + vs.length ≤ l.length) (h1 : vs.all one = true) (h2 : scbL (b + L.length) vs = true) :
    aWrite (ext H L) (b + i) off vs = some (ext H (L.set i ⟨e, o, putL l off vs⟩)) := by
  subst hH
  have hlt : i < L.length := by
    rcases Nat.lt_or_ge i L.length with h | h
    · exact h
    · rw [List.getElem?_eq_none h] at hi; cases hi
  have hg : cellsAt (ext H L) (H.next + i) = some (RV.ofList l, e, o) := by
    simp only [cellsAt, ext_get_new hlt, hi, Option.map_some, Bl.obj]
  have hble : Nat.ble (off + vs.length) (RV.ofList l).n = true := by rw [Nat.ble_eq]; exact hoff
  simp only [aWrite, hg, Option.bind_eq_bind, Option.bind_some, hble, h1, ext_next, h2, Bool.and_self, if_true]
  rw [RV.ofList_sets l off vs hoff]
  exact congrArg some (ext_upd_new (b := ⟨e, o, putL l off vs⟩) hb hlt)

def uw (H : AHeap) (n off : Nat) (vs : List Value) : AHeap :=
  match cellsAt H n with
  | some (rv, e, o) => H.upd n (some ⟨.cells #[] e, o, rv.sets off vs⟩)
  | none => H

theorem uw_next {n off : Nat} {vs : List Value} : (uw H n off vs).next = H.next := by unfold uw; split <;> rfl
theorem uw_base {n off : Nat} {vs : List Value} : (uw H n off vs).base = H.base := by unfold uw; split <;> rfl
theorem uw_dirty {n off : Nat} {vs : List Value} {m : Nat} (h : m ∈ (uw H n off vs).dirty) : m ∈ H.dirty ∨ (m = n ∧ n < H.base) := by
  unfold uw at h
  split at h
  · simp only [AHeap.upd] at h
    split at h
    · rename_i hb
      rcases List.mem_cons.1 h with h | h
      · exact .inr ⟨h, blt_lt hb⟩
      · exact .inl h
    · exact .inl h
  · exact .inl h
theorem uw_get {n off : Nat} {vs : List Value} {m : Nat} (h : m ≠ n) : (uw H n off vs).get m = H.get m := by
  unfold uw
  split
  · rw [AHeap.get_upd, if_neg h]
  · rfl
theorem bk_uw_ne {n m off : Nat} {vs : List Value} (h : m ≠ n) : bk (uw H n off vs) m = bk H m := bk_get (uw_get h)

def putB (off : Nat) (vs : List Value) (b : Bl) : Bl := ⟨b.e, b.o, putL b.l off vs⟩
theorem putB_eq {off : Nat} {vs : List Value} {e : TypeId} {o : Bool} {l : List Value} : putB off vs ⟨e, o, l⟩ = ⟨e, o, putL l off vs⟩ := rfl

theorem putL_get : ∀ (l : List Value) (off : Nat) (vs : List Value) (j : Nat), j < l.length → (putL l off vs)[j]? = if off ≤ j ∧ j < off + vs.length then vs[j - off]? else l[j]?
  | [], _, _, j, h => absurd h (by simp)
  | x :: r, 0, [], j, _ => by simp only [putL, List.length_nil, Nat.add_zero]; rw [if_neg (by omega)]
  | x :: r, 0, y :: ys, 0, _ => by simp [putL]
  | x :: r, 0, y :: ys, j + 1, h => by
    have := putL_get r 0 ys j (by simpa using h)
    simp only [putL, List.getElem?_cons_succ, List.length_cons, Nat.zero_add, Nat.zero_le, true_and, Nat.add_lt_add_iff_right, Nat.sub_zero] at this ⊢
    exact this
  | x :: r, k + 1, vs, 0, _ => by simp [putL]
  | x :: r, k + 1, vs, j + 1, h => by
    have := putL_get r k vs j (by simpa using h)
    simp only [putL, List.getElem?_cons_succ, Nat.add_le_add_iff_right, Nat.add_right_comm k 1, Nat.add_lt_add_iff_right, Nat.add_sub_add_right]
    exact this

theorem bk_uw_eq {n off : Nat} {vs : List Value} : bk (uw H n off vs) n = (bk H n).map (putB off vs) := by
  unfold bk
  cases hc : cellsAt H n with
  | none => simp [uw, hc]
  | some x =>
    obtain ⟨rv, e, o⟩ := x
    have h1 : uw H n off vs = H.upd n (some ⟨.cells #[] e, o, rv.sets off vs⟩) := by simp only [uw, hc]
    have h2 : cellsAt (uw H n off vs) n = some (rv.sets off vs, e, o) := by rw [h1]; simp [cellsAt, AHeap.get_upd]
    rw [h2]
    simp only [Option.map_some, putB, RV.n_sets]
    congr 2
    apply List.ext_getElem?
    intro j
    by_cases hj : j < rv.n
    · rw [putL_get _ _ _ _ (by simpa using hj), RV.gets_eq, RV.gets_eq]
      simp only [List.getElem?_map, List.getElem?_range hj, Option.map_some, Nat.zero_add, RV.get_sets]
      split
      · rename_i hh
        rw [List.getElem?_eq_getElem (by omega)]
        simp [List.getD, List.getElem?_eq_getElem (show j - off < vs.length by omega)]
      · rfl
    · rw [List.getElem?_eq_none (by simpa using hj), List.getElem?_eq_none (by rw [putL_length]; simpa using hj)]

theorem bk_uw {n off : Nat} {vs : List Value} {e : TypeId} {o : Bool} {l : List Value} (h : bk H n = some ⟨e, o, l⟩) (hoff : off + vs.length ≤ l.length) : bk (uw H n off vs) n = some ⟨e, o, putL l off vs⟩ := by
  obtain ⟨rv, hc, hn, hg⟩ := bk_blk h
  have : Blk (uw H n off vs) n e o (splice l off vs) := by
    simp only at hc hn hg
    refine ⟨rv.sets off vs, ?_, ?_, fun i hi => ?_⟩
    · have : uw H n off vs = H.upd n (some ⟨.cells #[] e, o, rv.sets off vs⟩) := by simp only [uw, hc]
      rw [this]
      simp [cellsAt, AHeap.get_upd]
    · rw [RV.n_sets, hn, splice_length hoff]
    · rw [splice_length hoff] at hi
      rw [RV.get_sets, splice_get hoff]
      split
      · rfl
      · exact hg i hi
  rw [putL_splice l off vs hoff]
  exact blk_bk this

theorem write_old {n off : Nat} {vs : List Value} {b : Bl} (hn : n < H.next) (h : bk H n = some b) (hoff : off + vs.length ≤ b.l.length) (h1 : vs.all one = true) (h3 : scbL (H.next + L.length) vs = true) :
    aWrite (ext H L) n off vs = some (ext (uw H n off vs) L) := by
  obtain ⟨rv, hc, hn2, _⟩ := bk_blk h
  have hc' : cellsAt (ext H L) n = some (rv, b.e, b.o) := by
    rw [← hc]; simp only [cellsAt, ext_get_old hn]
  have hb : Nat.ble (off + vs.length) rv.n = true := by rw [Nat.ble_eq]; omega
  simp only [aWrite, hc', Option.bind_eq_bind, Option.bind_some, hb, h1, ext_next, h3, Bool.and_self, if_true]
  rw [ext_upd_old hn]
  simp only [uw, hc]

def stB (P : Program) (t : TypeId) (N off : Nat) (v : Value) : Option Bl → Option Bl
  | some ⟨e, o, l⟩ => if szOf P t = some v.cells.toList.length ∧ off + v.cells.toList.length ≤ l.length ∧ v.cells.toList.all one = true ∧ scbL N v.cells.toList = true then some ⟨e, o, putL l off v.cells.toList⟩ else none
  | none => none
theorem stB_ok {t e : TypeId} {o : Bool} {l : List Value} {N off : Nat} {v : Value} (h1 : szOf P t = some v.cells.toList.length) (h2 : off + v.cells.toList.length ≤ l.length) (h3 : v.cells.toList.all one = true) (h4 : scbL N v.cells.toList = true) :
    stB P t N off v (some ⟨e, o, l⟩) = some ⟨e, o, putL l off v.cells.toList⟩ := by simp only [stB, h1, h2, h3, h4, and_self, if_true]

theorem write_none {n off : Nat} {vs : List Value} {rv : RV} {e : TypeId} {o : Bool} (hc : cellsAt H n = some (rv, e, o)) (h : ¬ (off + vs.length ≤ rv.n ∧ vs.all one = true ∧ scbL H.next vs = true)) : aWrite H n off vs = none := by
  simp only [aWrite, hc, Option.bind_eq_bind, Option.bind_some]
  rw [if_neg]
  intro hh
  simp only [Bool.and_eq_true, Nat.ble_eq] at hh
  exact h ⟨hh.1.1, hh.1.2, hh.2⟩

theorem store_new {t : TypeId} {b i off : Nat} {v : Value} (hH : H.next = b) (hb : H.base ≤ H.next) (hi : i < L.length) :
    aStore P (ext H L) t (.pointer (some ⟨b + i, off, none⟩)) v = (stB P t (b + L.length) off v L[i]?).map fun x => ext H (L.set i x) := by
  obtain ⟨⟨e, o, l⟩, hL⟩ : ∃ x, L[i]? = some x := ⟨_, List.getElem?_eq_getElem hi⟩
  rw [hL]
  simp only [stB]
  split
  · rename_i hc
    simp only [aStore, hc.1, Option.bind_eq_bind, Option.bind_some, if_true, Option.map_some]
    exact write_new hH hb hL hc.2.1 hc.2.2.1 hc.2.2.2
  · rename_i hc
    simp only [aStore, Option.bind_eq_bind, Option.map_none]
    cases hsz : szOf P t with
    | none => rfl
    | some sz =>
      simp only [Option.bind_some]
      split
      · rename_i hl
        subst hH
        refine write_none (rv := RV.ofList l) (e := e) (o := o) (by simp only [cellsAt, ext_get_new hi, hL, Option.map_some, Bl.obj]) ?_
        rw [ext_next]
        exact fun hh => hc ⟨by rw [hsz, hl], hh.1, hh.2.1, hh.2.2⟩
      · rfl

theorem store_old {t : TypeId} {n off : Nat} {v : Value} (hn : n < H.next) :
    aStore P (ext H L) t (.pointer (some ⟨n, off, none⟩)) v = (stB P t (H.next + L.length) off v (bk H n)).map fun _ => ext (uw H n off v.cells.toList) L := by
  cases hbk : bk H n with
  | none =>
    have : cellsAt H n = none := by unfold bk at hbk; simpa using hbk
    have hc' : cellsAt (ext H L) n = none := by rw [← this]; simp only [cellsAt, ext_get_old hn]
    simp only [aStore, stB, Option.bind_eq_bind, Option.map_none]
    cases szOf P t with
    | none => rfl
    | some sz => simp only [Option.bind_some, aWrite, hc', Option.bind_eq_bind, Option.bind_none, ite_self]
  | some bl =>
    obtain ⟨e, o, l⟩ := bl
    simp only [stB]
    split
    · rename_i hc
      simp only [aStore, hc.1, Option.bind_eq_bind, Option.bind_some, if_true, Option.map_some]
      exact write_old hn hbk hc.2.1 hc.2.2.1 hc.2.2.2
    · rename_i hc
      simp only [aStore, Option.bind_eq_bind, Option.map_none]
      cases hsz : szOf P t with
      | none => rfl
      | some sz =>
        simp only [Option.bind_some]
        split
        · rename_i hl
          obtain ⟨rv, hc2, hn2, _⟩ := bk_blk hbk
          refine write_none (rv := rv) (e := e) (o := o) (by rw [← hc2]; simp only [cellsAt, ext_get_old hn]) ?_
          rw [ext_next, hn2]
          exact fun hh => hc ⟨by rw [hsz, hl], hh.1, hh.2.1, hh.2.2⟩
        · rfl

end
end Go.Ax

/- Walks over abstract heaps: new blocks of a call that are dropped, kept or numbered anew. -/
namespace Go.Ax

def rnF (σ : Nat → Nat) : Fn → Fn
  | .yield l => .yield (σ l)
  | f => f

mutual
def rnV (σ : Nat → Nat) : Value → Value
  | .pointer (some a) => .pointer (some ⟨σ a.block, a.off, a.spot⟩)
  | .slice (some a) len cap => .slice (some ⟨σ a.block, a.off, a.spot⟩) len cap
  | .map (some r) => .map (some (σ r))
  | .func f a b => .func (rnF σ f) (rnA σ a) (rnA σ b)
  | .iface t v => .iface t (rnV σ v)
  | .agg cs => .agg (rnA σ cs)
  | .tuple cs => .tuple (rnA σ cs)
  | .bool b => .bool b
  | .int k n => .int k n
  | .float k b => .float k b
  | .complex k a b => .complex k a b
  | .string s => .string s
  | .pointer none => .pointer none
  | .slice none len cap => .slice none len cap
  | .map none => .map none
  | .chan none => .chan none
  | .chan (some k) => .chan (some (σ k))
  | .nilFunc => .nilFunc
  | .nilIface => .nilIface
def rnA (σ : Nat → Nat) : Array Value → Array Value
  | ⟨l⟩ => ⟨rnL σ l⟩
def rnL (σ : Nat → Nat) : List Value → List Value
  | [] => []
  | v :: r => rnV σ v :: rnL σ r
end

theorem rnL_eq (σ : Nat → Nat) : ∀ l, rnL σ l = l.map (rnV σ)
  | [] => rfl
  | v :: r => by rw [rnL, rnL_eq σ r]; rfl

def Ren.comp (ρ : Ren) (σ : Nat → Nat) : Ren := ⟨fun n => ρ.blk (σ n), fun n => ρ.sh (σ n), fun n => ρ.ex (σ n), fun n => ρ.op (σ n), fun n => ρ.op1 (σ n)⟩

theorem comp_fn (ρ : Ren) (σ : Nat → Nat) (f : Fn) : ρ.fn (rnF σ f) = (ρ.comp σ).fn f := by cases f <;> rfl

mutual
theorem comp_val (ρ : Ren) (σ : Nat → Nat) : ∀ v, ρ.val (rnV σ v) = (ρ.comp σ).val v
  | .bool _ => by rw [rnV, Ren.val, Ren.val]
  | .int _ _ => by rw [rnV, Ren.val, Ren.val]
  | .float _ _ => by rw [rnV, Ren.val, Ren.val]
  | .complex _ _ _ => by rw [rnV, Ren.val, Ren.val]
  | .string _ => by rw [rnV, Ren.val, Ren.val]
  | .pointer none => by rw [rnV, Ren.val, Ren.val]
  | .pointer (some a) => by rw [rnV, Ren.val, Ren.val]; rfl
  | .slice none _ _ => by rw [rnV, Ren.val, Ren.val]
  | .slice (some a) _ _ => by rw [rnV, Ren.val, Ren.val]; rfl
  | .map none => by rw [rnV, Ren.val, Ren.val]
  | .map (some r) => by rw [rnV, Ren.val, Ren.val]; rfl
  | .chan none => by rw [rnV, Ren.val, Ren.val]
  | .chan (some k) => by rw [rnV, Ren.val, Ren.val]; rfl
  | .func f a b => by rw [rnV, Ren.val, Ren.val, comp_valA ρ σ a, comp_valA ρ σ b, comp_fn]
  | .nilFunc => by rw [rnV, Ren.val, Ren.val]
  | .iface t v => by rw [rnV, Ren.val, Ren.val, comp_val ρ σ v]
  | .nilIface => by rw [rnV, Ren.val, Ren.val]
  | .agg cs => by rw [rnV, Ren.val, Ren.val, comp_valA ρ σ cs]
  | .tuple cs => by rw [rnV, Ren.val, Ren.val, comp_valA ρ σ cs]
theorem comp_valA (ρ : Ren) (σ : Nat → Nat) : ∀ c, ρ.valA (rnA σ c) = (ρ.comp σ).valA c
  | ⟨l⟩ => by rw [rnA, Ren.valA, Ren.valA, comp_valL ρ σ l]
theorem comp_valL (ρ : Ren) (σ : Nat → Nat) : ∀ l, ρ.valL (rnL σ l) = (ρ.comp σ).valL l
  | [] => rfl
  | v :: r => by rw [rnL, Ren.valL, Ren.valL, comp_val ρ σ v, comp_valL ρ σ r]
end

mutual
theorem rnV_low {σ : Nat → Nat} {N : Nat} (h : ∀ n, n < N → σ n = n) : ∀ v, scb N v = true → rnV σ v = v
  | .bool _, _ => by rw [rnV]
  | .int _ _, _ => by rw [rnV]
  | .float _ _, _ => by rw [rnV]
  | .complex _ _ _, _ => by rw [rnV]
  | .string _, _ => by rw [rnV]
  | .pointer none, _ => by rw [rnV]
  | .pointer (some a), hs => by
    have h' := blt_lt (by simpa [scb] using hs)
    simp only [rnV, h _ h']
  | .slice none _ _, _ => by rw [rnV]
  | .slice (some a) _ _, hs => by
    have h' := blt_lt (by simpa [scb] using hs)
    simp only [rnV, h _ h']
  | .map none, _ => by rw [rnV]
  | .map (some r), hs => by
    have h' := blt_lt (by simpa [scb] using hs)
    simp only [rnV, h _ h']
  | .chan none, _ => by rw [rnV]
  | .chan (some k), hs => by
    have h' := blt_lt (by simpa [scb] using hs)
    simp only [rnV, h _ h']
  | .func f a b, hs => by
    cases f with
    | yield l =>
      simp only [scb, Bool.and_eq_true] at hs
      simp only [rnV, rnF, h _ (blt_lt hs.1.1), rnA_low h a hs.1.2, rnA_low h b hs.2]
    | _ =>
      simp only [scb, Bool.and_eq_true] at hs
      simp only [rnV, rnF, rnA_low h a hs.1, rnA_low h b hs.2]
  | .nilFunc, _ => by rw [rnV]
  | .iface t v, hs => by rw [rnV, rnV_low h v (by simpa [scb] using hs)]
  | .nilIface, _ => by rw [rnV]
  | .agg cs, hs => by rw [rnV, rnA_low h cs (by simpa [scb] using hs)]
  | .tuple cs, hs => by rw [rnV, rnA_low h cs (by simpa [scb] using hs)]
theorem rnA_low {σ : Nat → Nat} {N : Nat} (h : ∀ n, n < N → σ n = n) : ∀ c, scbA N c = true → rnA σ c = c
  | ⟨l⟩, hs => by rw [rnA, rnL_low h l (by simpa [scbA] using hs)]
theorem rnL_low {σ : Nat → Nat} {N : Nat} (h : ∀ n, n < N → σ n = n) : ∀ l, scbL N l = true → rnL σ l = l
  | [], _ => rfl
  | v :: r, hs => by
    simp only [scbL, Bool.and_eq_true] at hs
    rw [rnL, rnV_low h v hs.1, rnL_low h r hs.2]
end

def CellsRn (σ : Nat → Nat) (o1 o2 : AObj) : Prop :=
  (∃ c e k z c' z', o1.obj = .cells c e (k, z) ∧ o2.obj = .cells c' e (k, z')) ∧ o1.opn = o2.opn ∧ o1.rv.n = o2.rv.n ∧ ∀ i, i < o2.rv.n → o1.rv.get i = rnV σ (o2.rv.get i)

theorem fits_rn {P : Program} {ρ : Ren} {σ : Nat → Nat} {n : Nat} {o1 o2 : AObj} {o' : Obj} (h : Fits P ρ (σ n) o1 o') (hc : CellsRn σ o1 o2) : Fits P (ρ.comp σ) n o2 o' := by
  obtain ⟨⟨c, e, k, z, c', z', h1, h2⟩, h3, h4, h5⟩ := hc
  unfold Fits at h ⊢
  rw [h1] at h
  rw [h2]
  obtain ⟨d, fz, hd, hv, ha, hb⟩ := h
  refine ⟨d, fz, hd, fun i hi => ?_, ?_, ?_⟩
  · have := hv i (by omega)
    rw [h5 i hi, comp_val] at this
    exact this
  · rw [h3, h4] at ha
    exact ha
  · rw [h3, h4] at hb
    exact hb

theorem frz_rn {σ : Nat → Nat} {o1 o2 : AObj} (hc : CellsRn σ o1 o2) : frz o2 = frz o1 := by
  obtain ⟨⟨c, e, k, z, c', z', h1, h2⟩, h3, _⟩ := hc
  obtain ⟨a, b, d⟩ := o1
  obtain ⟨a', b', d'⟩ := o2
  simp only at h1 h2 h3
  subst h1 h2 h3
  cases k <;> cases b <;> rfl

section
variable {P : Program} {H H1 H2 : AHeap} {f : FuncId} {args : List Value}

structure Rn (σ : Nat → Nat) (H H1 H2 : AHeap) : Prop where
  low : ∀ n, n < H.next → σ n = n
  next : H.next ≤ H2.next
  base : H2.base = H.base
  dirty : ∀ n, n ∈ H.dirty → n ∈ H2.dirty
  dirt1 : ∀ n, n ∈ H1.dirty → n ∈ H2.dirty
  get : ∀ n o2, H2.get n = some o2 → (n < H.next ∧ H.get n = some o2 ∧ H1.get n = some o2) ∨
    (n < H2.next ∧ sco H2.next o2 ∧ (n < H.base → n ∈ H2.dirty) ∧ (n < H.next → H.get n ≠ none) ∧ (H.next ≤ n → H.next ≤ σ n) ∧ ∃ o1, H1.get (σ n) = some o1 ∧ CellsRn σ o1 o2)
  keep : ∀ n, n < H.base → H2.get n = none → H.get n = none ∨ n ∈ H2.dirty
  inj : ∀ m n, H2.get m ≠ none → H2.get n ≠ none → σ m = σ n → m = n
  ro : ∀ n, Fz (H.get n) → (n ∈ H2.dirty → n ∈ H.dirty ∨ n ∈ H1.dirty) ∧ (H1.get n = H.get n → H2.get n = H.get n)

theorem sco_mono {N M : Nat} (h : N ≤ M) {o : AObj} (hs : sco N o) : sco M o := by
  unfold sco at *
  split at hs
  · exact fun i hi => scb_mono h _ (hs i hi)
  · exact fun e he => ⟨(hs e he).1, scb_mono h _ (hs e he).2⟩
  · exact ⟨by omega, fun i hi => scb_mono h _ (hs.2 i hi)⟩
  · trivial

theorem Rel.wf {ρ : Ren} {w : World} (r : Rel P ρ H w) : WF P H := ⟨r.base, r.glob.1, r.dom⟩

theorem Rn.st {σ : Nat → Nat} {ρ ρ1 : Ren} {w w1 : World} (c : Rn σ H H1 H2) (r : Rel P ρ H w) (s : St P ρ H w ρ1 H1 w1) : St P ρ H w (ρ1.comp σ) H2 w1 := by
  have ext1 : Ext H.next ρ1 (ρ1.comp σ) := ⟨fun n hn => by simp only [Ren.comp, c.low n hn], fun n hn => by simp only [Ren.comp, c.low n hn], fun n hn => by simp only [Ren.comp, c.low n hn], fun n hn => by simp only [Ren.comp, c.low n hn]⟩
  have g1 : ∀ n, H2.get n ≠ none → H1.get (σ n) ≠ none := by
    intro n hn
    cases h2 : H2.get n with
    | none => exact absurd h2 hn
    | some o2 =>
      rcases c.get n o2 h2 with ⟨hlt, _, h1⟩ | ⟨_, _, _, _, _, o1, h1, _⟩
      · rw [c.low n hlt, h1]; simp
      · rw [h1]; simp
  refine ⟨s.ext.trans ext1 (Nat.le_refl _), ⟨c.next, c.base, c.dirty, fun n hb hd => ?_, fun n hn hg => ?_⟩, ⟨?_, ?_, ?_, ?_, ?_⟩, s.os, s.tape, s.output, s.size, ?_, ?_, fun n hz => ?_⟩
  · cases h2 : H2.get n with
    | none =>
      rcases c.keep n hb h2 with h | h
      · rw [h]
      · exact absurd h hd
    | some o2 =>
      rcases c.get n o2 h2 with ⟨_, h, _⟩ | ⟨_, _, h, _⟩
      · rw [h]
      · exact absurd (h hb) hd
  · cases h2 : H2.get n with
    | none => rfl
    | some o2 =>
      rcases c.get n o2 h2 with ⟨_, h, _⟩ | ⟨_, _, _, h, _⟩
      · rw [hg] at h; cases h
      · exact absurd hg (h hn)
  · have := r.base; have := c.next; rw [c.base]; omega
  · refine ⟨Nat.le_trans r.glob.1 c.next, fun g hg => ?_⟩
    have hlt : g < H.next := Nat.lt_of_lt_of_le hg r.glob.1
    have := s.rel.glob.2 g hg
    simp only [Ren.comp, c.low g hlt]
    exact this
  · intro m n hm hn he
    have back : ∀ m, H2.get m ≠ none → Fz (H1.get (σ m)) → Fz (H2.get m) := fun m hm hz => by
      cases h2 : H2.get m with
      | none => exact absurd h2 hm
      | some o2 =>
        obtain ⟨o, ho, hf⟩ := hz
        rcases c.get m o2 h2 with ⟨hlt, _, h1⟩ | ⟨_, _, _, _, _, o1, h1, hc⟩
        · rw [c.low m hlt, h1] at ho
          cases ho
          exact ⟨_, rfl, hf⟩
        · rw [h1] at ho
          cases ho
          exact ⟨_, rfl, (frz_rn hc).trans hf⟩
    exact (s.rel.inj _ _ (g1 m hm) (g1 n hn) he).imp (c.inj m n hm hn) fun ⟨a, b⟩ => ⟨back m hm a, back n hn b⟩
  · intro n o2 h2
    rcases c.get n o2 h2 with ⟨hlt, h, _⟩ | ⟨h1, h2', _⟩
    · exact ⟨Nat.lt_of_lt_of_le hlt c.next, sco_mono c.next (r.dom n o2 h).2⟩
    · exact ⟨h1, h2'⟩
  · intro n o2 h2
    rcases c.get n o2 h2 with ⟨hlt, h, h1⟩ | ⟨_, _, _, _, _, o1, h1, hc⟩
    · obtain ⟨o', ho, hf⟩ := s.rel.obj n o2 h1
      exact ⟨o', by simp only [Ren.comp, c.low n hlt]; exact ho, hf.ext hlt (r.dom n o2 h).2 ext1⟩
    · obtain ⟨o', ho, hf⟩ := s.rel.obj (σ n) o1 h1
      exact ⟨o', ho, fits_rn hf hc⟩
  · intro b hb hh
    exact s.old b hb fun n hn hd hg => hh n hn (hd.imp id (c.dirt1 n)) hg
  · intro n hn hg
    have hσ : H.next ≤ σ n := by
      cases h2 : H2.get n with
      | none => exact absurd h2 hg
      | some o2 =>
        rcases c.get n o2 h2 with ⟨hlt, _⟩ | ⟨_, _, _, _, h, _⟩
        · omega
        · exact h hn
    rcases s.fresh (σ n) hσ (g1 n hg) with h | ⟨m, h1, h2, h3, h4⟩
    · exact .inl h
    · exact .inr ⟨m, h1, h2, h3.imp id (c.dirt1 m), h4⟩
  · obtain ⟨a, b⟩ := c.ro n hz
    obtain ⟨a', b'⟩ := s.ro n hz
    exact ⟨fun h => (a h).elim id a', b b'⟩

theorem CallS.rn {σ : Nat → Nat} {v : Value} (h : CallS P f args H (.ok (rnV σ v)) H1) (c : WF P H → Rn σ H H1 H2) (hv : scb H2.next v = true) : CallS P f args H (.ok v) H2 := by
  intro ρ w r hsc F n R hF hR
  refine h ρ w r hsc F n R hF fun ρ1 w1 s _ => ?_
  have := hR (ρ1.comp σ) w1 ((c r.wf).st r s) hv
  rw [comp_val]
  exact this

theorem Rn.drop {L : List Bl} (w : WF P H) : Rn id H (ext H L) H where
  low := fun _ _ => rfl
  next := Nat.le_refl _
  base := rfl
  dirty := fun _ h => h
  dirt1 := fun n h => by rw [ext_dirty] at h; exact h
  get := fun n o2 h => .inl ⟨(w.dom n o2 h).1, h, by rw [ext_get_old (w.dom n o2 h).1, h]⟩
  keep := fun n _ h => .inl h
  inj := fun m n _ _ h => h
  ro := fun n _ => ⟨.inl, fun _ => rfl⟩

theorem rnV_id {N : Nat} {v : Value} (h : scb N v = true) : rnV id v = v := rnV_low (fun _ _ => rfl) v h

theorem CallS.drop {L : List Bl} {v : Value} (h : CallS P f args H (.ok v) (ext H L)) (hv : scb H.next v = true) : CallS P f args H (.ok v) H := by
  refine CallS.rn (σ := id) (H1 := ext H L) ?_ Rn.drop hv
  rw [rnV_id hv]; exact h

def kp (N : Nat) (ks : List Nat) (n : Nat) : Nat := if n < N then n else N + ks.getD (n - N) 0

theorem Rn.kept {L L2 : List Bl} {ks : List Nat} (w : WF P H) (hlen : ks.length = L2.length) (hnd : ks.Nodup)
    (hk : ∀ i b2, L2[i]? = some b2 → ∃ b1, L[ks.getD i 0]? = some b1 ∧ b1.e = b2.e ∧ b1.o = b2.o ∧ b1.l = b2.l.map (rnV (kp H.next ks))) (hs : ∀ b2 ∈ L2, scbL (H.next + L2.length) b2.l = true) : Rn (kp H.next ks) H (ext H L) (ext H L2) := by
  have hnew : ∀ n o2, H.next ≤ n → (ext H L2).get n = some o2 → ∃ i b2, n = H.next + i ∧ L2[i]? = some b2 ∧ o2 = b2.obj := by
    intro n o2 hn h
    obtain ⟨i, rfl⟩ : ∃ i, n = H.next + i := ⟨n - H.next, by omega⟩
    by_cases hi : i < L2.length
    · rw [ext_get_new hi, List.getElem?_eq_getElem hi] at h
      simp only [Option.map_some, Option.some.injEq] at h
      exact ⟨i, L2[i], rfl, List.getElem?_eq_getElem hi, h.symm⟩
    · rw [ext_get_far (by omega)] at h
      have := (w.dom _ _ h).1
      omega
  have hkp : ∀ i, kp H.next ks (H.next + i) = H.next + ks.getD i 0 := by
    intro i
    unfold kp
    rw [if_neg (by omega), Nat.add_sub_cancel_left]
  refine ⟨fun n hn => by unfold kp; rw [if_pos hn], by rw [ext_next]; omega, by rw [ext_base], fun n h => by rw [ext_dirty]; exact h, fun n h => by rw [ext_dirty] at h ⊢; exact h, ?_, ?_, ?_, fun n hz => ⟨fun h => .inl (by rw [ext_dirty] at h; exact h), fun _ => ext_get_old (by
    obtain ⟨o, ho, _⟩ := hz
    exact (w.dom n o ho).1)⟩⟩
  · intro n o2 h
    rcases Nat.lt_or_ge n H.next with hn | hn
    · rw [ext_get_old hn] at h
      exact .inl ⟨hn, h, by rw [ext_get_old hn, h]⟩
    · obtain ⟨i, b2, rfl, hb2, rfl⟩ := hnew n o2 hn h
      have hi : i < L2.length := by
        rcases Nat.lt_or_ge i L2.length with h | h
        · exact h
        · rw [List.getElem?_eq_none h] at hb2; cases hb2
      obtain ⟨b1, h1, h2, h3, h4⟩ := hk i b2 hb2
      have hlt : ks.getD i 0 < L.length := by
        rcases Nat.lt_or_ge (ks.getD i 0) L.length with h | h
        · exact h
        · rw [List.getElem?_eq_none h] at h1; cases h1
      refine .inr ⟨by rw [ext_next]; omega, ?_, fun hb => absurd w.base (by omega), fun h => absurd h (by omega), fun _ => by rw [hkp]; omega, b1.obj, ?_, ?_⟩
      · simp only [Bl.obj, sco, RV.n_ofList]
        intro j hj
        rw [RV.get_ofList, ext_next]
        have := hs b2 (List.mem_of_getElem? hb2)
        have hall : ∀ (l : List Value), scbL (H.next + L2.length) l = true → ∀ j, j < l.length → scb (H.next + L2.length) (l.getD j undef) = true := by
          intro l
          induction l with
          | nil => intro _ j hj; simp at hj
          | cons x r ih =>
            intro hl j hj
            simp only [scbL, Bool.and_eq_true] at hl
            cases j with
            | zero => simpa using hl.1
            | succ j =>
              have := ih hl.2 j (by simpa using hj)
              simpa using this
        exact hall _ this j hj
      · rw [hkp, ext_get_new hlt, h1]; rfl
      · refine ⟨⟨#[], b1.e, 0, 0, #[], 0, rfl, by rw [h2]; rfl⟩, h3, ?_, ?_⟩
        · simp only [Bl.obj, RV.n_ofList, h4, List.length_map]
        · intro j hj
          simp only [Bl.obj, RV.n_ofList] at hj
          simp only [Bl.obj, RV.get_ofList, h4, List.getD, List.getElem?_map, List.getElem?_eq_getElem hj, Option.map_some, Option.getD_some]
  · intro n hb h
    have hn : n < H.next := Nat.lt_of_lt_of_le hb w.base
    rw [ext_get_old hn] at h
    exact .inl h
  · have cls : ∀ n, (ext H L2).get n ≠ none → n < H.next ∨ ∃ i, n = H.next + i ∧ i < L2.length := by
      intro n hn
      rcases Nat.lt_or_ge n H.next with h | h
      · exact .inl h
      · cases hg : (ext H L2).get n with
        | none => exact absurd hg hn
        | some o2 =>
          obtain ⟨i, b2, rfl, hb2, _⟩ := hnew n o2 h hg
          refine .inr ⟨i, rfl, ?_⟩
          rcases Nat.lt_or_ge i L2.length with h | h
          · exact h
          · rw [List.getElem?_eq_none h] at hb2; cases hb2
    intro m n hm hn he
    rcases cls m hm with h1 | ⟨i, rfl, hi⟩ <;> rcases cls n hn with h2 | ⟨j, rfl, hj⟩
    · unfold kp at he; rw [if_pos h1, if_pos h2] at he; exact he
    · rw [hkp] at he; unfold kp at he; rw [if_pos h1] at he; omega
    · rw [hkp] at he; unfold kp at he; rw [if_pos h2] at he; omega
    · rw [hkp, hkp] at he
      have hij : ks.getD i 0 = ks.getD j 0 := by omega
      simp only [List.getD, List.getElem?_eq_getElem (show i < ks.length by omega), List.getElem?_eq_getElem (show j < ks.length by omega), Option.getD_some] at hij
      have hp := List.pairwise_iff_getElem.1 hnd
      rcases Nat.lt_trichotomy i j with h | h | h
      · exact absurd hij (hp i j (by omega) (by omega) h)
      · rw [h]
      · exact absurd hij.symm (hp j i (by omega) (by omega) h)

theorem CallS.keep {L L2 : List Bl} (ks : List Nat) {v : Value} (h : CallS P f args H (.ok (rnV (kp H.next ks) v)) (ext H L)) (hlen : ks.length = L2.length) (hnd : ks.Nodup)
    (hk : ∀ i b2, L2[i]? = some b2 → ∃ b1, L[ks.getD i 0]? = some b1 ∧ b1.e = b2.e ∧ b1.o = b2.o ∧ b1.l = b2.l.map (rnV (kp H.next ks))) (hs : ∀ b2 ∈ L2, scbL (H.next + L2.length) b2.l = true) (hv : scb (H.next + L2.length) v = true) :
    CallS P f args H (.ok v) (ext H L2) :=
  CallS.rn h (fun w => Rn.kept w hlen hnd hk hs) (by rw [ext_next]; exact hv)

theorem CallS.keep1 {L : List Bl} {k : Nat} {b : Bl} {v v1 : Value} (h : CallS P f args H (.ok v1) (ext H L)) (hv1 : v1 = rnV (kp H.next [k]) v) (hk : L[k]? = some b) (hs : scbL H.next b.l = true) (hv : scb (H.next + 1) v = true) :
    CallS P f args H (.ok v) (ext H [b]) := by
  subst hv1
  refine CallS.keep [k] h rfl (by simp) (fun i b2 hi => ?_) (fun b2 hb => ?_) hv
  · match i, hi with
    | 0, hi =>
      simp only [List.getElem?_cons_zero, Option.some.injEq] at hi
      subst hi
      refine ⟨b, by simpa using hk, rfl, rfl, ?_⟩
      rw [← rnL_eq, rnL_low (N := H.next) (fun n hn => by unfold kp; rw [if_pos hn]) _ hs]
    | i + 1, hi => simp at hi
  · simp only [List.mem_singleton] at hb
    subst hb
    exact scbL_mono (by simp) _ hs

def Fin (P : Program) (f : FuncId) (args : List Value) (H : AHeap) (v : Value) (H2 : AHeap) : Out → AHeap → Prop := fun out H1 => CallS P f args H out H1 → CallS P f args H (.ok v) H2

theorem Fin.same {v : Value} : Fin P f args H v H2 (.ok v) H2 := fun h => h
theorem Fin.pure {L : List Bl} {v : Value} (hv : scb H.next v = true) : Fin P f args H v H (.ok v) (ext H L) := fun h => h.drop hv
theorem Fin.pureE {L : List Bl} {v v1 : Value} (he : v1 = v) (hv : scb H.next v = true) : Fin P f args H v H (.ok v1) (ext H L) := by rw [he]; exact Fin.pure hv
theorem Fin.one {L : List Bl} {b : Bl} {v v1 : Value} (k : Nat) (hv1 : v1 = rnV (kp H.next [k]) v) (hk : L[k]? = some b) (hs : scbL H.next b.l = true) (hv : scb (H.next + 1) v = true) : Fin P f args H v (ext H [b]) (.ok v1) (ext H L) := fun h => h.keep1 hv1 hk hs hv

theorem callS_fn (hmix : P.follows .mixedOrders = true) {fn : Func} {c : Code} {N : Nat} {v : Value} (hfn : P.funcs[f]? = some fn) (hc : fn.body = some c) (hN : fn.ntmps = N) (hle : args.length ≤ N)
    (h : WF P H → scbL H.next args = true → wpA P none c (endA P fn (Fin P f args H v H2)) (mkA N (entryE env0 0 args) []) (ext H [])) : CallS P f args H (.ok v) H2 := by
  intro ρ w r hsc
  obtain ⟨out, H1, h1, h2⟩ := callA_fn hmix hfn hc hN hle (h r.wf hsc)
  exact h2 h1 ρ w r hsc

theorem callE_fn (hmix : P.follows .mixedOrders = true) {fn : Func} {c : Code} {N : Nat} {R : Out → AHeap → Prop} (hfn : P.funcs[f]? = some fn) (hc : fn.body = some c) (hN : fn.ntmps = N) (hle : args.length ≤ N)
    (h : wpA P none c (endA P fn R) (mkA N (entryE env0 0 args) []) (ext H [])) : CallA P f args H R := callA_fn hmix hfn hc hN hle h

theorem CallS.to {v : Value} {R : Out → AHeap → Prop} (h : CallS P f args H (.ok v) H1) (k : R (.ok v) H1) : CallA P f args H R := ⟨_, _, h, k⟩

end
end Go.Ax
