/- The abstract executor is sound: what it comes to, the model comes to, whatever the tape. -/
import Derived.Test.YtghlibiicooenaaGreatDoorAxR
import Derived.LoopNIn
import Derived.Scope
namespace Go.Ax
section
variable {P : Program} {ops : Array Oper} {D : Nat → OpD} {A : Nat → AAct} {HH : Nat → AHeap} {ρ0 : Ren} {w0 : World}

def listedX (l : Array Bool) (j : Nat) : Bool := l.getD j false

def left (m : Nat) (X : Nat → Bool) : Nat := ((List.range m).filter fun i => !X i).length

theorem mem_ready' {listed : Array Bool} {i : Nat} (hsz : listed.size = ops.size) (h : i ∈ Region.ready .any ops listed) : i < ops.size ∧ listedX listed i = false ∧ ∃ o, ops[i]? = some o ∧ ∀ e ∈ o.after, Region.binds .any e = true → listedX listed e.on = true := by
  obtain ⟨h1, o, h2, h3⟩ := mem_ready.1 h
  have hlt : i < ops.size := by
    rcases Nat.lt_or_ge i ops.size with h | h
    · exact h
    · simp [Array.getElem?_eq_none h] at h2
  refine ⟨hlt, ?_, o, h2, fun e he hb => h3 e he hb⟩
  have hl : i < listed.size := by omega
  simp only [listedX, Array.getD_eq_getD_getElem?, Array.getElem?_eq_getElem hl, Option.getD_some] at h1 ⊢
  exact h1

theorem ready_of {listed : Array Bool} {i : Nat} {o : Oper} (hsz : listed.size = ops.size) (hi : i < ops.size) (h1 : listedX listed i = false) (ho : ops[i]? = some o) (he : ∀ e ∈ o.after, Region.binds .any e = true → listedX listed e.on = true) : i ∈ Region.ready .any ops listed := by
  refine mem_ready.2 ⟨?_, o, ho, fun e h hb => he e h hb⟩
  have hl : i < listed.size := by omega
  simp only [listedX, Array.getD_eq_getD_getElem?, Array.getElem?_eq_getElem hl, Option.getD_some] at h1 ⊢
  exact h1

/-- nothing may come up: all has run -/
theorem all_run (T : Txt P ops D A HH ρ0 w0) {listed : Array Bool} (hsz : listed.size = ops.size) (h : Region.ready .any ops listed = []) : ∀ i, i < ops.size → listedX listed i = true := by
  intro i
  induction i using Nat.strongRecOn with
  | _ i ih =>
    intro hi
    cases hX : listedX listed i with
    | true => rfl
    | false =>
      obtain ⟨o, ho⟩ : ∃ o, ops[i]? = some o := ⟨ops[i], by simp [hi]⟩
      have : i ∈ Region.ready .any ops listed := ready_of hsz hi hX ho (fun e he hb => by
        have hlt := (T.stat i o ho).2 e he hb
        exact ih e.on hlt (by omega))
      rw [h] at this; cases this

theorem inv_end (T : Txt P ops D A HH ρ0 w0) {X : Nat → Bool} (hX : ∀ i, i < ops.size → X i = true) {ρ : Ren} {w : World} (I : Inv P ops D A HH ρ0 w0 X ρ w) :
    St P ρ0 (HH 0) w0 ρ (HH ops.size) w ∧ ρ.act (ax ops D (A 0) X ops.size) = ρ.act (A ops.size) := by
  have hh : ∀ n, hx D HH X ops.size n = (HH ops.size).get n := fun n => by
    rw [hx_congr (Y := fun _ => true) ops.size (fun j hj _ => hX j hj), T.hx_all ops.size (Nat.le_refl _)]
  obtain ⟨ρm, wm, hst, hsa⟩ := T.ex ops.size (Nat.le_refl _)
  refine ⟨⟨I.ext, hst.le, ⟨hst.rel.base, ⟨hst.rel.glob.1, I.glob⟩, fun a b ha hb => I.inj a b (by rw [hh]; exact ha) (by rw [hh]; exact hb), hst.rel.dom, fun n o ho => I.obj n o (by rw [hh]; exact ho)⟩, I.os, I.tape, I.output, I.size,
    fun b hb hc => I.old b hb hc, fun n hn hg => ?_⟩, ?_⟩
  · rcases I.fresh n hn (by rw [hh]; exact hg) with h | ⟨k, h1, h2, h3, h4⟩
    · exact .inl h
    · exact .inr ⟨k, h1, h2, h3, h4⟩
  · obtain ⟨q1, q2⟩ := ax_n (ops := ops) (D := D) (a := A 0) (X := X) ops.size
    obtain ⟨e1, e2⟩ := T.env_n (k := ops.size) (Nat.le_refl _)
    refine act_same _ _ (by rw [q1, e1]) (by rw [q2, e2]) (fun t ht => ?_)
    rw [e1] at ht
    rw [ax_congr (Y := fun _ => true) ht ops.size (fun j hj _ => hX j hj), T.ax_all ops.size (Nat.le_refl _)]

theorem inv_start (T : Txt P ops D A HH ρ0 w0) {X : Nat → Bool} (hX : ∀ i, X i = false) {w : World} (h1 : w.heap = w0.heap) (h2 : w.os = w0.os) (h3 : w.tape = w0.tape) (h4 : w.output = w0.output) :
    Inv P ops D A HH ρ0 w0 X ρ0 w ∧ ax ops D (A 0) X ops.size = A 0 := by
  have hh : ∀ k n, hx D HH X k n = (HH 0).get n := fun k n => by
    induction k with
    | zero => rfl
    | succ k ih => rw [hx, if_neg (fun h => by rw [hX] at h; cases h.1), ih]
  have ha : ∀ k, ax ops D (A 0) X k = A 0 := fun k => by
    induction k with
    | zero => rfl
    | succ k ih => rw [ax, if_neg (by rw [hX]; simp), ih]
  refine ⟨⟨T.rel.glob.2, fun a b ha' hb => T.rel.inj a b (by rw [← hh ops.size]; exact ha') (by rw [← hh ops.size]; exact hb), fun n o ho => ?_, fun n o ho => by rw [h1]; exact T.rel.obj n o (by rw [← hh ops.size]; exact ho), fun t ht k hk => ?_, Ext.refl _ _, h2, h3, h4,
    by rw [h1]; exact Nat.le_refl _, fun b _ _ => by rw [h1], fun n hn hne => ?_, fun n _ h0 => by rw [hh]; exact h0⟩, ha ops.size⟩
  · have := T.rel.dom n o (by rw [← hh ops.size]; exact ho)
    exact ⟨.inl this.1, fun k hk => .inl (ids_of_sco this.2 k hk)⟩
  · rw [ha] at hk
    exact .inl (ids_of_scb _ (T.sc.1 t ht) k hk)
  · rw [hh] at hne
    exact absurd (T.rel.lt hne) (by omega)

theorem set_X {listed : Array Bool} {i : Nat} (hi : i < listed.size) (j : Nat) : listedX (listed.setIfInBounds i true) j = if j = i then true else listedX listed j := by
  unfold listedX
  rw [Array.getD_eq_getD_getElem?, Array.getD_eq_getD_getElem?, Array.getElem?_setIfInBounds]
  by_cases e : i = j
  · subst e; simp [hi]
  · rw [if_neg e, if_neg (fun h => e h.symm)]

theorem any_run (T : Txt P ops D A HH ρ0 w0) {F : Fence} {n : Nat} (hF : WideF F) {Q : Exit → Act → World → Prop}
    (hQ : ∀ ρ1 w1, St P ρ0 (HH 0) w0 ρ1 (HH ops.size) w1 → Q .normal (ρ1.act (A ops.size)) w1) :
    ∀ (fuel : Nat) (listed : Array Bool) (ρ : Ren) (w : World), listed.size = ops.size → left ops.size (listedX listed) ≤ fuel → Closed ops (listedX listed) → Inv P ops D A HH ρ0 w0 (listedX listed) ρ w →
      wpAnyIn F n P .any ops Q fuel listed (ρ.act (ax ops D (A 0) (listedX listed) ops.size)) w := by
  have hend : ∀ (listed : Array Bool) (ρ : Ren) (w : World), listed.size = ops.size → Inv P ops D A HH ρ0 w0 (listedX listed) ρ w → Region.ready .any ops listed = [] → Q .normal (ρ.act (ax ops D (A 0) (listedX listed) ops.size)) w := by
    intro listed ρ w hsz I hr
    obtain ⟨h1, h2⟩ := inv_end T (all_run T hsz hr) I
    rw [h2]; exact hQ ρ w h1
  intro fuel
  induction fuel with
  | zero =>
    intro listed ρ w hsz hl hc I
    have hr : Region.ready .any ops listed = [] := by
      cases e : Region.ready .any ops listed with
      | nil => rfl
      | cons i l =>
        obtain ⟨hi, hX, _⟩ := mem_ready' hsz (i := i) (by rw [e]; exact List.mem_cons_self ..)
        have : i ∈ (List.range ops.size).filter fun i => !listedX listed i := List.mem_filter.2 ⟨List.mem_range.2 hi, by rw [hX]; rfl⟩
        have h0 : (List.range ops.size).filter (fun i => !listedX listed i) = [] := List.eq_nil_of_length_eq_zero (by unfold left at hl; omega)
        rw [h0] at this; cases this
    exact ⟨hr, hend listed ρ w hsz I hr⟩
  | succ fuel ih =>
    intro listed ρ w hsz hl hc I
    refine ⟨fun hr => hend listed ρ w hsz I hr, fun i hi => ?_⟩
    obtain ⟨hlt, hX, o, ho, hedge⟩ := mem_ready' hsz hi
    have hset := set_X (listed := listed) (i := i) (by omega)
    have r : Ready ops (listedX listed) (listedX (listed.setIfInBounds i true)) i o :=
      ⟨hlt, ho, hX, by rw [hset]; simp, fun j hj => by rw [hset, if_neg hj], hedge, hc⟩
    have hsz' : (listed.setIfInBounds i true).size = ops.size := by simp [hsz]
    have hl' : left ops.size (listedX (listed.setIfInBounds i true)) ≤ fuel := by
      have := filt_lt (fun j => !listedX listed j) (fun j => !listedX (listed.setIfInBounds i true) j) (List.range ops.size) (fun j _ h => by
        simp only [Bool.not_eq_true'] at h ⊢
        cases e : listedX listed j with
        | false => rfl
        | true => have := r.up j e; rw [h] at this; cases this) i (List.mem_range.2 hlt) (by simp [hX]) (by simp [r.now])
      unfold left at hl ⊢
      omega
    have hc' : Closed ops (listedX (listed.setIfInBounds i true)) := by
      intro j oj hoj hXj e he hb
      by_cases hji : j = i
      · subst hji
        rw [ho] at hoj
        cases hoj
        exact r.up _ (hedge e he hb)
      · rw [r.rest j hji] at hXj
        exact r.up _ (hc j oj hoj hXj e he hb)
    unfold wpOpIn
    simp only [ho]
    rw [r.want T ρ]
    cases hon : (D i).on with
    | false =>
      simp only [Bool.false_eq_true, if_false]
      obtain ⟨I', ha⟩ := r.off T hon I
      exact ⟨fun f _ => hF.fn f, by rw [ha]; exact ih _ ρ w hsz' hl' hc' I'⟩
    | true =>
      simp only [if_true]
      obtain ⟨o', f1, f2, f3, f4, f5⟩ := T.fact i hlt
      rw [ho] at f1
      cases f1
      obtain ⟨_, _, _, hsa⟩ := T.ex i (by omega)
      refine (f4 hon).1 _ _ (r.rel T hon I) (by rw [(restrict_next _ _).1]; exact hsa) _ (r.evals T ρ) _ _ _ _ hF ?_
      intro ρ1 w1 s _
      obtain ⟨I', ha⟩ := r.on T hon I s
      rw [ha]
      exact ih _ _ w1 hsz' hl' hc' I'

end

section
variable {P : Program} {ρ : Ren} {H : AHeap} {w : World}

theorem runDraw_run {rec : Rec} (hmix : P.follows .mixedOrders = true) (hrec : Sound P rec) {ops : Array Oper} {id : Nat} (hst : staticOk ops = true) {a a1 : AAct} {H1 : AHeap} (h : runDraw P rec ops (ancs ops) ops.toList 0 [] a H = some (a1, H1)) (r : Rel P ρ H w) (hs : scA H.next a)
    {F : Fence} {n : Nat} {Q : Exit → Act → World → Prop} (hF : WideF F) (hQ : ∀ ρ1 w1, St P ρ H w ρ1 H1 w1 → scA H1.next a1 → Q .normal (ρ1.act a1) w1) : (Code.region id ops true).wpIn F n P Q (ρ.act a) w := by
  obtain ⟨D, A, HH, e1, e2, e3, e4, f1, f2, _⟩ := runDraw_text hrec ops.toList 0 [] a H a1 H1 (by simp) h
  simp only [Nat.zero_add, Array.length_toList] at e3 e4 f1 f2
  have hfact : ∀ i, i < ops.size → OpFact P ops D A HH i := fun i hi => f1 i (Nat.zero_le _) hi
  have hex := text_ex r (ops := ops) (D := D) (A := A) (HH := HH) (m := ops.size) e2 (by rw [e1]; exact hs) hfact
  have T : Txt P ops D A HH ρ w := by
    refine ⟨by rw [e2]; exact r, by rw [e2, e1]; exact hs, hfact, fun i j hij hj hi => f2 i j (Nat.zero_le _) hij hj hi, fun j oj hoj => static_spec ops.toList 0 (by simp) hst j oj (Nat.zero_le _) hoj, ?_⟩
    rw [e2]; exact hex
  obtain ⟨ρm, wm, hstm, hsa⟩ := hex ops.size (Nat.le_refl _)
  rw [e3, e4] at hsa
  refine wpIn_region_any hmix ?_
  have hX0 : ∀ j, listedX (Array.replicate ops.size false) j = false := fun j => by
    unfold listedX
    rw [Array.getD_eq_getD_getElem?, Array.getElem?_replicate]
    split <;> rfl
  obtain ⟨I, ha⟩ := inv_start (w := { w with drawn := w.drawn + 1 }) T hX0 rfl rfl rfl rfl
  have := any_run T (n := n) hF (Q := Q) (fun ρ1 w1 h1 => by
    rw [e2, e4] at h1
    rw [e3]
    exact hQ ρ1 w1 h1 hsa) ops.size (Array.replicate ops.size false) ρ _ (by simp) (by unfold left; exact Nat.le_trans (List.length_filter_le _ _) (by simp)) (fun j oj _ hX => by rw [hX0] at hX; cases hX) I
  rw [ha, e1] at this
  exact this

theorem rangeG_run {rec : Rec} (hrec : Sound P rec) {ro : Option Nat} {g : Operand} {fv : Value} {ps : Array Tmp} {assign body : Code} {a a1 : AAct} {e : Exit} {H1 : AHeap} (hg : aeval a g = some fv)
    (h : rangeG P rec ro fv ps assign body a H = some (e, a1, H1)) (r : Rel P ρ H w) (hs : scA H.next a) (hro : ∀ l, ro = some l → l < H.next)
    {F : Fence} {n : Nat} {Q : Exit → Act → World → Prop} (hF : WideF F) (hFr : F.round = ro.map ρ.blk) (hQ : ∀ ρ1 w1, St P ρ H w ρ1 H1 w1 → scA H1.next a1 → scX H1.next e → Q (ρ1.exit e) (ρ1.act a1) w1) :
    (Code.rangeFunc g ps assign body).wpIn F n P Q (ρ.act a) w := by
  unfold rangeG at h
  split at h
  · rename_i fn first captured
    simp only [Option.bind_eq_bind, Option.bind_eq_some_iff] at h
    obtain ⟨⟨l, mark, H2⟩, hen, res, hres, h⟩ := h
    simp only at hres h
    split at h
    · rename_i f args
      simp only [Option.bind_eq_some_iff] at h
      obtain ⟨⟨out, H3⟩, hcall, haft⟩ := h
      refine wpIn_rangeFunc (fun fnid _ => ?_)
      obtain ⟨ρ1, w1, s1, hrun, hl, hmk⟩ := enterLoop_run r hro hen fnid
      obtain ⟨ρ2, w2, s2, hinv⟩ := aInvoke_run s1.rel hres
      have hfsc := aeval_sc hs hg
      have hfv : (ρ.act a).eval g = ρ1.val (.func fn first captured) := by rw [aeval_run r hg, val_ext s1.ext _ hfsc]
      have e1 : ρ1.val (.func fn first captured) = .func (ρ1.fn fn) (first.map ρ1.val) (captured.map ρ1.val) := by rw [Ren.val, Ren.valA_eq, Ren.valA_eq]
      have e2 : first.map ρ1.val ++ #[(.func (.yield (ρ1.blk l)) #[] #[] : Value)] = ((first.toList ++ [(.func (.yield l) #[] #[] : Value)]).map ρ1.val).toArray := by
        apply Array.ext'
        simp [Ren.val, Ren.fn, Ren.valA, Ren.valL]
      have e3 : captured.map ρ1.val = (captured.toList.map ρ1.val).toArray := by apply Array.ext'; simp
      simp only [NRun] at hinv
      have hs1 : scA H2.next a := hs.mono s1.le.next
      have hs2 : scA H2.next { a with defers := mark ++ a.defers } := ⟨hs1.1, fun d hd => by
        rcases List.mem_append.1 hd with hd | hd
        · exact hmk d hd
        · exact hs1.2 d hd⟩
      have hsame : ({ ρ.act a with defers := mark.map ρ1.dfr ++ (ρ.act a).defers } : Act) = ρ1.act { a with defers := mark ++ a.defers } := by
        have h1 := act_ext s1.ext hs
        have h2 : (ρ.act a).tmps = ρ1.tmps a.env := by rw [← h1]; rfl
        have h3 : (ρ.act a).defers = a.defers.map ρ1.dfr := by rw [← h1]; rfl
        show (⟨(ρ.act a).tmps, mark.map ρ1.dfr ++ (ρ.act a).defers⟩ : Act) = ⟨ρ1.tmps a.env, (mark ++ a.defers).map ρ1.dfr⟩
        rw [h2, h3, List.map_append]
      refine ⟨ρ1.blk l, mark.map ρ1.dfr, w1, { target := .fn (ρ1.fn fn) (captured.map ρ1.val), args := first.map ρ1.val ++ #[(.func (.yield (ρ1.blk l)) #[] #[] : Value)] }, w1, f, _, w2, ?_, ?_, fun f' _ => hF.fn f', ?_, hF.deep, callF_run hrec s2.rel hcall hF ?_⟩
      · rw [hFr]; exact hrun
      · simp only [resolve, rangeCall, hfv, e1]
        simp [Act.eval, Deferred.ofValue]
      · simp only [e2, e3]; exact hinv
      · intro ρ3 w3 s3
        have hn2 : H2.next ≤ H3.next := (s2.trans s3).le.next
        have hl3 : l < H3.next := by omega
        have hlb : ρ3.blk l = ρ1.blk l := ((s2.trans s3).ext.blk l hl)
        have hs3 : scA H3.next { a with defers := mark ++ a.defers } := hs2.mono hn2
        have hact3 : ρ3.act { a with defers := mark ++ a.defers } = ρ1.act { a with defers := mark ++ a.defers } := act_ext (s2.trans s3).ext hs2
        have stot := (s1.trans s2).trans s3
        cases out with
        | ok v =>
          simp only [afterRange, Option.bind_eq_bind, Option.bind_eq_some_iff] at haft
          obtain ⟨⟨lp, le⟩, hlp, haft⟩ := haft
          simp only at haft
          have hnb : lp.state ≠ .busy := by intro hb; rw [hb] at haft; cases haft
          obtain ⟨fn3, hgl, w4, hset, s4⟩ := setLoop_run s3.rel (lp' := { lp with state := .exhausted }) hlp rfl
          rw [hlb] at hgl hset
          have hn4 : (setLoop H3 l { lp with state := .exhausted } le).next = H3.next := rfl
          have hendl : (Instr.endLoop (ρ1.blk l)).run P w3 = .ok lp.pending w4 := by
            have hb : (lp.state == .busy) = false := by simpa using hnb
            simp only [Instr.endLoop, Sem.run_bind, hgl, Result.andThen_ok, hb, Bool.false_eq_true, if_false]
            rw [show ({ ({ lp with fn := fn3, tmps := ρ3.tmps le, defers := ρ3.blk lp.defers } : Loop) with state := .exhausted } : Loop) =
              { ({ lp with state := .exhausted } : Loop) with fn := fn3, tmps := ρ3.tmps le, defers := ρ3.blk lp.defers } from rfl, hset]
            simp
          refine ⟨lp.pending, w4, hendl, ?_⟩
          rw [hsame, ← hact3]
          have hcase : (match lp.pending with
              | none => some (Exit.normal, ({ a with defers := mark ++ a.defers } : AAct), setLoop H3 l { lp with state := .exhausted } le)
              | some c => rec.run ro c { a with defers := mark ++ a.defers } (setLoop H3 l { lp with state := .exhausted } le)) = some (e, a1, H1) := by
            cases hst : lp.state with
            | busy => exact absurd hst hnb
            | ready => rw [hst] at haft; exact haft
            | done => rw [hst] at haft; exact haft
            | exhausted => rw [hst] at haft; exact haft
          generalize setLoop H3 l { lp with state := .exhausted } le = H4 at s4 hn4 hcase
          split
          · rename_i hp
            rw [hp] at hcase
            simp only [Option.some.injEq, Prod.mk.injEq] at hcase
            obtain ⟨rfl, rfl, rfl⟩ := hcase
            exact hQ ρ3 w4 (stot.trans s4) (hs3.mono (Nat.le_of_eq hn4.symm)) trivial
          · rename_i c hp
            rw [hp] at hcase
            have hro4 : ∀ l0, ro = some l0 → l0 < H4.next := fun l0 h0 => by
              rw [hn4]; exact Nat.lt_of_lt_of_le (hro l0 h0) stot.le.next
            have hFr4 : F.round = ro.map ρ3.blk := by
              rw [hFr]
              cases ro with
              | none => rfl
              | some l0 => simp only [Option.map_some]; rw [stot.ext.blk l0 (hro l0 rfl)]
            refine hrec.run ro c _ _ e a1 H1 hcase ρ3 w4 F n Q hF hFr4 hro4 s4.rel (hs3.mono (Nat.le_of_eq hn4.symm)) ?_
            intro ρ5 w5 s5 h1 h2
            exact hQ ρ5 w5 ((stot.trans s4).trans s5) h1 h2
        | error ch =>
          intro hch
          simp only [afterRange, Option.some.injEq, Prod.mk.injEq] at haft
          obtain ⟨rfl, rfl, rfl⟩ := haft
          show Q (.panic (ch.map ρ3.pe)) _ w3
          rw [hsame, ← hact3]
          exact hQ ρ3 w3 stot hs3 hch
    · cases h
  · cases h

theorem stepR_scope {b : Frame} {a : Act} {k : List Item} {cs : List Frame} {c : Code} : Go.step P (lone (b.atR a (.code (.scope c) :: k)) cs w) = .next (lone (b.atR a (.code c :: .inScope c :: k)) cs w) :=
  step_lone_go (by simp [stepG, stepG.exec, Frame.atR])
theorem stepR_inScope {b : Frame} {a : Act} {k : List Item} {cs : List Frame} {c : Code} : Go.step P (lone (b.atR a (.inScope c :: k)) cs w) = .next (lone (b.atR a k) cs w) :=
  step_lone_go (by simp [stepG, stepG.exec, Frame.atR])

theorem wpIn_scope {F : Fence} {n : Nat} {Q : Exit → Act → World → Prop} {a : Act} {c : Code} (h : c.wpIn F n P (Exit.noGoto Q) a w) : (Code.scope c).wpIn F n P Q a w := by
  intro b k cs hro hb hr
  have h0 : (lone (b.atR a (.code (.scope c) :: k)) cs w).fenced P F := fenced_calm hb hr rfl
  obtain ⟨e, a₁, w₁, hq, harr⟩ := h b (.inScope c :: k) cs hro hb hr
  cases e with
  | normal => exact ⟨.normal, a₁, w₁, hq, .head h0 stepR_scope (StepsIn.trans harr (.one (fenced_calm hb hr rfl) stepR_inScope))⟩
  | exit id =>
    have hx : exitTo id (.inScope c :: k) = exitTo id k := by simp [exitTo]
    exact ⟨.exit id, a₁, w₁, hq, fun k' hk => .head h0 stepR_scope (harr.1 k' (by rw [hx]; exact hk)),
        fun hr' hk => let ⟨k₁, h1, h2⟩ := harr.2 hr' (by rw [hx]; exact hk); ⟨k₁, h1, .head h0 stepR_scope h2⟩⟩
  | goto l => exact hq.elim
  | ret => exact ⟨_, a₁, w₁, hq, .of_steps (.one h0 stepR_scope) harr⟩
  | panic ch => exact ⟨_, a₁, w₁, hq, .of_steps (.one h0 stepR_scope) harr⟩
  | outgrown => exact ⟨_, a₁, w₁, hq, .of_steps (.one h0 stepR_scope) harr⟩

/-- a loop that the executor walks is a loop of so many rounds -/
def LoopSound (P : Program) (rec : Rec) (m : Nat) : Prop :=
  ∀ (ro : Option Nat) (b : Code) (a : AAct) (H : AHeap) (e : Exit) (a1 : AAct) (H1 : AHeap), rec.run ro (.loop b) a H = some (e, a1, H1) →
    ∀ (ρ : Ren) (w : World) (F : Fence) (n : Nat) (Q : Exit → Act → World → Prop), WideF F → F.round = ro.map ρ.blk → (∀ l, ro = some l → l < H.next) → Rel P ρ H w → scA H.next a →
      (∀ ρ1 w1, St P ρ H w ρ1 H1 w1 → scA H1.next a1 → scX H1.next e → Q (ρ1.exit e) (ρ1.act a1) w1) → Code.roundsIn F n P b Q m (ρ.act a) w

theorem loop_sound {rec : Rec} (hrec : Sound P rec) {m : Nat} (hl : LoopSound P rec m) : LoopSound P ⟨fun ro c a H => step c P rec ro a H, rec.know⟩ (m + 1) := by
  intro ro b a H e a1 H1 h ρ w F n Q hF hFr hro r hs hQ
  simp only [step, stLoop] at h
  rw [roundsIn_succ]
  split at h
  · rename_i a2 H2 hx
    refine hrec.run ro b a H .normal a2 H2 hx ρ w F n _ hF hFr hro r hs ?_
    intro ρ1 w1 s1 h1 _
    have hFr1 : F.round = ro.map ρ1.blk := by
      rw [hFr]
      cases ro with
      | none => rfl
      | some l0 => simp only [Option.map_some]; rw [s1.ext.blk l0 (hro l0 rfl)]
    refine hl ro b a2 H2 e a1 H1 h ρ1 w1 F n Q hF hFr1 (fun l hl => Nat.lt_of_lt_of_le (hro l hl) s1.le.next) s1.rel h1 ?_
    intro ρ2 w2 s2 h2 h3
    exact hQ ρ2 w2 (s1.trans s2) h2 h3
  · rename_i hne
    refine hrec.run ro b a H e a1 H1 h ρ w F n _ hF hFr hro r hs ?_
    intro ρ1 w1 s1 h1 h2
    have := hQ ρ1 w1 s1 h1 h2
    cases e with
    | normal => exact absurd h (hne a1 H1)
    | _ => exact this

theorem step_sound (hmix : P.follows .mixedOrders = true) {rec : Rec} (hrec : Sound P rec) {m : Nat} (hl : LoopSound P rec m) : Sound P ⟨fun ro c a H => step c P rec ro a H, rec.know⟩ := by
  refine ⟨?_, hrec.know⟩
  intro ro c a H e a1 H1 h ρ w F n Q hF hFr hro r hs hQ
  simp only at h
  cases c with
  | skip =>
    simp only [step, stEnd, Option.some.injEq, Prod.mk.injEq] at h
    obtain ⟨rfl, rfl, rfl⟩ := h
    exact wpIn_skip (hQ ρ w (St.refl r) hs trivial)
  | label l =>
    simp only [step, stEnd, Option.some.injEq, Prod.mk.injEq] at h
    obtain ⟨rfl, rfl, rfl⟩ := h
    exact wpIn_label (hQ ρ w (St.refl r) hs trivial)
  | exit id =>
    simp only [step, stEnd, Option.some.injEq, Prod.mk.injEq] at h
    obtain ⟨rfl, rfl, rfl⟩ := h
    exact wpIn_exit (hQ ρ w (St.refl r) hs trivial)
  | goto l =>
    simp only [step, stEnd, Option.some.injEq, Prod.mk.injEq] at h
    obtain ⟨rfl, rfl, rfl⟩ := h
    exact wpIn_goto (hQ ρ w (St.refl r) hs trivial)
  | ret =>
    simp only [step, stEnd, Option.some.injEq, Prod.mk.injEq] at h
    obtain ⟨rfl, rfl, rfl⟩ := h
    exact wpIn_ret (hQ ρ w (St.refl r) hs trivial)
  | seq x y =>
    simp only [step, stSeq] at h
    refine wpIn_seq ?_
    split at h
    · rename_i a2 H2 hx
      refine hrec.run ro x a H .normal a2 H2 hx ρ w F n _ hF hFr hro r hs ?_
      intro ρ1 w1 s1 h1 _
      have hFr1 : F.round = ro.map ρ1.blk := by
        rw [hFr]
        cases ro with
        | none => rfl
        | some l0 => simp only [Option.map_some]; rw [s1.ext.blk l0 (hro l0 rfl)]
      refine hrec.run ro y a2 H2 e a1 H1 h ρ1 w1 F n Q hF hFr1 (fun l hl => Nat.lt_of_lt_of_le (hro l hl) s1.le.next) s1.rel h1 ?_
      intro ρ2 w2 s2 h2 h3
      exact hQ ρ2 w2 (s1.trans s2) h2 h3
    · rename_i hne
      refine hrec.run ro x a H e a1 H1 h ρ w F n _ hF hFr hro r hs ?_
      intro ρ1 w1 s1 h1 h2
      have := hQ ρ1 w1 s1 h1 h2
      cases e with
      | normal => exact absurd h (hne a1 H1)
      | _ => exact this
  | cond c x y =>
    simp only [step, stCond] at h
    split at h
    · rename_i hc
      refine wpIn_cond_true (by rw [aeval_run r hc]; simp [Ren.val]) ?_
      exact hrec.run ro x a H e a1 H1 h ρ w F n Q hF hFr hro r hs hQ
    · rename_i hc
      refine wpIn_cond_false (by rw [aeval_run r hc]; simp [Ren.val]) ?_
      exact hrec.run ro y a H e a1 H1 h ρ w F n Q hF hFr hro r hs hQ
    · cases h
  | block id b =>
    simp only [step, stBlock] at h
    refine wpIn_block ?_
    split at h
    · rename_i k a2 H2 hb
      refine hrec.run ro b a H (.exit k) a2 H2 hb ρ w F n _ hF hFr hro r hs ?_
      intro ρ1 w1 s1 h1 _
      simp only [Ren.exit, Exit.inBlock]
      split at h
      · rename_i hk
        simp only [Option.some.injEq, Prod.mk.injEq] at h
        obtain ⟨rfl, rfl, rfl⟩ := h
        rw [if_pos hk]; exact hQ ρ1 w1 s1 h1 trivial
      · rename_i hk
        simp only [Option.some.injEq, Prod.mk.injEq] at h
        obtain ⟨rfl, rfl, rfl⟩ := h
        rw [if_neg hk]; exact hQ ρ1 w1 s1 h1 trivial
    · rename_i hne
      refine hrec.run ro b a H e a1 H1 h ρ w F n _ hF hFr hro r hs ?_
      intro ρ1 w1 s1 h1 h2
      have := hQ ρ1 w1 s1 h1 h2
      cases e with
      | exit k => exact absurd h (hne k a1 H1)
      | _ => exact this
  | loop b =>
    exact wpIn_loop_rounds (m + 1) (loop_sound hrec hl ro b a H e a1 H1 h ρ w F n Q hF hFr hro r hs hQ)
  | region id ops draw =>
    simp only [step, stRegion] at h
    cases draw with
    | true =>
      simp only at h
      split at h
      · rename_i hst
        simp only [Option.map_eq_some_iff, Prod.mk.injEq] at h
        obtain ⟨⟨a2, H2⟩, hrun, rfl, rfl, rfl⟩ := h
        exact runDraw_run hmix hrec hst hrun r hs hF (fun ρ1 w1 s1 h1 => hQ ρ1 w1 s1 h1 trivial)
      · cases h
    | false =>
      simp only at h
      refine wpIn_region ?_
      rw [List.range_eq_range']
      have := runSeq_run hrec (n := n) (Q := Q) hF (fun ht => by rw [hFr]; cases ro with | none => rfl | some l => cases ht) ops.toList 0 ρ H w a e a1 H1 (by simp) h r hs hQ
      simpa using this
  | rangeFunc f ps assign body =>
    simp only [step, stRange, Option.bind_eq_bind, Option.bind_eq_some_iff] at h
    obtain ⟨fv, hfv, h⟩ := h
    exact rangeG_run hrec hfv h r hs hro hF hFr hQ
  | scope b =>
    simp only [step, stScope] at h
    refine wpIn_scope ?_
    split at h
    · cases h
    · rename_i hne
      refine hrec.run ro b a H e a1 H1 h ρ w F n _ hF hFr hro r hs ?_
      intro ρ1 w1 s1 h1 h2
      have := hQ ρ1 w1 s1 h1 h2
      cases e with
      | goto k => exact absurd h (hne k a1 H1)
      | _ => exact this
  | refuse s => simp [step, stNone] at h

def Known (P : Program) (K : FuncId → List Value → Option Value) : Prop :=
  ∀ (f : FuncId) (args : List Value) (v : Value), K f args = some v → (∀ x ∈ args, af x = true) ∧ af v = true ∧
    ∀ (F : Fence) (n : Nat) (w : World), WideF F → CallsIn F n P f args.toArray w (fun e w' => e = .returned v ∧ RowKit.Below w.heap.size w w')

theorem exec_sound (hmix : P.follows .mixedOrders = true) {K : FuncId → List Value → Option Value} (hK : Known P K) : ∀ fuel, Sound P (exec P K fuel) ∧ LoopSound P (exec P K fuel) fuel
  | 0 => ⟨⟨fun ro c a H e a1 H1 h => by simp [exec] at h, hK⟩, fun ro b a H e a1 H1 h => by simp [exec] at h⟩
  | n + 1 => by
    obtain ⟨i1, i2⟩ := exec_sound hmix hK n
    have hk : (exec P K n).know = K := by cases n <;> rfl
    have h1 := step_sound hmix i1 i2
    have h2 := loop_sound i1 i2
    rw [hk] at h1 h2
    exact ⟨h1, h2⟩

end
end Go.Ax
