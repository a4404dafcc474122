/- The abstract executor: a region that draws its order. -/
import Derived.Test.YtghlibiicooenaaGreatDoorAxQ
namespace Go.Ax
section
variable {P : Program} {ops : Array Oper} {D : Nat → OpD} {A : Nat → AAct} {HH : Nat → AHeap} {ρ0 : Ren} {w0 : World}

def Own (ops : Array Oper) (HH : Nat → AHeap) (n : Nat) : Prop := (HH 0).base ≤ n ∨ n ∈ (HH ops.size).dirty

/-- what holds once the operations of X have run, in whatever order -/
structure Inv (P : Program) (ops : Array Oper) (D : Nat → OpD) (A : Nat → AAct) (HH : Nat → AHeap) (ρ0 : Ren) (w0 : World) (X : Nat → Bool) (ρ : Ren) (w : World) : Prop where
  glob : ∀ g, g < P.globals.size → ρ.blk g = g ∧ ρ.sh g = 0
  inj : ∀ a b, hx D HH X ops.size a ≠ none → hx D HH X ops.size b ≠ none → ρ.blk a = ρ.blk b → a = b
  dom : ∀ n o, hx D HH X ops.size n = some o → Named ops HH X n ∧ ∀ k ∈ idsO o, Named ops HH X k
  obj : ∀ n o, hx D HH X ops.size n = some o → ∃ o', w.heap[ρ.blk n]? = some o' ∧ Fits P ρ n o o'
  env : ∀ t, t < (A 0).env.n → ∀ k ∈ idsV ((ax ops D (A 0) X ops.size).env.get t), Named ops HH X k
  ext : Ext (HH 0).next ρ0 ρ
  os : w.os = w0.os
  tape : w.tape = w0.tape
  output : w.output = w0.output
  size : w0.heap.size ≤ w.heap.size
  old : ∀ b, b < w0.heap.size → (∀ n, n < (HH 0).next → Own ops HH n → (HH 0).get n ≠ none → ρ0.blk n ≠ b) → w.heap[b]? = w0.heap[b]?
  fresh : ∀ n, (HH 0).next ≤ n → hx D HH X ops.size n ≠ none → w0.heap.size ≤ ρ.blk n ∨ ∃ k, k < (HH 0).next ∧ (HH 0).get k ≠ none ∧ Own ops HH k ∧ ρ.blk n = ρ0.blk k
  gone : ∀ n, n < (HH 0).next → (HH 0).get n = none → hx D HH X ops.size n = none

theorem Named.mono {X X' : Nat → Bool} (h : ∀ j, X j = true → X' j = true) {n : Nat} (hn : Named ops HH X n) : Named ops HH X' n :=
  hn.imp id (fun ⟨k, h1, h2, h3⟩ => ⟨k, h1, h k h2, h3⟩)

theorem act_same (ρ ρ' : Ren) {a b : AAct} (hn : a.env.n = b.env.n) (hd : a.defers.map ρ.dfr = b.defers.map ρ'.dfr) (hg : ∀ t, t < b.env.n → ρ.val (a.env.get t) = ρ'.val (b.env.get t)) : ρ.act a = ρ'.act b := by
  unfold Ren.act
  rw [hd]
  congr 1
  apply Array.ext_getElem?
  intro i
  rw [tmps_get?, tmps_get?, hn]
  split
  · rename_i h; rw [hg i h]
  · rfl

theorem Ready.up {X X' : Nat → Bool} {i : Nat} {o : Oper} (r : Ready ops X X' i o) : ∀ j, X j = true → X' j = true := fun j h => by
  by_cases e : j = i
  · rw [e]; exact r.now
  · rw [r.rest j e]; exact h

theorem dfr_agree (T : Txt P ops D A HH ρ0 w0) {ρ ρ' : Ren} (h : Ext (HH 0).next ρ0 ρ) (h' : Ext (HH 0).next ρ0 ρ') : (A 0).defers.map ρ'.dfr = (A 0).defers.map ρ.dfr := by
  apply List.map_congr_left
  intro d hd
  rw [dfr_ext h (T.sc.2 d hd), dfr_ext h' (T.sc.2 d hd)]

/-- an operation that is not wanted -/
theorem Ready.off (T : Txt P ops D A HH ρ0 w0) {X X' : Nat → Bool} {i : Nat} {o : Oper} (r : Ready ops X X' i o) (hoff : (D i).on = false) {ρ : Ren} {w : World} (I : Inv P ops D A HH ρ0 w0 X ρ w) :
    Inv P ops D A HH ρ0 w0 X' ρ w ∧ (ρ.act (ax ops D (A 0) X ops.size)).put o.dst undef = ρ.act (ax ops D (A 0) X' ops.size) := by
  have hh : ∀ n, hx D HH X' ops.size n = hx D HH X ops.size n := fun n => hx_congr _ (fun j _ hw => r.rest j (fun e => by rw [e] at hw; have := hw.1; rw [hoff] at this; cases this))
  obtain ⟨o', f1, f2, f3, f4, f5⟩ := T.fact i r.lt
  rw [r.at_] at f1
  cases f1
  have hv := (f5 hoff).1
  have hdi : dstAt ops i = o.dst := by simp [dstAt, r.at_]
  have he : ∀ t, t < (A 0).env.n → (ax ops D (A 0) X' ops.size).env.get t = if o.dst = some t then undef else (ax ops D (A 0) X ops.size).env.get t := fun t ht => by
    rw [ax_insert ht r.not r.now r.rest ops.size r.lt (fun j h1 h2 h3 h4 => r.dst T h1 h2 h3 h4), hdi, hv]
  refine ⟨⟨I.glob, fun a b ha hb => I.inj a b (by rw [← hh]; exact ha) (by rw [← hh]; exact hb), fun n o ho => ?_, fun n o ho => I.obj n o (by rw [← hh]; exact ho), fun t ht k hk => ?_, I.ext, I.os, I.tape, I.output, I.size, I.old, fun n h1 h2 => I.fresh n h1 (by rw [← hh]; exact h2), fun n h1 h2 => by rw [hh]; exact I.gone n h1 h2⟩, ?_⟩
  · have := I.dom n o (by rw [← hh]; exact ho)
    exact ⟨this.1.mono r.up, fun k hk => (this.2 k hk).mono r.up⟩
  · rw [he t ht] at hk
    split at hk
    · simp [undef, idsV, idsA, idsL] at hk
    · exact (I.env t ht k hk).mono r.up
  · have hp := act_put ρ (ax ops D (A 0) X ops.size) o.dst undef
    rw [Ren.val_undef] at hp
    rw [hp]
    obtain ⟨p1, p2⟩ := put_n (ax ops D (A 0) X ops.size) o.dst undef
    obtain ⟨q1, q2⟩ := ax_n (ops := ops) (D := D) (a := A 0) (X := X) ops.size
    obtain ⟨s1, s2⟩ := ax_n (ops := ops) (D := D) (a := A 0) (X := X') ops.size
    refine act_same ρ ρ (by rw [p1, q1, s1]) (by rw [p2, q2, s2]) (fun t ht => ?_)
    rw [s1] at ht
    rw [put_get _ _ _ _ (by rw [q1]; exact ht), he t ht]

/-- the part of memory that the operation looks at is as in the text's order -/
theorem Ready.same (T : Txt P ops D A HH ρ0 w0) {X X' : Nat → Bool} {i : Nat} {o : Oper} (r : Ready ops X X' i o) (hon : (D i).on = true) {n : Nat} (hn : n ∈ (D i).F) : hx D HH X ops.size n = (HH i).get n := by
  have hi := r.lt
  rw [hx_congr (Y := fun j => decide (j < i)) ops.size (fun j hj hw => r.foot T hon hn hj hw), hx_upto ops.size (by omega), T.hx_all i (by omega)]

theorem Ready.rel (T : Txt P ops D A HH ρ0 w0) {X X' : Nat → Bool} {i : Nat} {o : Oper} (r : Ready ops X X' i o) (hon : (D i).on = true) {ρ : Ren} {w : World} (I : Inv P ops D A HH ρ0 w0 X ρ w) :
    Rel P ρ ((HH i).restrict (D i).F) w := by
  have L := T.loc r.lt hon
  obtain ⟨k1, k2, k3⟩ := restrict_next (HH i) (D i).F
  have hF : ∀ n x, ((HH i).restrict (D i).F).get n = some x → n ∈ (D i).F ∧ (HH i).get n = some x := fun n x h => by
    rw [restrict_get] at h
    split at h
    · rename_i hn; exact ⟨hn, h⟩
    · cases h
  have hF' : ∀ n, ((HH i).restrict (D i).F).get n ≠ none → hx D HH X ops.size n ≠ none := fun n h => by
    obtain ⟨x, hx'⟩ := Option.ne_none_iff_exists'.1 h
    obtain ⟨h1, h2⟩ := hF n x hx'
    rw [r.same T hon h1, h2]; simp
  refine ⟨by rw [k1, k2]; exact Nat.le_refl _, by rw [k1]; exact ⟨L.glob, I.glob⟩, fun a b ha hb => I.inj a b (hF' a ha) (hF' b hb), fun n x hx' => ?_, fun n x hx' => ?_⟩
  · rw [k1]; exact L.domH n x (hF n x hx').2
  · obtain ⟨h1, h2⟩ := hF n x hx'
    exact I.obj n x (by rw [r.same T hon h1]; exact h2)

/-- what the operation hands on names only what may be named -/
theorem Ready.out (T : Txt P ops D A HH ρ0 w0) {X X' : Nat → Bool} {i : Nat} {o : Oper} (r : Ready ops X X' i o) (hon : (D i).on = true) {n : Nat} (hn : n ∈ outIds (D i).v (D i).g (HH i).next) : Named ops HH X' n := by
  have L := T.loc r.lt hon
  have hi := r.lt
  have hs := (T.step r.lt).2.1 hon
  have hlt : n < (D i).g.next := by
    rw [outIds, List.mem_append] at hn
    rcases hn with hn | hn
    · exact ids_of_scb _ L.v n hn
    · obtain ⟨x, _, hx⟩ := List.mem_flatMap.1 hn
      unfold idsAt at hx
      split at hx
      · rename_i ob hob; exact ids_of_sco (L.dom x ob hob).2 n hx
      · cases hx
  rcases T.part (i + 1) (by omega) (by rw [hs]; exact hlt) with h | ⟨j, h1, h2, h3⟩
  · exact .inl h
  · by_cases e : j = i
    · subst e; exact .inr ⟨j, r.lt, r.now, h2, h3⟩
    · have hj : j < i := by omega
      refine .inr ⟨j, by omega, ?_, h2, h3⟩
      rw [r.rest j e]
      cases ha : ((ancs ops).getD i 0).testBit j with
      | true => exact T.anc_ready r.closed r.at_ r.edges r.lt ha
      | false =>
        have hjo : (D j).on = true := by
          cases hjo : (D j).on with
          | true => rfl
          | false =>
            have := (T.step (i := j) (by omega)).2.2.1 hjo
            rw [this] at h3; omega
        have hsj := (T.step (i := j) (by omega)).2.1 hjo
        obtain ⟨p1, p2, p3⟩ := fpOk_spec (T.pair j i hj r.lt hjo hon) ha
        have := (p3 (by show (HH j).next < (D j).g.next; omega)).2 n hn
        simp only [fpAt] at this
        omega

theorem Ready.notNew (T : Txt P ops D A HH ρ0 w0) {X X' : Nat → Bool} {i : Nat} {o : Oper} (r : Ready ops X X' i o) (hon : (D i).on = true) {n : Nat} (hn : Named ops HH X n) : ¬ ((HH i).next ≤ n ∧ n < (D i).g.next) := by
  have hi := r.lt
  have hs := (T.step r.lt).2.1 hon
  rcases hn with h | ⟨k, h1, h2, h3, h4⟩
  · have := (T.mono (i := 0) (j := i) (by omega) (by omega)).1; omega
  · rcases Nat.lt_trichotomy k i with h | h | h
    · have := (T.mono (i := k + 1) (j := i) (by omega) (by omega)).1; omega
    · subst h; rw [r.not] at h2; cases h2
    · have := (T.mono (i := i + 1) (j := k) (by omega) (by omega)).1; omega

theorem Txt.own (T : Txt P ops D A HH ρ0 w0) {i : Nat} (hi : i < ops.size) (hon : (D i).on = true) {n : Nat} (hn : n ∈ (D i).g.dirty) : Own ops HH n := by
  have hb := (T.mono (i := 0) (j := i) (by omega) (by omega)).2.1
  rcases Nat.lt_or_ge n (HH 0).base with h | h
  · right
    have := (T.step hi).2.2.2.2.2 hon n hn (by rw [hb]; exact h)
    exact (T.mono (i := i + 1) (j := ops.size) (by omega) (by omega)).2.2 n this
  · exact .inl h

/-- an operation that has run -/
theorem Ready.on (T : Txt P ops D A HH ρ0 w0) {X X' : Nat → Bool} {i : Nat} {o : Oper} (r : Ready ops X X' i o) (hon : (D i).on = true) {ρ : Ren} {w : World} (I : Inv P ops D A HH ρ0 w0 X ρ w)
    {ρ1 : Ren} {w1 : World} (s : St P ρ ((HH i).restrict (D i).F) w ρ1 (D i).g w1) :
    Inv P ops D A HH ρ0 w0 X' (ρ.mix ρ1 (HH i).next (D i).g.next) w1 ∧ (ρ.act (ax ops D (A 0) X ops.size)).put o.dst (ρ1.val (D i).v) = (ρ.mix ρ1 (HH i).next (D i).g.next).act (ax ops D (A 0) X' ops.size) := by
  have L := T.loc r.lt hon
  have hi := r.lt
  have hs := (T.step r.lt).2.1 hon
  have hlo := (T.mono (i := 0) (j := i) (by omega) (by omega)).1
  obtain ⟨k1, k2, k3⟩ := restrict_next (HH i) (D i).F
  have hext : Ext (HH i).next ρ ρ1 := by have := s.ext; rw [k1] at this; exact this
  obtain ⟨o', f1, f2, f3, f4, f5⟩ := T.fact i r.lt
  rw [r.at_] at f1
  cases f1
  have hdi : dstAt ops i = o.dst := by simp [dstAt, r.at_]
  have hLF : ∀ m, ((HH i).restrict (D i).F).get m ≠ none → m ∈ (D i).F := fun m h => by
    rw [restrict_get] at h
    split at h
    · rename_i hm; exact hm
    · exact absurd rfl h
  have hXF : ∀ n ∈ (D i).F, hx D HH X ops.size n ≠ none := fun n hn => by rw [r.same T hon hn]; exact L.F n hn
  -- memory behind the operation
  have hh : ∀ n, hx D HH X' ops.size n = if WrtD D HH i n then (D i).g.get n else hx D HH X ops.size n := fun n =>
    hx_insert r.not r.now r.rest ops.size r.lt (fun j h1 h2 h3 h4 => r.ins T h1 h2 h3 h4)
  have hfrom : ∀ n x, hx D HH X' ops.size n = some x → ((D i).g.get n = some x ∧ (n ∈ (D i).F ∨ (HH i).next ≤ n)) ∨ (n ∉ (D i).F ∧ hx D HH X ops.size n = some x) := fun n x hx' => by
    rw [hh] at hx'
    split at hx'
    · rename_i hw
      refine .inl ⟨hx', ?_⟩
      rcases hw.2 with h | h
      · exact .inl (L.W n h)
      · exact .inr h.1
    · rename_i hw
      by_cases hf : n ∈ (D i).F
      · refine .inl ⟨?_, .inl hf⟩
        rw [L.keep n hf (fun h => hw ⟨hon, .inl h⟩), ← r.same T hon hf]; exact hx'
      · exact .inr ⟨hf, hx'⟩
  -- how the renamings agree
  have g1 : ∀ n, n < (D i).g.next → Agree ρ1 (ρ.mix ρ1 (HH i).next (D i).g.next) n := fun n hn => mix_in ρ ρ1 hext hn
  have g2 : ∀ n, Named ops HH X n → Agree ρ (ρ.mix ρ1 (HH i).next (D i).g.next) n := fun n hn => mix_out ρ ρ1 (r.notNew T hon hn)
  have hblk : ∀ n, hx D HH X ops.size n ≠ none → ρ.blk n < w.heap.size := fun n hn => by
    obtain ⟨x, hx'⟩ := Option.ne_none_iff_exists'.1 hn
    obtain ⟨y, hy, _⟩ := I.obj n x hx'
    rcases Nat.lt_or_ge (ρ.blk n) w.heap.size with h | h
    · exact h
    · simp [Array.getElem?_eq_none h] at hy
  -- the blocks that the operation has written or made anew, by where they came from
  have hnew : ∀ n x, (D i).g.get n = some x → (HH i).next ≤ n → w.heap.size ≤ ρ1.blk n ∨ ∃ m, m ∈ (D i).F ∧ m ∈ (D i).g.dirty ∧ m < (HH i).next ∧ ρ1.blk n = ρ.blk m := fun n x hx' hn => by
    rcases s.fresh n (by rw [k1]; exact hn) (ne_none hx') with h | ⟨m, h1, h2, h3, h4⟩
    · exact .inl h
    · refine .inr ⟨m, hLF m h2, ?_, by rw [k1] at h1; exact h1, h4⟩
      rcases h3 with h3 | h3
      · rw [k2] at h3; rw [k1] at h1; omega
      · exact h3
  have he : ∀ t, t < (A 0).env.n → (ax ops D (A 0) X' ops.size).env.get t = if o.dst = some t then (D i).v else (ax ops D (A 0) X ops.size).env.get t := fun t ht => by
    rw [ax_insert ht r.not r.now r.rest ops.size r.lt (fun j h1 h2 h3 h4 => r.dst T h1 h2 h3 h4), hdi]
  have hvout : ∀ k ∈ idsV (D i).v, Named ops HH X' k := fun k hk => r.out T hon (by rw [outIds]; exact List.mem_append_left _ hk)
  have hext' : Ext (HH 0).next ρ0 (ρ.mix ρ1 (HH i).next (D i).g.next) := by
    have ha : ∀ n, n < (HH 0).next → Agree ρ (ρ.mix ρ1 (HH i).next (D i).g.next) n := fun n hn => g2 n (.inl hn)
    exact ⟨fun n hn => (ha n hn).1.trans (I.ext.blk n hn), fun n hn => (ha n hn).2.1.trans (I.ext.sh n hn), fun n hn => (ha n hn).2.2.1.trans (I.ext.ex n hn), fun n hn => (ha n hn).2.2.2.trans (I.ext.op n hn)⟩
  have hglob : P.globals.size ≤ (HH 0).next := T.rel.glob.1
  refine ⟨⟨fun g hg => ?_, ?_, ?_, ?_, ?_, hext', s.os.trans I.os, s.tape.trans I.tape, s.output.trans I.output, Nat.le_trans I.size s.size, ?_, ?_, ?_⟩, ?_⟩
  · have ha := g2 g (.inl (by omega))
    rw [ha.1, ha.2.1]; exact I.glob g hg
  · -- one to one
    intro a b ha hb heq
    obtain ⟨xa, hxa⟩ := Option.ne_none_iff_exists'.1 ha
    obtain ⟨xb, hxb⟩ := Option.ne_none_iff_exists'.1 hb
    have cross : ∀ x y ox oy, (D i).g.get x = some ox → (x ∈ (D i).F ∨ (HH i).next ≤ x) → y ∉ (D i).F → hx D HH X ops.size y = some oy → (ρ.mix ρ1 (HH i).next (D i).g.next).blk x = (ρ.mix ρ1 (HH i).next (D i).g.next).blk y → False := by
      intro x y ox oy hox hxF hyF hoy heq
      rw [(g1 x (L.dom x ox hox).1).1, (g2 y (I.dom y oy hoy).1).1] at heq
      rcases Nat.lt_or_ge x (HH i).next with hlt | hge
      · have hxF : x ∈ (D i).F := hxF.elim id (fun h => by omega)
        rw [hext.blk x hlt] at heq
        exact hyF (I.inj x y (hXF x hxF) (ne_none hoy) heq ▸ hxF)
      · rcases hnew x ox hox hge with h | ⟨m, h1, h2, h3, h4⟩
        · have := hblk y (ne_none hoy); omega
        · rw [h4] at heq
          exact hyF (I.inj m y (hXF m h1) (ne_none hoy) heq ▸ h1)
    rcases hfrom a xa hxa with ⟨h1, h2⟩ | ⟨h1, h2⟩ <;> rcases hfrom b xb hxb with ⟨j1, j2⟩ | ⟨j1, j2⟩
    · rw [(g1 a (L.dom a xa h1).1).1, (g1 b (L.dom b xb j1).1).1] at heq
      exact s.rel.inj a b (ne_none h1) (ne_none j1) heq
    · exact (cross a b xa xb h1 h2 j1 j2 heq).elim
    · exact (cross b a xb xa j1 j2 h1 h2 heq.symm).elim
    · rw [(g2 a (I.dom a xa h2).1).1, (g2 b (I.dom b xb j2).1).1] at heq
      exact I.inj a b (ne_none h2) (ne_none j2) heq
  · -- what is named
    intro n x hx'
    have hx0 := hx'
    rw [hh] at hx'
    split at hx'
    · rename_i hw
      have hd := L.dom n x hx'
      refine ⟨?_, fun k hk => r.out T hon ?_⟩
      · rcases hw.2 with h | h
        · obtain ⟨y, hy⟩ := Option.ne_none_iff_exists'.1 (hXF n (L.W n h))
          exact (I.dom n y hy).1.mono r.up
        · exact .inr ⟨i, r.lt, r.now, h.1, by rw [hs]; exact h.2⟩
      · rw [outIds]
        refine List.mem_append_right _ (List.mem_flatMap.2 ⟨n, ?_, by simp only [idsAt, hx']; exact hk⟩)
        rcases hw.2 with h | h
        · exact List.mem_append_left _ h
        · exact List.mem_append_right _ (mem_rangeFrom _ _ h.1 (by omega))
    · have := I.dom n x hx'
      exact ⟨this.1.mono r.up, fun k hk => (this.2 k hk).mono r.up⟩
  · -- the objects
    intro n x hx'
    rcases hfrom n x hx' with ⟨h1, _⟩ | ⟨h1, h2⟩
    · obtain ⟨y, hy, hf⟩ := s.rel.obj n x h1
      have hd := L.dom n x h1
      refine ⟨y, by rw [(g1 n hd.1).1]; exact hy, hf.agree (g1 n hd.1) (fun k hk => g1 k (ids_of_sco hd.2 k hk))⟩
    · obtain ⟨y, hy, hf⟩ := I.obj n x h2
      have hd := I.dom n x h2
      refine ⟨y, ?_, hf.agree (g2 n hd.1) (fun k hk => g2 k (hd.2 k hk))⟩
      rw [(g2 n hd.1).1, ← hy]
      refine s.old _ (hblk n (ne_none h2)) fun m hm hdm hgm e => ?_
      have hmF := hLF m hgm
      exact h1 (I.inj m n (hXF m hmF) (ne_none h2) e ▸ hmF)
  · -- the temporaries
    intro t ht k hk
    rw [he t ht] at hk
    split at hk
    · exact hvout k hk
    · exact (I.env t ht k hk).mono r.up
  · -- what was there before
    intro b hb hc
    rw [← I.old b hb hc]
    refine s.old b (Nat.lt_of_lt_of_le hb I.size) fun m hm hdm hgm => ?_
    have hmF := hLF m hgm
    have hmd : m ∈ (D i).g.dirty := by
      rcases hdm with h | h
      · rw [k2] at h; rw [k1] at hm; omega
      · exact h
    have hown := T.own r.lt hon hmd
    rcases Nat.lt_or_ge m (HH 0).next with h | h
    · rw [I.ext.blk m h]
      exact hc m h hown (fun e => hXF m hmF (I.gone m h e))
    · rcases I.fresh m h (hXF m hmF) with h' | ⟨q, h1, h2, h3, h4⟩
      · omega
      · rw [h4]; exact hc q h1 h3 h2
  · -- what is new
    intro n hn hne
    obtain ⟨x, hx'⟩ := Option.ne_none_iff_exists'.1 hne
    rcases hfrom n x hx' with ⟨h1, h2⟩ | ⟨h1, h2⟩
    · rw [(g1 n (L.dom n x h1).1).1]
      rcases Nat.lt_or_ge n (HH i).next with hlt | hge
      · have hnF : n ∈ (D i).F := h2.elim id (fun h => by omega)
        rw [hext.blk n hlt]
        exact I.fresh n hn (hXF n hnF)
      · rcases hnew n x h1 hge with h | ⟨m, m1, m2, m3, m4⟩
        · exact .inl (Nat.le_trans I.size h)
        · rw [m4]
          have hown := T.own r.lt hon m2
          rcases Nat.lt_or_ge m (HH 0).next with h | h
          · exact .inr ⟨m, h, fun e => hXF m m1 (I.gone m h e), hown, I.ext.blk m h⟩
          · exact I.fresh m h (hXF m m1)
    · rw [(g2 n (I.dom n x h2).1).1]
      exact I.fresh n hn (ne_none h2)
  · -- what is gone
    intro n hn h0
    rw [hh]
    split
    · rename_i hw
      rcases hw.2 with h | h
      · exact absurd (I.gone n hn h0) (hXF n (L.W n h))
      · omega
    · exact I.gone n hn h0
  · -- the frame
    have hval : ρ1.val (D i).v = (ρ.mix ρ1 (HH i).next (D i).g.next).val (D i).v := (val_ids _ (fun k hk => g1 k (ids_of_scb _ L.v k hk))).symm
    have hmid : ρ.act (ax ops D (A 0) X ops.size) = (ρ.mix ρ1 (HH i).next (D i).g.next).act (ax ops D (A 0) X ops.size) := by
      obtain ⟨q1, q2⟩ := ax_n (ops := ops) (D := D) (a := A 0) (X := X) ops.size
      refine act_same _ _ rfl ?_ (fun t ht => ?_)
      · rw [q2]; exact dfr_agree T hext' I.ext
      · rw [q1] at ht
        exact (val_ids _ (fun k hk => g2 k (I.env t ht k hk))).symm
    rw [hmid, hval, act_put]
    obtain ⟨p1, p2⟩ := put_n (ax ops D (A 0) X ops.size) o.dst (D i).v
    obtain ⟨q1, q2⟩ := ax_n (ops := ops) (D := D) (a := A 0) (X := X) ops.size
    obtain ⟨s1, s2⟩ := ax_n (ops := ops) (D := D) (a := A 0) (X := X') ops.size
    refine act_same _ _ (by rw [p1, q1, s1]) (by rw [p2, q2, s2]) (fun t ht => ?_)
    rw [s1] at ht
    rw [put_get _ _ _ _ (by rw [q1]; exact ht), he t ht]

end
end Go.Ax
