/- Parts of the proof, one behind the other. -/
import Derived.Test.YtnigelgcjfhghaaGreatDoorM2
import Derived.LoopNIn
import Derived.Scope
set_option linter.all false

/- The abstract executor: a region that draws its order. -/
namespace Go.Ax
section
variable {P : Program} {ops : Array Oper} {D : Nat → OpD} {A : Nat → AAct} {HH : Nat → AHeap} {ρ0 : Ren} {w0 : World}

def Own (ops : Array Oper) (HH : Nat → AHeap) (n : Nat) : Prop := (HH 0).base ≤ n ∨ n ∈ (HH ops.size).dirty

structure Inv (P : Program) (ops : Array Oper) (D : Nat → OpD) (A : Nat → AAct) (HH : Nat → AHeap) (ρ0 : Ren) (w0 : World) (X : Nat → Bool) (ρ : Ren) (w : World) : Prop where
  glob : ∀ g, g < P.globals.size → ρ.blk g = g ∧ ρ.sh g = 0
  inj : ∀ a b, hx D HH X ops.size a ≠ none → hx D HH X ops.size b ≠ none → ρ.blk a = ρ.blk b → a = b ∨ Fz (hx D HH X ops.size a) ∧ Fz (hx D HH X ops.size b)
  ro : ∀ n, Fz ((HH 0).get n) → hx D HH X ops.size n = (HH 0).get n
  dom : ∀ n o, hx D HH X ops.size n = some o → Named ops HH X n ∧ ∀ k ∈ idsO o, Named ops HH X k
  obj : ∀ n o, hx D HH X ops.size n = some o → ∃ o', w.heap[ρ.blk n]? = some o' ∧ Fits P ρ n o o'
  env : ∀ t, t < (A 0).env.n → ∀ k ∈ idsV ((ax ops D (A 0) X ops.size).env.get t), Named ops HH X k
  ext : Ext (HH 0).next ρ0 ρ
  os : w.os = w0.os
  tape : w.tape = w0.tape
  output : w.output = w0.output
  size : w0.heap.size ≤ w.heap.size
  old : ∀ b, b < w0.heap.size → (∀ n, n < (HH 0).next → Own ops HH n → (HH 0).get n ≠ none → ρ0.blk n ≠ b) → w.heap[b]? = w0.heap[b]?
  fresh : ∀ n, (HH 0).next ≤ n → hx D HH X ops.size n ≠ none → w0.heap.size ≤ ρ.blk n ∨ ∃ k, k < (HH 0).next ∧ (HH 0).get k ≠ none ∧ Own ops HH k ∧ ρ.blk n = ρ0.blk k
  gone : ∀ n, n < (HH 0).next → (HH 0).get n = none → hx D HH X ops.size n = none

theorem Named.mono {X X' : Nat → Bool} (h : ∀ j, X j = true → X' j = true) {n : Nat} (hn : Named ops HH X n) : Named ops HH X' n :=
  hn.imp id (fun ⟨k, h1, h2, h3⟩ => ⟨k, h1, h k h2, h3⟩)

theorem act_same (ρ ρ' : Ren) {a b : AAct} (hn : a.env.n = b.env.n) (hd : a.defers.map ρ.dfr = b.defers.map ρ'.dfr) (hg : ∀ t, t < b.env.n → ρ.val (a.env.get t) = ρ'.val (b.env.get t)) : ρ.act a = ρ'.act b := by
  unfold Ren.act
  rw [hd]
  congr 1
  apply Array.ext_getElem?
  intro i
  rw [tmps_get?, tmps_get?, hn]
  split
  · rename_i h; rw [hg i h]
  · rfl

theorem Ready.up {X X' : Nat → Bool} {i : Nat} {o : Oper} (r : Ready ops X X' i o) : ∀ j, X j = true → X' j = true := fun j h => by
  by_cases e : j = i
  · rw [e]; exact r.now
  · rw [r.rest j e]; exact h

theorem dfr_agree (T : Txt P ops D A HH ρ0 w0) {ρ ρ' : Ren} (h : Ext (HH 0).next ρ0 ρ) (h' : Ext (HH 0).next ρ0 ρ') : (A 0).defers.map ρ'.dfr = (A 0).defers.map ρ.dfr := by
  apply List.map_congr_left
  intro d hd
  rw [dfr_ext h (T.sc.2 d hd), dfr_ext h' (T.sc.2 d hd)]

theorem Ready.off (T : Txt P ops D A HH ρ0 w0) {X X' : Nat → Bool} {i : Nat} {o : Oper} (r : Ready ops X X' i o) (hoff : (D i).on = false) {ρ : Ren} {w : World} (I : Inv P ops D A HH ρ0 w0 X ρ w) :
    Inv P ops D A HH ρ0 w0 X' ρ w ∧ (ρ.act (ax ops D (A 0) X ops.size)).put o.dst undef = ρ.act (ax ops D (A 0) X' ops.size) := by
  have hh : ∀ n, hx D HH X' ops.size n = hx D HH X ops.size n := fun n => hx_congr _ (fun j _ hw => r.rest j (fun e => by rw [e] at hw; have := hw.1; rw [hoff] at this; cases this))
  obtain ⟨o', f1, f2, f3, f4, f5⟩ := T.fact i r.lt
  rw [r.at_] at f1
  cases f1
  have hv := (f5 hoff).1
  have hdi : dstAt ops i = o.dst := by simp [dstAt, r.at_]
  have he : ∀ t, t < (A 0).env.n → (ax ops D (A 0) X' ops.size).env.get t = if o.dst = some t then undef else (ax ops D (A 0) X ops.size).env.get t := fun t ht => by
    rw [ax_insert ht r.not r.now r.rest ops.size r.lt (fun j h1 h2 h3 h4 => r.dst T h1 h2 h3 h4), hdi, hv]
  refine ⟨⟨I.glob, fun a b ha hb => by rw [hh, hh]; exact I.inj a b (by rw [← hh]; exact ha) (by rw [← hh]; exact hb), fun n hn => by rw [hh]; exact I.ro n hn, fun n o ho => ?_, fun n o ho => I.obj n o (by rw [← hh]; exact ho), fun t ht k hk => ?_, I.ext, I.os, I.tape, I.output, I.size, I.old, fun n h1 h2 => I.fresh n h1 (by rw [← hh]; exact h2), fun n h1 h2 => by rw [hh]; exact I.gone n h1 h2⟩, ?_⟩
  · have := I.dom n o (by rw [← hh]; exact ho)
    exact ⟨this.1.mono r.up, fun k hk => (this.2 k hk).mono r.up⟩
  · rw [he t ht] at hk
    split at hk
    · simp [undef, idsV, idsA, idsL] at hk
    · exact (I.env t ht k hk).mono r.up
  · have hp := act_put ρ (ax ops D (A 0) X ops.size) o.dst undef
    rw [Ren.val_undef] at hp
    rw [hp]
    obtain ⟨p1, p2⟩ := put_n (ax ops D (A 0) X ops.size) o.dst undef
    obtain ⟨q1, q2⟩ := ax_n (ops := ops) (D := D) (a := A 0) (X := X) ops.size
    obtain ⟨s1, s2⟩ := ax_n (ops := ops) (D := D) (a := A 0) (X := X') ops.size
    refine act_same ρ ρ (by rw [p1, q1, s1]) (by rw [p2, q2, s2]) (fun t ht => ?_)
    rw [s1] at ht
    rw [put_get _ _ _ _ (by rw [q1]; exact ht), he t ht]

theorem Ready.same (T : Txt P ops D A HH ρ0 w0) {X X' : Nat → Bool} {i : Nat} {o : Oper} (r : Ready ops X X' i o) (hon : (D i).on = true) {n : Nat} (hn : n ∈ (D i).F) : hx D HH X ops.size n = (HH i).get n := by
  have hi := r.lt
  rw [hx_congr (Y := fun j => decide (j < i)) ops.size (fun j hj hw => r.foot T hon hn hj hw), hx_upto ops.size (by omega), T.hx_all i (by omega)]

theorem Ready.rel (T : Txt P ops D A HH ρ0 w0) {X X' : Nat → Bool} {i : Nat} {o : Oper} (r : Ready ops X X' i o) (hon : (D i).on = true) {ρ : Ren} {w : World} (I : Inv P ops D A HH ρ0 w0 X ρ w) :
    Rel P ρ ((HH i).restrict (D i).F) w := by
  have L := T.loc r.lt hon
  obtain ⟨k1, k2, k3⟩ := restrict_next (HH i) (D i).F
  have hF : ∀ n x, ((HH i).restrict (D i).F).get n = some x → n ∈ (D i).F ∧ (HH i).get n = some x := fun n x h => by
    rw [restrict_get] at h
    split at h
    · rename_i hn; exact ⟨hn, h⟩
    · cases h
  have hF' : ∀ n, ((HH i).restrict (D i).F).get n ≠ none → hx D HH X ops.size n ≠ none := fun n h => by
    obtain ⟨x, hx'⟩ := Option.ne_none_iff_exists'.1 h
    obtain ⟨h1, h2⟩ := hF n x hx'
    rw [r.same T hon h1, h2]; simp
  refine ⟨by rw [k1, k2]; exact Nat.le_refl _, by rw [k1]; exact ⟨L.glob, I.glob⟩, fun a b ha hb he => by
    obtain ⟨xa, hxa⟩ := Option.ne_none_iff_exists'.1 ha
    obtain ⟨xb, hxb⟩ := Option.ne_none_iff_exists'.1 hb
    obtain ⟨a1, a2⟩ := hF a xa hxa
    obtain ⟨b1, b2⟩ := hF b xb hxb
    have := I.inj a b (hF' a ha) (hF' b hb) he
    rw [r.same T hon a1, r.same T hon b1, a2, b2] at this
    rw [hxa, hxb]; exact this, fun n x hx' => ?_, fun n x hx' => ?_⟩
  · rw [k1]; exact L.domH n x (hF n x hx').2
  · obtain ⟨h1, h2⟩ := hF n x hx'
    exact I.obj n x (by rw [r.same T hon h1]; exact h2)

theorem Ready.out (T : Txt P ops D A HH ρ0 w0) {X X' : Nat → Bool} {i : Nat} {o : Oper} (r : Ready ops X X' i o) (hon : (D i).on = true) {n : Nat} (hn : n ∈ outIds (D i).v (D i).g (HH i).next) : Named ops HH X' n := by
  have L := T.loc r.lt hon
  have hi := r.lt
  have hs := (T.step r.lt).2.1 hon
  have hlt : n < (D i).g.next := by
    rw [outIds, List.mem_append] at hn
    rcases hn with hn | hn
    · exact ids_of_scb _ L.v n hn
    · obtain ⟨x, _, hx⟩ := List.mem_flatMap.1 hn
      unfold idsAt at hx
      split at hx
      · rename_i ob hob; exact ids_of_sco (L.dom x ob hob).2 n hx
      · cases hx
  rcases T.part (i + 1) (by omega) (by rw [hs]; exact hlt) with h | ⟨j, h1, h2, h3⟩
  · exact .inl h
  · by_cases e : j = i
    · subst e; exact .inr ⟨j, r.lt, r.now, h2, h3⟩
    · have hj : j < i := by omega
      refine .inr ⟨j, by omega, ?_, h2, h3⟩
      rw [r.rest j e]
      cases ha : ((ancs ops).getD i 0).testBit j with
      | true => exact T.anc_ready r.closed r.at_ r.edges r.lt ha
      | false =>
        have hjo : (D j).on = true := by
          cases hjo : (D j).on with
          | true => rfl
          | false =>
            have := (T.step (i := j) (by omega)).2.2.1 hjo
            rw [this] at h3; omega
        have hsj := (T.step (i := j) (by omega)).2.1 hjo
        obtain ⟨p1, p2, p3⟩ := fpOk_spec (T.pair j i hj r.lt hjo hon) ha
        have := (p3 (by show (HH j).next < (D j).g.next; omega)).2 n hn
        simp only [fpAt] at this
        omega

theorem Ready.notNew (T : Txt P ops D A HH ρ0 w0) {X X' : Nat → Bool} {i : Nat} {o : Oper} (r : Ready ops X X' i o) (hon : (D i).on = true) {n : Nat} (hn : Named ops HH X n) : ¬ ((HH i).next ≤ n ∧ n < (D i).g.next) := by
  have hi := r.lt
  have hs := (T.step r.lt).2.1 hon
  rcases hn with h | ⟨k, h1, h2, h3, h4⟩
  · have := (T.mono (i := 0) (j := i) (by omega) (by omega)).1; omega
  · rcases Nat.lt_trichotomy k i with h | h | h
    · have := (T.mono (i := k + 1) (j := i) (by omega) (by omega)).1; omega
    · subst h; rw [r.not] at h2; cases h2
    · have := (T.mono (i := i + 1) (j := k) (by omega) (by omega)).1; omega

theorem Txt.own (T : Txt P ops D A HH ρ0 w0) {i : Nat} (hi : i < ops.size) (hon : (D i).on = true) {n : Nat} (hn : n ∈ (D i).g.dirty) : Own ops HH n := by
  have hb := (T.mono (i := 0) (j := i) (by omega) (by omega)).2.1
  rcases Nat.lt_or_ge n (HH 0).base with h | h
  · right
    have := (T.step hi).2.2.2.2.2 hon n hn (by rw [hb]; exact h)
    exact (T.mono (i := i + 1) (j := ops.size) (by omega) (by omega)).2.2 n this
  · exact .inl h

theorem Ready.on (T : Txt P ops D A HH ρ0 w0) {X X' : Nat → Bool} {i : Nat} {o : Oper} (r : Ready ops X X' i o) (hon : (D i).on = true) {ρ : Ren} {w : World} (I : Inv P ops D A HH ρ0 w0 X ρ w)
    {ρ1 : Ren} {w1 : World} (s : St P ρ ((HH i).restrict (D i).F) w ρ1 (D i).g w1) :
    Inv P ops D A HH ρ0 w0 X' (ρ.mix ρ1 (HH i).next (D i).g.next) w1 ∧ (ρ.act (ax ops D (A 0) X ops.size)).put o.dst (ρ1.val (D i).v) = (ρ.mix ρ1 (HH i).next (D i).g.next).act (ax ops D (A 0) X' ops.size) := by
  have L := T.loc r.lt hon
  have hi := r.lt
  have hs := (T.step r.lt).2.1 hon
  have hlo := (T.mono (i := 0) (j := i) (by omega) (by omega)).1
  obtain ⟨k1, k2, k3⟩ := restrict_next (HH i) (D i).F
  have hext : Ext (HH i).next ρ ρ1 := by have := s.ext; rw [k1] at this; exact this
  obtain ⟨o', f1, f2, f3, f4, f5⟩ := T.fact i r.lt
  rw [r.at_] at f1
  cases f1
  have hdi : dstAt ops i = o.dst := by simp [dstAt, r.at_]
  have hLF : ∀ m, ((HH i).restrict (D i).F).get m ≠ none → m ∈ (D i).F := fun m h => by
    rw [restrict_get] at h
    split at h
    · rename_i hm; exact hm
    · exact absurd rfl h
  have hXF : ∀ n ∈ (D i).F, hx D HH X ops.size n ≠ none := fun n hn => by rw [r.same T hon hn]; exact L.F n hn
  -- memory behind the operation
  have hh : ∀ n, hx D HH X' ops.size n = if WrtD D HH i n then (D i).g.get n else hx D HH X ops.size n := fun n =>
    hx_insert r.not r.now r.rest ops.size r.lt (fun j h1 h2 h3 h4 => r.ins T h1 h2 h3 h4)
  have hfrom : ∀ n x, hx D HH X' ops.size n = some x → ((D i).g.get n = some x ∧ (n ∈ (D i).F ∨ (HH i).next ≤ n)) ∨ (n ∉ (D i).F ∧ hx D HH X ops.size n = some x) := fun n x hx' => by
    rw [hh] at hx'
    split at hx'
    · rename_i hw
      refine .inl ⟨hx', ?_⟩
      rcases hw.2 with h | h
      · exact .inl (L.W n h)
      · exact .inr h.1
    · rename_i hw
      by_cases hf : n ∈ (D i).F
      · refine .inl ⟨?_, .inl hf⟩
        rw [L.keep n hf (fun h => hw ⟨hon, .inl h⟩), ← r.same T hon hf]; exact hx'
      · exact .inr ⟨hf, hx'⟩
  -- how the renamings agree
  have g1 : ∀ n, n < (D i).g.next → Agree ρ1 (ρ.mix ρ1 (HH i).next (D i).g.next) n := fun n hn => mix_in ρ ρ1 hext hn
  have g2 : ∀ n, Named ops HH X n → Agree ρ (ρ.mix ρ1 (HH i).next (D i).g.next) n := fun n hn => mix_out ρ ρ1 (r.notNew T hon hn)
  have hblk : ∀ n, hx D HH X ops.size n ≠ none → ρ.blk n < w.heap.size := fun n hn => by
    obtain ⟨x, hx'⟩ := Option.ne_none_iff_exists'.1 hn
    obtain ⟨y, hy, _⟩ := I.obj n x hx'
    rcases Nat.lt_or_ge (ρ.blk n) w.heap.size with h | h
    · exact h
    · simp [Array.getElem?_eq_none h] at hy
  have hFL : ∀ m ∈ (D i).F, ((HH i).restrict (D i).F).get m = (HH i).get m := fun m h => by rw [restrict_get, if_pos h]
  have hro : ∀ m ∈ (D i).F, Fz (hx D HH X ops.size m) → m ∉ (D i).g.dirty ∧ (D i).g.get m = hx D HH X ops.size m := fun m h hz => by
    rw [r.same T hon h] at hz ⊢
    obtain ⟨a, b⟩ := s.ro m (by rw [hFL m h]; exact hz)
    rw [k3] at a
    exact ⟨fun h => (by cases a h), by rw [b, hFL m h]⟩
  -- the blocks that the operation has written or made anew, by where they came from
  have hnew : ∀ n x, (D i).g.get n = some x → (HH i).next ≤ n → w.heap.size ≤ ρ1.blk n ∨ ∃ m, m ∈ (D i).F ∧ m ∈ (D i).g.dirty ∧ m < (HH i).next ∧ ρ1.blk n = ρ.blk m := fun n x hx' hn => by
    rcases s.fresh n (by rw [k1]; exact hn) (ne_none hx') with h | ⟨m, h1, h2, h3, h4⟩
    · exact .inl h
    · refine .inr ⟨m, hLF m h2, ?_, by rw [k1] at h1; exact h1, h4⟩
      rcases h3 with h3 | h3
      · rw [k2] at h3; rw [k1] at h1; omega
      · exact h3
  have he : ∀ t, t < (A 0).env.n → (ax ops D (A 0) X' ops.size).env.get t = if o.dst = some t then (D i).v else (ax ops D (A 0) X ops.size).env.get t := fun t ht => by
    rw [ax_insert ht r.not r.now r.rest ops.size r.lt (fun j h1 h2 h3 h4 => r.dst T h1 h2 h3 h4), hdi]
  have hvout : ∀ k ∈ idsV (D i).v, Named ops HH X' k := fun k hk => r.out T hon (by rw [outIds]; exact List.mem_append_left _ hk)
  have hext' : Ext (HH 0).next ρ0 (ρ.mix ρ1 (HH i).next (D i).g.next) := by
    have ha : ∀ n, n < (HH 0).next → Agree ρ (ρ.mix ρ1 (HH i).next (D i).g.next) n := fun n hn => g2 n (.inl hn)
    exact ⟨fun n hn => (ha n hn).1.trans (I.ext.blk n hn), fun n hn => (ha n hn).2.1.trans (I.ext.sh n hn), fun n hn => (ha n hn).2.2.1.trans (I.ext.ex n hn), fun n hn => (ha n hn).2.2.2.trans (I.ext.op n hn)⟩
  have hglob : P.globals.size ≤ (HH 0).next := T.rel.glob.1
  refine ⟨⟨fun g hg => ?_, ?_, fun n hz => ?_, ?_, ?_, ?_, hext', s.os.trans I.os, s.tape.trans I.tape, s.output.trans I.output, Nat.le_trans I.size s.size, ?_, ?_, ?_⟩, ?_⟩
  · have ha := g2 g (.inl (by omega))
    rw [ha.1, ha.2.1]; exact I.glob g hg
  · -- one to one
    intro a b ha hb heq
    obtain ⟨xa, hxa⟩ := Option.ne_none_iff_exists'.1 ha
    obtain ⟨xb, hxb⟩ := Option.ne_none_iff_exists'.1 hb
    have cross : ∀ x y ox oy, (D i).g.get x = some ox → (x ∈ (D i).F ∨ (HH i).next ≤ x) → y ∉ (D i).F → hx D HH X ops.size y = some oy → (ρ.mix ρ1 (HH i).next (D i).g.next).blk x = (ρ.mix ρ1 (HH i).next (D i).g.next).blk y → Fz ((D i).g.get x) ∧ Fz (hx D HH X ops.size y) := by
      intro x y ox oy hox hxF hyF hoy heq
      rw [(g1 x (L.dom x ox hox).1).1, (g2 y (I.dom y oy hoy).1).1] at heq
      rcases Nat.lt_or_ge x (HH i).next with hlt | hge
      · have hxF : x ∈ (D i).F := hxF.elim id (fun h => by omega)
        rw [hext.blk x hlt] at heq
        rcases I.inj x y (hXF x hxF) (ne_none hoy) heq with e | ⟨e1, e2⟩
        · exact absurd (e ▸ hxF) hyF
        · exact ⟨by rw [(hro x hxF e1).2]; exact e1, e2⟩
      · rcases hnew x ox hox hge with h | ⟨m, h1, h2, h3, h4⟩
        · have := hblk y (ne_none hoy); omega
        · rw [h4] at heq
          exact (I.inj m y (hXF m h1) (ne_none hoy) heq).elim (fun e => absurd (e ▸ h1) hyF) fun h => absurd h2 (hro m h1 h.1).1
    rcases hfrom a xa hxa with ⟨h1, h2⟩ | ⟨h1, h2⟩ <;> rcases hfrom b xb hxb with ⟨j1, j2⟩ | ⟨j1, j2⟩
    · rw [(g1 a (L.dom a xa h1).1).1, (g1 b (L.dom b xb j1).1).1] at heq
      rw [hxa, hxb, ← h1, ← j1]
      exact s.rel.inj a b (ne_none h1) (ne_none j1) heq
    · rw [hxa, hxb, ← h1, ← j2]
      exact .inr (cross a b xa xb h1 h2 j1 j2 heq)
    · rw [hxa, hxb, ← h2, ← j1]
      exact .inr (cross b a xb xa j1 j2 h1 h2 heq.symm).symm
    · rw [(g2 a (I.dom a xa h2).1).1, (g2 b (I.dom b xb j2).1).1] at heq
      rw [hxa, hxb, ← h2, ← j2]
      exact I.inj a b (ne_none h2) (ne_none j2) heq
  · -- what is for reading only
    have h0 := I.ro n hz
    rw [hh]
    split
    · rename_i hw
      have hz' : Fz (hx D HH X ops.size n) := by rw [h0]; exact hz
      rcases hw.2 with h | h
      · exact absurd h (hro n (L.W n h) hz').1
      · have := T.rel.lt hz.ne; omega
    · exact h0
  · -- what is named
    intro n x hx'
    have hx0 := hx'
    rw [hh] at hx'
    split at hx'
    · rename_i hw
      have hd := L.dom n x hx'
      refine ⟨?_, fun k hk => r.out T hon ?_⟩
      · rcases hw.2 with h | h
        · obtain ⟨y, hy⟩ := Option.ne_none_iff_exists'.1 (hXF n (L.W n h))
          exact (I.dom n y hy).1.mono r.up
        · exact .inr ⟨i, r.lt, r.now, h.1, by rw [hs]; exact h.2⟩
      · rw [outIds]
        refine List.mem_append_right _ (List.mem_flatMap.2 ⟨n, ?_, by simp only [idsAt, hx']; exact hk⟩)
        rcases hw.2 with h | h
        · exact List.mem_append_left _ h
        · exact List.mem_append_right _ (mem_rangeFrom _ _ h.1 (by omega))
    · have := I.dom n x hx'
      exact ⟨this.1.mono r.up, fun k hk => (this.2 k hk).mono r.up⟩
  · -- the objects
    intro n x hx'
    rcases hfrom n x hx' with ⟨h1, _⟩ | ⟨h1, h2⟩
    · obtain ⟨y, hy, hf⟩ := s.rel.obj n x h1
      have hd := L.dom n x h1
      refine ⟨y, by rw [(g1 n hd.1).1]; exact hy, hf.agree (g1 n hd.1) (fun k hk => g1 k (ids_of_sco hd.2 k hk))⟩
    · obtain ⟨y, hy, hf⟩ := I.obj n x h2
      have hd := I.dom n x h2
      refine ⟨y, ?_, hf.agree (g2 n hd.1) (fun k hk => g2 k (hd.2 k hk))⟩
      rw [(g2 n hd.1).1, ← hy]
      refine s.old _ (hblk n (ne_none h2)) fun m hm hdm hgm e => ?_
      have hmF := hLF m hgm
      have hmd : m ∈ (D i).g.dirty := hdm.elim (fun h => by rw [k2] at h; rw [k1] at hm; omega) id
      exact (I.inj m n (hXF m hmF) (ne_none h2) e).elim (fun e => h1 (e ▸ hmF)) fun h => (hro m hmF h.1).1 hmd
  · -- the temporaries
    intro t ht k hk
    rw [he t ht] at hk
    split at hk
    · exact hvout k hk
    · exact (I.env t ht k hk).mono r.up
  · -- what was there before
    intro b hb hc
    rw [← I.old b hb hc]
    refine s.old b (Nat.lt_of_lt_of_le hb I.size) fun m hm hdm hgm => ?_
    have hmF := hLF m hgm
    have hmd : m ∈ (D i).g.dirty := by
      rcases hdm with h | h
      · rw [k2] at h; rw [k1] at hm; omega
      · exact h
    have hown := T.own r.lt hon hmd
    rcases Nat.lt_or_ge m (HH 0).next with h | h
    · rw [I.ext.blk m h]
      exact hc m h hown (fun e => hXF m hmF (I.gone m h e))
    · rcases I.fresh m h (hXF m hmF) with h' | ⟨q, h1, h2, h3, h4⟩
      · omega
      · rw [h4]; exact hc q h1 h3 h2
  · -- what is new
    intro n hn hne
    obtain ⟨x, hx'⟩ := Option.ne_none_iff_exists'.1 hne
    rcases hfrom n x hx' with ⟨h1, h2⟩ | ⟨h1, h2⟩
    · rw [(g1 n (L.dom n x h1).1).1]
      rcases Nat.lt_or_ge n (HH i).next with hlt | hge
      · have hnF : n ∈ (D i).F := h2.elim id (fun h => by omega)
        rw [hext.blk n hlt]
        exact I.fresh n hn (hXF n hnF)
      · rcases hnew n x h1 hge with h | ⟨m, m1, m2, m3, m4⟩
        · exact .inl (Nat.le_trans I.size h)
        · rw [m4]
          have hown := T.own r.lt hon m2
          rcases Nat.lt_or_ge m (HH 0).next with h | h
          · exact .inr ⟨m, h, fun e => hXF m m1 (I.gone m h e), hown, I.ext.blk m h⟩
          · exact I.fresh m h (hXF m m1)
    · rw [(g2 n (I.dom n x h2).1).1]
      exact I.fresh n hn (ne_none h2)
  · -- what is gone
    intro n hn h0
    rw [hh]
    split
    · rename_i hw
      rcases hw.2 with h | h
      · exact absurd (I.gone n hn h0) (hXF n (L.W n h))
      · omega
    · exact I.gone n hn h0
  · -- the frame
    have hval : ρ1.val (D i).v = (ρ.mix ρ1 (HH i).next (D i).g.next).val (D i).v := (val_ids _ (fun k hk => g1 k (ids_of_scb _ L.v k hk))).symm
    have hmid : ρ.act (ax ops D (A 0) X ops.size) = (ρ.mix ρ1 (HH i).next (D i).g.next).act (ax ops D (A 0) X ops.size) := by
      obtain ⟨q1, q2⟩ := ax_n (ops := ops) (D := D) (a := A 0) (X := X) ops.size
      refine act_same _ _ rfl ?_ (fun t ht => ?_)
      · rw [q2]; exact dfr_agree T hext' I.ext
      · rw [q1] at ht
        exact (val_ids _ (fun k hk => g2 k (I.env t ht k hk))).symm
    rw [hmid, hval, act_put]
    obtain ⟨p1, p2⟩ := put_n (ax ops D (A 0) X ops.size) o.dst (D i).v
    obtain ⟨q1, q2⟩ := ax_n (ops := ops) (D := D) (a := A 0) (X := X) ops.size
    obtain ⟨s1, s2⟩ := ax_n (ops := ops) (D := D) (a := A 0) (X := X') ops.size
    refine act_same _ _ (by rw [p1, q1, s1]) (by rw [p2, q2, s2]) (fun t ht => ?_)
    rw [s1] at ht
    rw [put_get _ _ _ _ (by rw [q1]; exact ht), he t ht]

end
end Go.Ax

/- The abstract executor is sound: what it comes to, the model comes to, whatever the tape. -/
namespace Go.Ax
section
variable {P : Program} {ops : Array Oper} {D : Nat → OpD} {A : Nat → AAct} {HH : Nat → AHeap} {ρ0 : Ren} {w0 : World}

def listedX (l : Array Bool) (j : Nat) : Bool := l.getD j false

def left (m : Nat) (X : Nat → Bool) : Nat := ((List.range m).filter fun i => !X i).length

theorem mem_ready' {listed : Array Bool} {i : Nat} (hsz : listed.size = ops.size) (h : i ∈ Region.ready .any ops listed) : i < ops.size ∧ listedX listed i = false ∧ ∃ o, ops[i]? = some o ∧ ∀ e ∈ o.after, Region.binds .any e = true → listedX listed e.on = true := by
  obtain ⟨h1, o, h2, h3⟩ := mem_ready.1 h
  have hlt : i < ops.size := by
    rcases Nat.lt_or_ge i ops.size with h | h
    · exact h
    · simp [Array.getElem?_eq_none h] at h2
  refine ⟨hlt, ?_, o, h2, fun e he hb => h3 e he hb⟩
  have hl : i < listed.size := by omega
  simp only [listedX, Array.getD_eq_getD_getElem?, Array.getElem?_eq_getElem hl, Option.getD_some] at h1 ⊢
  exact h1

theorem ready_of {listed : Array Bool} {i : Nat} {o : Oper} (hsz : listed.size = ops.size) (hi : i < ops.size) (h1 : listedX listed i = false) (ho : ops[i]? = some o) (he : ∀ e ∈ o.after, Region.binds .any e = true → listedX listed e.on = true) : i ∈ Region.ready .any ops listed := by
  refine mem_ready.2 ⟨?_, o, ho, fun e h hb => he e h hb⟩
  have hl : i < listed.size := by omega
  simp only [listedX, Array.getD_eq_getD_getElem?, Array.getElem?_eq_getElem hl, Option.getD_some] at h1 ⊢
  exact h1

theorem all_run (T : Txt P ops D A HH ρ0 w0) {listed : Array Bool} (hsz : listed.size = ops.size) (h : Region.ready .any ops listed = []) : ∀ i, i < ops.size → listedX listed i = true := by
  intro i
  induction i using Nat.strongRecOn with
  | _ i ih =>
    intro hi
    cases hX : listedX listed i with
    | true => rfl
    | false =>
      obtain ⟨o, ho⟩ : ∃ o, ops[i]? = some o := ⟨ops[i], by simp [hi]⟩
      have : i ∈ Region.ready .any ops listed := ready_of hsz hi hX ho (fun e he hb => by
        have hlt := (T.stat i o ho).2 e he hb
        exact ih e.on hlt (by omega))
      rw [h] at this; cases this

theorem inv_end (T : Txt P ops D A HH ρ0 w0) {X : Nat → Bool} (hX : ∀ i, i < ops.size → X i = true) {ρ : Ren} {w : World} (I : Inv P ops D A HH ρ0 w0 X ρ w) :
    St P ρ0 (HH 0) w0 ρ (HH ops.size) w ∧ ρ.act (ax ops D (A 0) X ops.size) = ρ.act (A ops.size) := by
  have hh : ∀ n, hx D HH X ops.size n = (HH ops.size).get n := fun n => by
    rw [hx_congr (Y := fun _ => true) ops.size (fun j hj _ => hX j hj), T.hx_all ops.size (Nat.le_refl _)]
  obtain ⟨ρm, wm, hst, hsa⟩ := T.ex ops.size (Nat.le_refl _)
  refine ⟨⟨I.ext, hst.le, ⟨hst.rel.base, ⟨hst.rel.glob.1, I.glob⟩, fun a b ha hb => by rw [← hh, ← hh]; exact I.inj a b (by rw [hh]; exact ha) (by rw [hh]; exact hb), hst.rel.dom, fun n o ho => I.obj n o (by rw [hh]; exact ho)⟩, I.os, I.tape, I.output, I.size,
    fun b hb hc => I.old b hb hc, fun n hn hg => ?_, hst.ro⟩, ?_⟩
  · rcases I.fresh n hn (by rw [hh]; exact hg) with h | ⟨k, h1, h2, h3, h4⟩
    · exact .inl h
    · exact .inr ⟨k, h1, h2, h3, h4⟩
  · obtain ⟨q1, q2⟩ := ax_n (ops := ops) (D := D) (a := A 0) (X := X) ops.size
    obtain ⟨e1, e2⟩ := T.env_n (k := ops.size) (Nat.le_refl _)
    refine act_same _ _ (by rw [q1, e1]) (by rw [q2, e2]) (fun t ht => ?_)
    rw [e1] at ht
    rw [ax_congr (Y := fun _ => true) ht ops.size (fun j hj _ => hX j hj), T.ax_all ops.size (Nat.le_refl _)]

theorem inv_start (T : Txt P ops D A HH ρ0 w0) {X : Nat → Bool} (hX : ∀ i, X i = false) {w : World} (h1 : w.heap = w0.heap) (h2 : w.os = w0.os) (h3 : w.tape = w0.tape) (h4 : w.output = w0.output) :
    Inv P ops D A HH ρ0 w0 X ρ0 w ∧ ax ops D (A 0) X ops.size = A 0 := by
  have hh : ∀ k n, hx D HH X k n = (HH 0).get n := fun k n => by
    induction k with
    | zero => rfl
    | succ k ih => rw [hx, if_neg (fun h => by rw [hX] at h; cases h.1), ih]
  have ha : ∀ k, ax ops D (A 0) X k = A 0 := fun k => by
    induction k with
    | zero => rfl
    | succ k ih => rw [ax, if_neg (by rw [hX]; simp), ih]
  refine ⟨⟨T.rel.glob.2, fun a b ha' hb => by rw [hh ops.size, hh ops.size]; exact T.rel.inj a b (by rw [← hh ops.size]; exact ha') (by rw [← hh ops.size]; exact hb), fun n _ => hh ops.size n, fun n o ho => ?_, fun n o ho => by rw [h1]; exact T.rel.obj n o (by rw [← hh ops.size]; exact ho), fun t ht k hk => ?_, Ext.refl _ _, h2, h3, h4,
    by rw [h1]; exact Nat.le_refl _, fun b _ _ => by rw [h1], fun n hn hne => ?_, fun n _ h0 => by rw [hh]; exact h0⟩, ha ops.size⟩
  · have := T.rel.dom n o (by rw [← hh ops.size]; exact ho)
    exact ⟨.inl this.1, fun k hk => .inl (ids_of_sco this.2 k hk)⟩
  · rw [ha] at hk
    exact .inl (ids_of_scb _ (T.sc.1 t ht) k hk)
  · rw [hh] at hne
    exact absurd (T.rel.lt hne) (by omega)

theorem set_X {listed : Array Bool} {i : Nat} (hi : i < listed.size) (j : Nat) : listedX (listed.setIfInBounds i true) j = if j = i then true else listedX listed j := by
  unfold listedX
  rw [Array.getD_eq_getD_getElem?, Array.getD_eq_getD_getElem?, Array.getElem?_setIfInBounds]
  by_cases e : i = j
  · subst e; simp [hi]
  · rw [if_neg e, if_neg (fun h => e h.symm)]

theorem any_run (T : Txt P ops D A HH ρ0 w0) {F : Fence} {n : Nat} (hF : WideF F) {Q : Exit → Act → World → Prop}
    (hA : ∀ i, i < ops.size → (D i).bad = true → ∀ j, j < ops.size → j ≠ i → ((ancs ops).getD i 0).testBit j = true)
    (hB : ∀ i o, ops[i]? = some o → (D i).bad = true → ∀ (X X' : Nat → Bool) (ρ : Ren) (w : World), (∀ j, j < ops.size → j ≠ i → X j = true) → Ready ops X X' i o → Inv P ops D A HH ρ0 w0 X ρ w →
      Region.wanted o (yielded ops (ρ.act (ax ops D (A 0) X ops.size)).tmps) = true ∧ ∀ K : Act → World → Prop, (∀ act w', Q .normal act w' → K act w') → o.wpIn F n P (ρ.act (ax ops D (A 0) X ops.size)) w K Q)
    (hQ : (∀ i, i < ops.size → (D i).bad = false) → ∀ ρ1 w1, St P ρ0 (HH 0) w0 ρ1 (HH ops.size) w1 → Q .normal (ρ1.act (A ops.size)) w1) :
    ∀ (fuel : Nat) (listed : Array Bool) (ρ : Ren) (w : World), listed.size = ops.size → left ops.size (listedX listed) ≤ fuel → Closed ops (listedX listed) → (∀ i, listedX listed i = true → (D i).bad = false) → Inv P ops D A HH ρ0 w0 (listedX listed) ρ w →
      wpAnyIn F n P .any ops Q fuel listed (ρ.act (ax ops D (A 0) (listedX listed) ops.size)) w := by
  have hend : ∀ (listed : Array Bool) (ρ : Ren) (w : World), listed.size = ops.size → (∀ i, listedX listed i = true → (D i).bad = false) → Inv P ops D A HH ρ0 w0 (listedX listed) ρ w → Region.ready .any ops listed = [] → Q .normal (ρ.act (ax ops D (A 0) (listedX listed) ops.size)) w := by
    intro listed ρ w hsz hb I hr
    obtain ⟨h1, h2⟩ := inv_end T (all_run T hsz hr) I
    rw [h2]; exact hQ (fun i hi => hb i (all_run T hsz hr i hi)) ρ w h1
  intro fuel
  induction fuel with
  | zero =>
    intro listed ρ w hsz hl hc hb I
    have hr : Region.ready .any ops listed = [] := by
      cases e : Region.ready .any ops listed with
      | nil => rfl
      | cons i l =>
        obtain ⟨hi, hX, _⟩ := mem_ready' hsz (i := i) (by rw [e]; exact List.mem_cons_self ..)
        have : i ∈ (List.range ops.size).filter fun i => !listedX listed i := List.mem_filter.2 ⟨List.mem_range.2 hi, by rw [hX]; rfl⟩
        have h0 : (List.range ops.size).filter (fun i => !listedX listed i) = [] := List.eq_nil_of_length_eq_zero (by unfold left at hl; omega)
        rw [h0] at this; cases this
    exact ⟨hr, hend listed ρ w hsz hb I hr⟩
  | succ fuel ih =>
    intro listed ρ w hsz hl hc hb I
    refine ⟨fun hr => hend listed ρ w hsz hb I hr, fun i hi => ?_⟩
    obtain ⟨hlt, hX, o, ho, hedge⟩ := mem_ready' hsz hi
    have hset := set_X (listed := listed) (i := i) (by omega)
    have r : Ready ops (listedX listed) (listedX (listed.setIfInBounds i true)) i o :=
      ⟨hlt, ho, hX, by rw [hset]; simp, fun j hj => by rw [hset, if_neg hj], hedge, hc⟩
    have hsz' : (listed.setIfInBounds i true).size = ops.size := by simp [hsz]
    have hl' : left ops.size (listedX (listed.setIfInBounds i true)) ≤ fuel := by
      have := filt_lt (fun j => !listedX listed j) (fun j => !listedX (listed.setIfInBounds i true) j) (List.range ops.size) (fun j _ h => by
        simp only [Bool.not_eq_true'] at h ⊢
        cases e : listedX listed j with
        | false => rfl
        | true => have := r.up j e; rw [h] at this; cases this) i (List.mem_range.2 hlt) (by simp [hX]) (by simp [r.now])
      unfold left at hl ⊢
      omega
    have hc' : Closed ops (listedX (listed.setIfInBounds i true)) := by
      intro j oj hoj hXj e he hb
      by_cases hji : j = i
      · subst hji
        rw [ho] at hoj
        cases hoj
        exact r.up _ (hedge e he hb)
      · rw [r.rest j hji] at hXj
        exact r.up _ (hc j oj hoj hXj e he hb)
    unfold wpOpIn
    simp only [ho]
    cases hbi : (D i).bad with
    | true =>
      obtain ⟨hw, hk⟩ := hB i o ho hbi _ _ ρ w (fun j hj hne => T.anc_ready r.closed r.at_ r.edges r.lt (hA i hlt hbi j hj hne)) r I
      rw [hw]
      simp only [if_true]
      have hall : ∀ j, j < ops.size → listedX (listed.setIfInBounds i true) j = true := fun j hj => by
        by_cases e : j = i
        · rw [e]; exact r.now
        · rw [r.rest j e]; exact T.anc_ready r.closed r.at_ r.edges r.lt (hA i hlt hbi j hj e)
      have hr0 : Region.ready .any ops (listed.setIfInBounds i true) = [] := by
        cases e : Region.ready .any ops (listed.setIfInBounds i true) with
        | nil => rfl
        | cons j l =>
          obtain ⟨hj, hX, _⟩ := mem_ready' hsz' (i := j) (by rw [e]; exact List.mem_cons_self ..)
          rw [hall j hj] at hX; cases hX
      refine hk _ (fun act w' hq => ?_)
      cases fuel with
      | zero => exact ⟨hr0, hq⟩
      | succ fuel => exact ⟨fun _ => hq, fun i hi => by rw [hr0] at hi; cases hi⟩
    | false =>
    have hb' : ∀ j, listedX (listed.setIfInBounds i true) j = true → (D j).bad = false := fun j hj => by
      by_cases e : j = i
      · rw [e]; exact hbi
      · rw [r.rest j e] at hj; exact hb j hj
    rw [r.want T hbi ρ]
    cases hon : (D i).on with
    | false =>
      simp only [Bool.false_eq_true, if_false]
      obtain ⟨I', ha⟩ := r.off T hon I
      exact ⟨fun f _ => hF.fn f, by rw [ha]; exact ih _ ρ w hsz' hl' hc' hb' I'⟩
    | true =>
      simp only [if_true]
      obtain ⟨o', f1, f2, f3, f4, f5⟩ := T.fact i hlt
      rw [ho] at f1
      cases f1
      obtain ⟨_, _, _, hsa⟩ := T.ex i (by omega)
      refine (f4 hon).1 _ _ (r.rel T hon I) (by rw [(restrict_next _ _).1]; exact hsa) _ (r.evals T ρ) _ _ _ _ hF ?_
      intro ρ1 w1 s _
      obtain ⟨I', ha⟩ := r.on T hon I s
      rw [ha]
      exact ih _ _ w1 hsz' hl' hc' hb' I'

end

section
variable {P : Program} {ρ : Ren} {H : AHeap} {w : World}

theorem runDraw_run {rec : Rec} (hmix : P.follows .mixedOrders = true) (hrec : Sound P rec) {ops : Array Oper} {id : Nat} (hst : staticOk ops = true) {a a1 : AAct} {H1 : AHeap} (h : runDraw P rec ops (ancs ops) ops.toList 0 [] a H = some (a1, H1)) (r : Rel P ρ H w) (hs : scA H.next a)
    {F : Fence} {n : Nat} {Q : Exit → Act → World → Prop} (hF : WideF F) (hQ : ∀ ρ1 w1, St P ρ H w ρ1 H1 w1 → scA H1.next a1 → Q .normal (ρ1.act a1) w1) : (Code.region id ops true).wpIn F n P Q (ρ.act a) w := by
  obtain ⟨D, A, HH, e1, e2, e3, e4, f1, f2, _, hnb⟩ := runDraw_text hrec ops.toList 0 [] a H a1 H1 ⟨[], by simp⟩ h
  simp only [Nat.zero_add, Array.length_toList] at e3 e4 f1 f2
  have hfact : ∀ i, i < ops.size → OpFact P ops D A HH i := fun i hi => f1 i (Nat.zero_le _) hi
  have hex := text_ex r (ops := ops) (D := D) (A := A) (HH := HH) (m := ops.size) e2 (by rw [e1]; exact hs) hfact
  have T : Txt P ops D A HH ρ w := by
    refine ⟨by rw [e2]; exact r, by rw [e2, e1]; exact hs, hfact, fun i j hij hj hi => f2 i j (Nat.zero_le _) hij hj hi, fun j oj hoj => static_spec ops.toList 0 (by simp) hst j oj (Nat.zero_le _) hoj, ?_⟩
    rw [e2]; exact hex
  obtain ⟨ρm, wm, hstm, hsa⟩ := hex ops.size (Nat.le_refl _)
  rw [e3, e4] at hsa
  refine wpIn_region_any hmix ?_
  have hX0 : ∀ j, listedX (Array.replicate ops.size false) j = false := fun j => by
    unfold listedX
    rw [Array.getD_eq_getD_getElem?, Array.getElem?_replicate]
    split <;> rfl
  obtain ⟨I, ha⟩ := inv_start (w := { w with drawn := w.drawn + 1 }) T hX0 rfl rfl rfl rfl
  have := any_run T (n := n) hF (Q := Q) (fun i hi h => by rw [hnb] at h; cases h) (fun i o hi h => by rw [hnb] at h; cases h) (fun _ ρ1 w1 h1 => by
    rw [e2, e4] at h1
    rw [e3]
    exact hQ ρ1 w1 h1 hsa) ops.size (Array.replicate ops.size false) ρ _ (by simp) (by unfold left; exact Nat.le_trans (List.length_filter_le _ _) (by simp)) (fun j oj _ hX => by rw [hX0] at hX; cases hX) (fun j _ => hnb j) I
  rw [ha, e1] at this
  exact this

theorem panic_core (hmix : P.follows .mixedOrders = true) {ops : Array Oper} {id : Nat} (hst : staticOk ops = true) {a a2 : AAct} {ch : List PanicEntry} {H2 H3 : AHeap} {l : List Oper} {o : Oper} (hsplit : ops.toList = l ++ [o])
    (hanc : (List.range (ops.size - 1)).all (fun j => ((ancs ops).getD (ops.size - 1) 0).testBit j) = true) {D0 : Nat → OpD} {A0 : Nat → AAct} {HH0 : Nat → AHeap} (e1 : A0 0 = a) (e2 : HH0 0 = H) (e3 : A0 (0 + l.length) = a2) (e4 : HH0 (0 + l.length) = H2)
    (f1 : ∀ i, 0 ≤ i → i < 0 + l.length → OpFact P ops D0 A0 HH0 i) (f2 : ∀ i j, 0 ≤ i → i < j → j < 0 + l.length → (D0 i).on = true → PairFact (ancs ops) D0 HH0 j (fpAt D0 HH0 i)) (hnb : ∀ i, (D0 i).bad = false)
    (hwant : wantA ops a2 o = some true) (hop : OpS P a2 H2 o (.error ch) H3) (r : Rel P ρ H w) (hs : scA H.next a)
    {F : Fence} {n : Nat} {Q : Exit → Act → World → Prop} (hF : WideF F) (hQ : ∀ ρ1 w1, St P ρ H w ρ1 H3 w1 → scA H3.next a2 → scX H3.next (.panic ch) → Q (ρ1.exit (.panic ch)) (ρ1.act a2) w1) : (Code.region id ops true).wpIn F n P Q (ρ.act a) w := by
  have hsz : ops.size = l.length + 1 := by
    rw [← Array.length_toList]
    conv => lhs; rw [hsplit]
    simp
  obtain ⟨m, hm⟩ : ∃ m, l.length = m := ⟨_, rfl⟩
  rw [hm] at hsz e3 e4 f1 f2
  simp only [Nat.zero_add] at e3 e4 f1 f2
  have hom : ops[m]? = some o := by
    rw [← Array.getElem?_toList, hsplit, List.getElem?_append_right (by omega), hm]
    simp
  have hD : ∀ i, i ≠ m → (fun i => if i = m then (⟨false, undef, [], H2, true⟩ : OpD) else D0 i) i = D0 i := fun i h => if_neg h
  obtain ⟨D, hDe⟩ : ∃ D : Nat → OpD, D = fun i => if i = m then ⟨false, undef, [], H2, true⟩ else D0 i := ⟨_, rfl⟩
  obtain ⟨A, hAe⟩ : ∃ A : Nat → AAct, A = fun i => if i = m + 1 then a2.put o.dst undef else A0 i := ⟨_, rfl⟩
  obtain ⟨HH, hHe⟩ : ∃ HH : Nat → AHeap, HH = fun i => if i = m + 1 then H2 else HH0 i := ⟨_, rfl⟩
  have dm : D m = ⟨false, undef, [], H2, true⟩ := by rw [hDe]; simp
  have dn : ∀ i, i ≠ m → D i = D0 i := fun i h => by rw [hDe]; simp [h]
  have am : A (m + 1) = a2.put o.dst undef := by rw [hAe]; simp
  have an : ∀ i, i ≠ m + 1 → A i = A0 i := fun i h => by rw [hAe]; simp [h]
  have xm : HH (m + 1) = H2 := by rw [hHe]; simp
  have xn : ∀ i, i ≠ m + 1 → HH i = HH0 i := fun i h => by rw [hHe]; simp [h]
  clear hD hDe hAe hHe
  have am0 : A m = a2 := by rw [an m (by omega)]; exact e3
  have xm0 : HH m = H2 := by rw [xn m (by omega)]; exact e4
  have a00 : A 0 = a := by rw [an 0 (by omega)]; exact e1
  have x00 : HH 0 = H := by rw [xn 0 (by omega)]; exact e2
  have hfact : ∀ i, i < ops.size → OpFact P ops D A HH i := fun i hi => by
    by_cases e : i = m
    · subst e
      exact ⟨o, hom, by rw [am, am0, dm], fun h => (by rw [dm] at h; cases h), fun h => (by rw [dm] at h; cases h), fun _ => ⟨by rw [dm], by rw [xm, xm0]⟩⟩
    · obtain ⟨o', g1, g2, g3, g4, g5⟩ := f1 i (Nat.zero_le _) (by omega)
      refine ⟨o', g1, ?_, ?_, ?_, ?_⟩
      · rw [an _ (by omega), an _ (by omega), dn i e]; exact g2
      · rw [an _ (by omega), dn i e]; exact g3
      · rw [an _ (by omega), dn i e, xn _ (by omega), xn _ (by omega)]; exact g4
      · rw [dn i e, xn _ (by omega), xn _ (by omega)]; exact g5
  have hex := text_ex r (ops := ops) (D := D) (A := A) (HH := HH) (m := ops.size) x00 (by rw [a00]; exact hs) hfact
  have T : Txt P ops D A HH ρ w := by
    refine ⟨by rw [x00]; exact r, by rw [x00, a00]; exact hs, hfact, fun i j hij hj hi => ?_, fun j oj hoj => static_spec ops.toList 0 (by simp) hst j oj (Nat.zero_le _) hoj, ?_⟩
    · by_cases e : j = m
      · intro h; rw [e, dm] at h; cases h
      · have := f2 i j (Nat.zero_le _) hij (by omega) (by rw [← dn i (by omega)]; exact hi)
        simp only [PairFact, fpAt, dn j e, dn i (by omega), xn i (by omega), xn j (by omega)] at this ⊢
        exact this
    · rw [x00]; exact hex
  obtain ⟨ρm, wm, hstm, hsa⟩ := hex m (by omega)
  rw [am0, xm0] at hsa
  have hsx : HH ops.size = H2 := by rw [hsz, xm]
  refine wpIn_region_any hmix ?_
  have hX0 : ∀ j, listedX (Array.replicate ops.size false) j = false := fun j => by
    unfold listedX
    rw [Array.getD_eq_getD_getElem?, Array.getElem?_replicate]
    split <;> rfl
  obtain ⟨I, ha⟩ := inv_start (w := { w with drawn := w.drawn + 1 }) T hX0 rfl rfl rfl rfl
  have hbm : ∀ i, (D i).bad = true → i = m := fun i h => by
    by_cases e : i = m
    · exact e
    · rw [dn i e, hnb] at h; cases h
  have := any_run T (n := n) hF (Q := Q) (fun i hi h j hj hne => ?_) (fun i o' ho' h X X' ρ1 w1 hX r' I => ?_) (fun hall => by have := hall m (by omega); rw [dm] at this; cases this) ops.size (Array.replicate ops.size false) ρ _ (by simp) (by unfold left; exact Nat.le_trans (List.length_filter_le _ _) (by simp)) (fun j oj _ hX => by rw [hX0] at hX; cases hX) (fun j hj => by rw [hX0] at hj; cases hj) I
  · rw [ha, a00] at this
    exact this
  · obtain rfl := hbm i h
    have := List.all_eq_true.1 hanc j (List.mem_range.2 (by omega))
    rw [show ops.size - 1 = i by omega] at this
    exact this
  · obtain rfl := hbm i h
    rw [hom] at ho'
    obtain rfl := Option.some.inj ho'
    obtain ⟨I', _⟩ := r'.off T (by rw [dm]) I
    obtain ⟨hst1, _⟩ := inv_end T (fun j hj => by
      by_cases e : j = i
      · rw [e]; exact r'.now
      · rw [r'.rest j e]; exact hX j hj e) I'
    rw [x00, hsx] at hst1
    have hact : ρ1.act (ax ops D (A 0) X ops.size) = ρ1.act a2 := by
      rw [← am0]
      obtain ⟨q1, q2⟩ := ax_n (ops := ops) (D := D) (a := A 0) (X := X) ops.size
      obtain ⟨z1, z2⟩ := T.env_n (k := i) (by omega)
      refine act_same _ _ (by rw [q1, z1]) (by rw [q2, z2]) (fun t ht => ?_)
      rw [z1] at ht
      rw [ax_congr (Y := fun j => decide (j < i)) ht ops.size (fun j hj _ => ?_), ax_upto ht ops.size (by omega), T.ax_all i (by omega)]
      by_cases e : j = i
      · rw [e, r'.not]; simp
      · rw [hX j hj e]; exact (decide_eq_true (by omega)).symm
    rw [hact]
    refine ⟨want_run ρ1 hwant, fun K _ => hop ρ1 w1 hst1.rel hsa (ρ1.act a2) (fun _ _ => rfl) F n K Q hF (fun ρ2 w2 hst2 hp => ?_)⟩
    have := hQ ρ2 w2 (hst1.trans hst2) (hsa.mono hst2.le.next) hp
    rw [act_ext hst2.ext hsa] at this
    exact this

theorem last_core (hmix : P.follows .mixedOrders = true) {ops : Array Oper} {id : Nat} (hst : staticOk ops = true) {a a2 : AAct} {v : Value} {H2 H3 : AHeap} {l : List Oper} {o : Oper} (hsplit : ops.toList = l ++ [o])
    (hanc : (List.range (ops.size - 1)).all (fun j => ((ancs ops).getD (ops.size - 1) 0).testBit j) = true) {D0 : Nat → OpD} {A0 : Nat → AAct} {HH0 : Nat → AHeap} (e1 : A0 0 = a) (e2 : HH0 0 = H) (e3 : A0 (0 + l.length) = a2) (e4 : HH0 (0 + l.length) = H2)
    (f1 : ∀ i, 0 ≤ i → i < 0 + l.length → OpFact P ops D0 A0 HH0 i) (f2 : ∀ i j, 0 ≤ i → i < j → j < 0 + l.length → (D0 i).on = true → PairFact (ancs ops) D0 HH0 j (fpAt D0 HH0 i)) (hnb : ∀ i, (D0 i).bad = false)
    (hwant : wantA ops a2 o = some true) (hop : OpS P a2 H2 o (.ok v) H3) (r : Rel P ρ H w) (hs : scA H.next a)
    {F : Fence} {n : Nat} {Q : Exit → Act → World → Prop} (hF : WideF F) (hQ : ∀ ρ1 w1, St P ρ H w ρ1 H3 w1 → scA H3.next (a2.put o.dst v) → Q .normal (ρ1.act (a2.put o.dst v)) w1) : (Code.region id ops true).wpIn F n P Q (ρ.act a) w := by
  have hsz : ops.size = l.length + 1 := by
    rw [← Array.length_toList]
    conv => lhs; rw [hsplit]
    simp
  obtain ⟨m, hm⟩ : ∃ m, l.length = m := ⟨_, rfl⟩
  rw [hm] at hsz e3 e4 f1 f2
  simp only [Nat.zero_add] at e3 e4 f1 f2
  have hom : ops[m]? = some o := by
    rw [← Array.getElem?_toList, hsplit, List.getElem?_append_right (by omega), hm]
    simp
  have hD : ∀ i, i ≠ m → (fun i => if i = m then (⟨false, undef, [], H2, true⟩ : OpD) else D0 i) i = D0 i := fun i h => if_neg h
  obtain ⟨D, hDe⟩ : ∃ D : Nat → OpD, D = fun i => if i = m then ⟨false, undef, [], H2, true⟩ else D0 i := ⟨_, rfl⟩
  obtain ⟨A, hAe⟩ : ∃ A : Nat → AAct, A = fun i => if i = m + 1 then a2.put o.dst undef else A0 i := ⟨_, rfl⟩
  obtain ⟨HH, hHe⟩ : ∃ HH : Nat → AHeap, HH = fun i => if i = m + 1 then H2 else HH0 i := ⟨_, rfl⟩
  have dm : D m = ⟨false, undef, [], H2, true⟩ := by rw [hDe]; simp
  have dn : ∀ i, i ≠ m → D i = D0 i := fun i h => by rw [hDe]; simp [h]
  have am : A (m + 1) = a2.put o.dst undef := by rw [hAe]; simp
  have an : ∀ i, i ≠ m + 1 → A i = A0 i := fun i h => by rw [hAe]; simp [h]
  have xm : HH (m + 1) = H2 := by rw [hHe]; simp
  have xn : ∀ i, i ≠ m + 1 → HH i = HH0 i := fun i h => by rw [hHe]; simp [h]
  clear hD hDe hAe hHe
  have am0 : A m = a2 := by rw [an m (by omega)]; exact e3
  have xm0 : HH m = H2 := by rw [xn m (by omega)]; exact e4
  have a00 : A 0 = a := by rw [an 0 (by omega)]; exact e1
  have x00 : HH 0 = H := by rw [xn 0 (by omega)]; exact e2
  have hfact : ∀ i, i < ops.size → OpFact P ops D A HH i := fun i hi => by
    by_cases e : i = m
    · subst e
      exact ⟨o, hom, by rw [am, am0, dm], fun h => (by rw [dm] at h; cases h), fun h => (by rw [dm] at h; cases h), fun _ => ⟨by rw [dm], by rw [xm, xm0]⟩⟩
    · obtain ⟨o', g1, g2, g3, g4, g5⟩ := f1 i (Nat.zero_le _) (by omega)
      refine ⟨o', g1, ?_, ?_, ?_, ?_⟩
      · rw [an _ (by omega), an _ (by omega), dn i e]; exact g2
      · rw [an _ (by omega), dn i e]; exact g3
      · rw [an _ (by omega), dn i e, xn _ (by omega), xn _ (by omega)]; exact g4
      · rw [dn i e, xn _ (by omega), xn _ (by omega)]; exact g5
  have hex := text_ex r (ops := ops) (D := D) (A := A) (HH := HH) (m := ops.size) x00 (by rw [a00]; exact hs) hfact
  have T : Txt P ops D A HH ρ w := by
    refine ⟨by rw [x00]; exact r, by rw [x00, a00]; exact hs, hfact, fun i j hij hj hi => ?_, fun j oj hoj => static_spec ops.toList 0 (by simp) hst j oj (Nat.zero_le _) hoj, ?_⟩
    · by_cases e : j = m
      · intro h; rw [e, dm] at h; cases h
      · have := f2 i j (Nat.zero_le _) hij (by omega) (by rw [← dn i (by omega)]; exact hi)
        simp only [PairFact, fpAt, dn j e, dn i (by omega), xn i (by omega), xn j (by omega)] at this ⊢
        exact this
    · rw [x00]; exact hex
  obtain ⟨ρm, wm, hstm, hsa⟩ := hex m (by omega)
  rw [am0, xm0] at hsa
  have hsx : HH ops.size = H2 := by rw [hsz, xm]
  refine wpIn_region_any hmix ?_
  have hX0 : ∀ j, listedX (Array.replicate ops.size false) j = false := fun j => by
    unfold listedX
    rw [Array.getD_eq_getD_getElem?, Array.getElem?_replicate]
    split <;> rfl
  obtain ⟨I, ha⟩ := inv_start (w := { w with drawn := w.drawn + 1 }) T hX0 rfl rfl rfl rfl
  have hbm : ∀ i, (D i).bad = true → i = m := fun i h => by
    by_cases e : i = m
    · exact e
    · rw [dn i e, hnb] at h; cases h
  have := any_run T (n := n) hF (Q := Q) (fun i hi h j hj hne => ?_) (fun i o' ho' h X X' ρ1 w1 hX r' I => ?_) (fun hall => by have := hall m (by omega); rw [dm] at this; cases this) ops.size (Array.replicate ops.size false) ρ _ (by simp) (by unfold left; exact Nat.le_trans (List.length_filter_le _ _) (by simp)) (fun j oj _ hX => by rw [hX0] at hX; cases hX) (fun j hj => by rw [hX0] at hj; cases hj) I
  · rw [ha, a00] at this
    exact this
  · obtain rfl := hbm i h
    have := List.all_eq_true.1 hanc j (List.mem_range.2 (by omega))
    rw [show ops.size - 1 = i by omega] at this
    exact this
  · obtain rfl := hbm i h
    rw [hom] at ho'
    obtain rfl := Option.some.inj ho'
    obtain ⟨I', _⟩ := r'.off T (by rw [dm]) I
    obtain ⟨hst1, _⟩ := inv_end T (fun j hj => by
      by_cases e : j = i
      · rw [e]; exact r'.now
      · rw [r'.rest j e]; exact hX j hj e) I'
    rw [x00, hsx] at hst1
    have hact : ρ1.act (ax ops D (A 0) X ops.size) = ρ1.act a2 := by
      rw [← am0]
      obtain ⟨q1, q2⟩ := ax_n (ops := ops) (D := D) (a := A 0) (X := X) ops.size
      obtain ⟨z1, z2⟩ := T.env_n (k := i) (by omega)
      refine act_same _ _ (by rw [q1, z1]) (by rw [q2, z2]) (fun t ht => ?_)
      rw [z1] at ht
      rw [ax_congr (Y := fun j => decide (j < i)) ht ops.size (fun j hj _ => ?_), ax_upto ht ops.size (by omega), T.ax_all i (by omega)]
      by_cases e : j = i
      · rw [e, r'.not]; simp
      · rw [hX j hj e]; exact (decide_eq_true (by omega)).symm
    rw [hact]
    refine ⟨want_run ρ1 hwant, fun K hK => hop ρ1 w1 hst1.rel hsa (ρ1.act a2) (fun _ _ => rfl) F n K Q hF (fun ρ2 w2 hst2 hp => ?_)⟩
    rw [← act_ext hst2.ext hsa, act_put]
    exact hK _ _ (hQ ρ2 w2 (hst1.trans hst2) ((hsa.mono hst2.le.next).put _ hp))

theorem drawPanic_run {rec : Rec} (hmix : P.follows .mixedOrders = true) (hrec : Sound P rec) {ops : Array Oper} {id : Nat} (hst : staticOk ops = true) {a a1 : AAct} {e : Exit} {H1 : AHeap} (h : drawPanic P rec ops a H = some (e, a1, H1)) (r : Rel P ρ H w) (hs : scA H.next a)
    {F : Fence} {n : Nat} {Q : Exit → Act → World → Prop} (hF : WideF F) (hQ : ∀ ρ1 w1, St P ρ H w ρ1 H1 w1 → scA H1.next a1 → scX H1.next e → Q (ρ1.exit e) (ρ1.act a1) w1) : (Code.region id ops true).wpIn F n P Q (ρ.act a) w := by
  unfold drawPanic at h
  split at h
  · rename_i o a2 H2 hlast hrun
    split at h
    · rename_i hanc
      split at h
      · rename_i ch H3 hwant hop
        simp only [Option.some.injEq, Prod.mk.injEq] at h
        obtain ⟨rfl, rfl, rfl⟩ := h
        have hsplit : ops.toList = ops.toList.dropLast ++ [o] := by
          obtain ⟨ys, hys⟩ := List.getLast?_eq_some_iff.1 hlast
          rw [hys, List.dropLast_concat]
        obtain ⟨D0, A0, HH0, e1, e2, e3, e4, f1, f2, _, hnb⟩ := runDraw_text hrec ops.toList.dropLast 0 [] a H a2 H2 ⟨[o], by simpa using hsplit⟩ hrun
        exact panic_core hmix hst hsplit hanc e1 e2 e3 e4 f1 f2 hnb hwant (opF_opS hrec hop) r hs hF hQ
      · cases h
    · cases h
  · cases h

theorem rangeG_run {rec : Rec} (hrec : Sound P rec) {ro : Option Nat} {g : Operand} {fv : Value} {ps : Array Tmp} {assign body : Code} {a a1 : AAct} {e : Exit} {H1 : AHeap} (hg : aeval P a g = some fv)
    (h : rangeG P rec ro fv ps assign body a H = some (e, a1, H1)) (r : Rel P ρ H w) (hs : scA H.next a) (hro : ∀ l, ro = some l → l < H.next)
    {F : Fence} {n : Nat} {Q : Exit → Act → World → Prop} (hF : WideF F) (hFr : F.round = ro.map ρ.blk) (hQ : ∀ ρ1 w1, St P ρ H w ρ1 H1 w1 → scA H1.next a1 → scX H1.next e → Q (ρ1.exit e) (ρ1.act a1) w1) :
    (Code.rangeFunc g ps assign body).wpIn F n P Q (ρ.act a) w := by
  unfold rangeG at h
  split at h
  · rename_i fn first captured
    simp only [Option.bind_eq_bind, Option.bind_eq_some_iff] at h
    obtain ⟨⟨l, mark, H2⟩, hen, res, hres, h⟩ := h
    simp only at hres h
    split at h
    · rename_i f args
      simp only [Option.bind_eq_some_iff] at h
      obtain ⟨⟨out, H3⟩, hcall, haft⟩ := h
      refine wpIn_rangeFunc (fun fnid _ => ?_)
      obtain ⟨ρ1, w1, s1, hrun, hl, hmk⟩ := enterLoop_run r hro hs.1 hen fnid
      obtain ⟨ρ2, w2, s2, hinv⟩ := aInvoke_run s1.rel hres
      have hfsc := aeval_sc r.glob.1 hs hg
      have hf2 := func_sc (scb_mono s1.le.next _ hfsc)
      have hsargs : scbL H2.next args = true := aInvoke_sc s1.rel.doms hf2.1 (scbL_append hf2.2.1 (by simp only [scbL, scb, scbA, Bool.and_true]; exact blt_of hl)) hf2.2.2 hres
      have hfv : (ρ.act a).eval g = ρ1.val (.func fn first captured) := by rw [aeval_run r hg, val_ext s1.ext _ hfsc]
      have e1 : ρ1.val (.func fn first captured) = .func (ρ1.fn fn) (first.map ρ1.val) (captured.map ρ1.val) := by rw [Ren.val, Ren.valA_eq, Ren.valA_eq]
      have e2 : first.map ρ1.val ++ #[(.func (.yield (ρ1.blk l)) #[] #[] : Value)] = ((first.toList ++ [(.func (.yield l) #[] #[] : Value)]).map ρ1.val).toArray := by
        apply Array.ext'
        simp [Ren.val, Ren.fn, Ren.valA, Ren.valL]
      have e3 : captured.map ρ1.val = (captured.toList.map ρ1.val).toArray := by apply Array.ext'; simp
      simp only [NRun] at hinv
      have hs1 : scA H2.next a := hs.mono s1.le.next
      have hs2 : scA H2.next { a with defers := mark ++ a.defers } := ⟨hs1.1, fun d hd => by
        rcases List.mem_append.1 hd with hd | hd
        · exact hmk d hd
        · exact hs1.2 d hd⟩
      have hsame : ({ ρ.act a with defers := mark.map ρ1.dfr ++ (ρ.act a).defers } : Act) = ρ1.act { a with defers := mark ++ a.defers } := by
        have h1 := act_ext s1.ext hs
        have h2 : (ρ.act a).tmps = ρ1.tmps a.env := by rw [← h1]; rfl
        have h3 : (ρ.act a).defers = a.defers.map ρ1.dfr := by rw [← h1]; rfl
        show (⟨(ρ.act a).tmps, mark.map ρ1.dfr ++ (ρ.act a).defers⟩ : Act) = ⟨ρ1.tmps a.env, (mark ++ a.defers).map ρ1.dfr⟩
        rw [h2, h3, List.map_append]
      refine ⟨ρ1.blk l, mark.map ρ1.dfr, w1, { target := .fn (ρ1.fn fn) (captured.map ρ1.val), args := first.map ρ1.val ++ #[(.func (.yield (ρ1.blk l)) #[] #[] : Value)] }, w1, f, _, w2, ?_, ?_, fun f' _ => hF.fn f', ?_, hF.deep, callF_run hrec s2.rel hcall hsargs hF ?_⟩
      · rw [hFr]; exact hrun
      · simp only [resolve, rangeCall, hfv, e1]
        simp [Act.eval, Deferred.ofValue]
      · simp only [e2, e3]; exact hinv
      · intro ρ3 w3 s3
        have hn2 : H2.next ≤ H3.next := (s2.trans s3).le.next
        have hl3 : l < H3.next := by omega
        have hlb : ρ3.blk l = ρ1.blk l := ((s2.trans s3).ext.blk l hl)
        have hs3 : scA H3.next { a with defers := mark ++ a.defers } := hs2.mono hn2
        have hact3 : ρ3.act { a with defers := mark ++ a.defers } = ρ1.act { a with defers := mark ++ a.defers } := act_ext (s2.trans s3).ext hs2
        have stot := (s1.trans s2).trans s3
        cases out with
        | ok v =>
          simp only [afterRange, Option.bind_eq_bind, Option.bind_eq_some_iff] at haft
          obtain ⟨⟨lp, le⟩, hlp, haft⟩ := haft
          simp only at haft
          have hnb : lp.state ≠ .busy := by intro hb; rw [hb] at haft; cases haft
          obtain ⟨fn3, hgl, w4, hset, s4⟩ := setLoop_run s3.rel (lp' := { lp with state := .exhausted }) hlp rfl
          rw [hlb] at hgl hset
          have hn4 : (setLoop H3 l { lp with state := .exhausted } le).next = H3.next := rfl
          have hendl : (Instr.endLoop (ρ1.blk l)).run P w3 = .ok lp.pending w4 := by
            have hb : (lp.state == .busy) = false := by simpa using hnb
            simp only [Instr.endLoop, Sem.run_bind, hgl, Result.andThen_ok, hb, Bool.false_eq_true, if_false]
            rw [show ({ ({ lp with fn := fn3, tmps := ρ3.tmps le, defers := ρ3.blk lp.defers } : Loop) with state := .exhausted } : Loop) =
              { ({ lp with state := .exhausted } : Loop) with fn := fn3, tmps := ρ3.tmps le, defers := ρ3.blk lp.defers } from rfl, hset]
            simp
          intro _
          refine ⟨lp.pending, w4, hendl, ?_⟩
          rw [hsame, ← hact3]
          have hcase : (match lp.pending with
              | none => some (Exit.normal, ({ a with defers := mark ++ a.defers } : AAct), setLoop H3 l { lp with state := .exhausted } le)
              | some c => rec.run ro c { a with defers := mark ++ a.defers } (setLoop H3 l { lp with state := .exhausted } le)) = some (e, a1, H1) := by
            cases hst : lp.state with
            | busy => exact absurd hst hnb
            | ready => rw [hst] at haft; exact haft
            | done => rw [hst] at haft; exact haft
            | exhausted => rw [hst] at haft; exact haft
          generalize setLoop H3 l { lp with state := .exhausted } le = H4 at s4 hn4 hcase
          split
          · rename_i hp
            rw [hp] at hcase
            simp only [Option.some.injEq, Prod.mk.injEq] at hcase
            obtain ⟨rfl, rfl, rfl⟩ := hcase
            exact hQ ρ3 w4 (stot.trans s4) (hs3.mono (Nat.le_of_eq hn4.symm)) trivial
          · rename_i c hp
            rw [hp] at hcase
            have hro4 : ∀ l0, ro = some l0 → l0 < H4.next := fun l0 h0 => by
              rw [hn4]; exact Nat.lt_of_lt_of_le (hro l0 h0) stot.le.next
            have hFr4 : F.round = ro.map ρ3.blk := by
              rw [hFr]
              cases ro with
              | none => rfl
              | some l0 => simp only [Option.map_some]; rw [stot.ext.blk l0 (hro l0 rfl)]
            refine hrec.run ro c _ _ e a1 H1 hcase ρ3 w4 F n Q hF hFr4 hro4 s4.rel (hs3.mono (Nat.le_of_eq hn4.symm)) ?_
            intro ρ5 w5 s5 h1 h2
            exact hQ ρ5 w5 ((stot.trans s4).trans s5) h1 h2
        | error ch =>
          intro hch
          simp only [afterRange, Option.some.injEq, Prod.mk.injEq] at haft
          obtain ⟨rfl, rfl, rfl⟩ := haft
          show Q (.panic (ch.map ρ3.pe)) _ w3
          rw [hsame, ← hact3]
          exact hQ ρ3 w3 stot hs3 hch
    · cases h
  · cases h

theorem stepR_scope {b : Frame} {a : Act} {k : List Item} {cs : List Frame} {c : Code} : Go.step P (lone (b.atR a (.code (.scope c) :: k)) cs w) = .next (lone (b.atR a (.code c :: .inScope c :: k)) cs w) :=
  step_lone_go (by simp [stepG, stepG.exec, Frame.atR])
theorem stepR_inScope {b : Frame} {a : Act} {k : List Item} {cs : List Frame} {c : Code} : Go.step P (lone (b.atR a (.inScope c :: k)) cs w) = .next (lone (b.atR a k) cs w) :=
  step_lone_go (by simp [stepG, stepG.exec, Frame.atR])

theorem wpIn_scope {F : Fence} {n : Nat} {Q : Exit → Act → World → Prop} {a : Act} {c : Code} (h : c.wpIn F n P (Exit.noGoto Q) a w) : (Code.scope c).wpIn F n P Q a w := by
  intro b k cs hro hb hr
  have h0 : (lone (b.atR a (.code (.scope c) :: k)) cs w).fenced P F := fenced_calm hb hr rfl
  obtain ⟨e, a₁, w₁, hq, harr⟩ := h b (.inScope c :: k) cs hro hb hr
  cases e with
  | normal => exact ⟨.normal, a₁, w₁, hq, .head h0 stepR_scope (StepsIn.trans harr (.one (fenced_calm hb hr rfl) stepR_inScope))⟩
  | exit id =>
    have hx : exitTo id (.inScope c :: k) = exitTo id k := by simp [exitTo]
    exact ⟨.exit id, a₁, w₁, hq, fun k' hk => .head h0 stepR_scope (harr.1 k' (by rw [hx]; exact hk)),
        fun hr' hk => let ⟨k₁, h1, h2⟩ := harr.2 hr' (by rw [hx]; exact hk); ⟨k₁, h1, .head h0 stepR_scope h2⟩⟩
  | goto l => exact hq.elim
  | ret => exact ⟨_, a₁, w₁, hq, .of_steps (.one h0 stepR_scope) harr⟩
  | panic ch => exact ⟨_, a₁, w₁, hq, .of_steps (.one h0 stepR_scope) harr⟩
  | outgrown => exact ⟨_, a₁, w₁, hq, .of_steps (.one h0 stepR_scope) harr⟩

def LoopSound (P : Program) (rec : Rec) (m : Nat) : Prop :=
  ∀ (ro : Option Nat) (b : Code) (a : AAct) (H : AHeap) (e : Exit) (a1 : AAct) (H1 : AHeap), rec.run ro (.loop b) a H = some (e, a1, H1) →
    ∀ (ρ : Ren) (w : World) (F : Fence) (n : Nat) (Q : Exit → Act → World → Prop), WideF F → F.round = ro.map ρ.blk → (∀ l, ro = some l → l < H.next) → Rel P ρ H w → scA H.next a →
      (∀ ρ1 w1, St P ρ H w ρ1 H1 w1 → scA H1.next a1 → scX H1.next e → Q (ρ1.exit e) (ρ1.act a1) w1) → Code.roundsIn F n P b Q m (ρ.act a) w

theorem loop_sound {rec : Rec} (hrec : Sound P rec) {m : Nat} (hl : LoopSound P rec m) : LoopSound P ⟨fun ro c a H => step c P rec ro a H, rec.know⟩ (m + 1) := by
  intro ro b a H e a1 H1 h ρ w F n Q hF hFr hro r hs hQ
  simp only [step, stLoop] at h
  rw [roundsIn_succ]
  split at h
  · rename_i a2 H2 hx
    refine hrec.run ro b a H .normal a2 H2 hx ρ w F n _ hF hFr hro r hs ?_
    intro ρ1 w1 s1 h1 _
    have hFr1 : F.round = ro.map ρ1.blk := by
      rw [hFr]
      cases ro with
      | none => rfl
      | some l0 => simp only [Option.map_some]; rw [s1.ext.blk l0 (hro l0 rfl)]
    refine hl ro b a2 H2 e a1 H1 h ρ1 w1 F n Q hF hFr1 (fun l hl => Nat.lt_of_lt_of_le (hro l hl) s1.le.next) s1.rel h1 ?_
    intro ρ2 w2 s2 h2 h3
    exact hQ ρ2 w2 (s1.trans s2) h2 h3
  · rename_i hne
    refine hrec.run ro b a H e a1 H1 h ρ w F n _ hF hFr hro r hs ?_
    intro ρ1 w1 s1 h1 h2
    have := hQ ρ1 w1 s1 h1 h2
    cases e with
    | normal => exact absurd h (hne a1 H1)
    | _ => exact this

theorem step_sound (hmix : P.follows .mixedOrders = true) {rec : Rec} (hrec : Sound P rec) {m : Nat} (hl : LoopSound P rec m) : Sound P ⟨fun ro c a H => step c P rec ro a H, rec.know⟩ := by
  refine ⟨?_, hrec.know⟩
  intro ro c a H e a1 H1 h ρ w F n Q hF hFr hro r hs hQ
  simp only at h
  cases c with
  | skip =>
    simp only [step, stEnd, Option.some.injEq, Prod.mk.injEq] at h
    obtain ⟨rfl, rfl, rfl⟩ := h
    exact wpIn_skip (hQ ρ w (St.refl r) hs trivial)
  | label l =>
    simp only [step, stEnd, Option.some.injEq, Prod.mk.injEq] at h
    obtain ⟨rfl, rfl, rfl⟩ := h
    exact wpIn_label (hQ ρ w (St.refl r) hs trivial)
  | exit id =>
    simp only [step, stEnd, Option.some.injEq, Prod.mk.injEq] at h
    obtain ⟨rfl, rfl, rfl⟩ := h
    exact wpIn_exit (hQ ρ w (St.refl r) hs trivial)
  | goto l =>
    simp only [step, stEnd, Option.some.injEq, Prod.mk.injEq] at h
    obtain ⟨rfl, rfl, rfl⟩ := h
    exact wpIn_goto (hQ ρ w (St.refl r) hs trivial)
  | ret =>
    simp only [step, stEnd, Option.some.injEq, Prod.mk.injEq] at h
    obtain ⟨rfl, rfl, rfl⟩ := h
    exact wpIn_ret (hQ ρ w (St.refl r) hs trivial)
  | seq x y =>
    simp only [step, stSeq] at h
    refine wpIn_seq ?_
    split at h
    · rename_i a2 H2 hx
      refine hrec.run ro x a H .normal a2 H2 hx ρ w F n _ hF hFr hro r hs ?_
      intro ρ1 w1 s1 h1 _
      have hFr1 : F.round = ro.map ρ1.blk := by
        rw [hFr]
        cases ro with
        | none => rfl
        | some l0 => simp only [Option.map_some]; rw [s1.ext.blk l0 (hro l0 rfl)]
      refine hrec.run ro y a2 H2 e a1 H1 h ρ1 w1 F n Q hF hFr1 (fun l hl => Nat.lt_of_lt_of_le (hro l hl) s1.le.next) s1.rel h1 ?_
      intro ρ2 w2 s2 h2 h3
      exact hQ ρ2 w2 (s1.trans s2) h2 h3
    · rename_i hne
      refine hrec.run ro x a H e a1 H1 h ρ w F n _ hF hFr hro r hs ?_
      intro ρ1 w1 s1 h1 h2
      have := hQ ρ1 w1 s1 h1 h2
      cases e with
      | normal => exact absurd h (hne a1 H1)
      | _ => exact this
  | cond c x y =>
    simp only [step, stCond] at h
    split at h
    · rename_i hc
      refine wpIn_cond_true (by rw [aeval_run r hc]; simp [Ren.val]) ?_
      exact hrec.run ro x a H e a1 H1 h ρ w F n Q hF hFr hro r hs hQ
    · rename_i hc
      refine wpIn_cond_false (by rw [aeval_run r hc]; simp [Ren.val]) ?_
      exact hrec.run ro y a H e a1 H1 h ρ w F n Q hF hFr hro r hs hQ
    · cases h
  | block id b =>
    simp only [step, stBlock] at h
    refine wpIn_block ?_
    split at h
    · rename_i k a2 H2 hb
      refine hrec.run ro b a H (.exit k) a2 H2 hb ρ w F n _ hF hFr hro r hs ?_
      intro ρ1 w1 s1 h1 _
      simp only [Ren.exit, Exit.inBlock]
      split at h
      · rename_i hk
        simp only [Option.some.injEq, Prod.mk.injEq] at h
        obtain ⟨rfl, rfl, rfl⟩ := h
        rw [if_pos hk]; exact hQ ρ1 w1 s1 h1 trivial
      · rename_i hk
        simp only [Option.some.injEq, Prod.mk.injEq] at h
        obtain ⟨rfl, rfl, rfl⟩ := h
        rw [if_neg hk]; exact hQ ρ1 w1 s1 h1 trivial
    · rename_i hne
      refine hrec.run ro b a H e a1 H1 h ρ w F n _ hF hFr hro r hs ?_
      intro ρ1 w1 s1 h1 h2
      have := hQ ρ1 w1 s1 h1 h2
      cases e with
      | exit k => exact absurd h (hne k a1 H1)
      | _ => exact this
  | loop b =>
    exact wpIn_loop_rounds (m + 1) (loop_sound hrec hl ro b a H e a1 H1 h ρ w F n Q hF hFr hro r hs hQ)
  | region id ops draw =>
    simp only [step, stRegion] at h
    cases draw with
    | true =>
      simp only at h
      split at h
      · rename_i hst
        split at h
        · rename_i q hrun
          simp only [Option.some.injEq, Prod.mk.injEq] at h
          obtain ⟨rfl, rfl, rfl⟩ := h
          exact runDraw_run hmix hrec hst hrun r hs hF (fun ρ1 w1 s1 h1 => hQ ρ1 w1 s1 h1 trivial)
        · exact drawPanic_run hmix hrec hst h r hs hF hQ
      · cases h
    | false =>
      simp only at h
      refine wpIn_region ?_
      rw [List.range_eq_range']
      have := runSeq_run hrec (n := n) (Q := Q) hF (fun ht => by rw [hFr]; cases ro with | none => rfl | some l => cases ht) ops.toList 0 ρ H w a e a1 H1 (by simp) h r hs hQ
      simpa using this
  | rangeFunc f ps assign body =>
    simp only [step, stRange, Option.bind_eq_bind, Option.bind_eq_some_iff] at h
    obtain ⟨fv, hfv, h⟩ := h
    exact rangeG_run hrec hfv h r hs hro hF hFr hQ
  | scope b =>
    simp only [step, stScope] at h
    refine wpIn_scope ?_
    split at h
    · cases h
    · rename_i hne
      refine hrec.run ro b a H e a1 H1 h ρ w F n _ hF hFr hro r hs ?_
      intro ρ1 w1 s1 h1 h2
      have := hQ ρ1 w1 s1 h1 h2
      cases e with
      | goto k => exact absurd h (hne k a1 H1)
      | _ => exact this
  | refuse s => simp [step, stNone] at h

def KnownX (P : Program) (K : FuncId → List Value → AHeap → Option (Value × AHeap)) : Prop :=
  ∀ (f : FuncId) (args : List Value) (v : Value) (H H1 : AHeap), K f args H = some (v, H1) → CallS P f args H (.ok v) H1

def Known (P : Program) (K : FuncId → List Value → AHeap → Option Value) : Prop :=
  ∀ (f : FuncId) (args : List Value) (v : Value) (H : AHeap), K f args H = some v → af v = true ∧
    ∀ (ρ : Ren) (F : Fence) (n : Nat) (w : World), Rel P ρ H w → scbL H.next args = true → WideF F → CallsIn F n P f (args.map ρ.val).toArray w (fun e w' => e = .returned v ∧ RowKit.Below w.heap.size w w')

theorem Known.lift {K : FuncId → List Value → AHeap → Option Value} (hK : Known P K) : KnownX P (liftK K) := by
  intro f args v H H1 h ρ w r hsc F n R hF hR
  unfold liftK at h
  split at h
  · rename_i v' hk
    simp only [Option.some.injEq, Prod.mk.injEq] at h
    obtain ⟨rfl, rfl⟩ := h
    obtain ⟨h2, h3⟩ := hK f args v' _ hk
    refine (h3 ρ F n w r hsc hF).mono ?_
    rintro e w1 ⟨rfl, hb⟩
    have := hR ρ w1 (St.below r hb)
    simp only [val_af ρ v' h2] at this
    exact this (scb_of_af _ h2)
  · cases h

theorem execX_sound (hmix : P.follows .mixedOrders = true) {K : FuncId → List Value → AHeap → Option (Value × AHeap)} (hK : KnownX P K) : ∀ fuel, Sound P (execX P K fuel) ∧ LoopSound P (execX P K fuel) fuel
  | 0 => ⟨⟨fun ro c a H e a1 H1 h => by simp [execX] at h, hK⟩, fun ro b a H e a1 H1 h => by simp [execX] at h⟩
  | n + 1 => by
    obtain ⟨i1, i2⟩ := execX_sound hmix hK n
    have hk : (execX P K n).know = K := by cases n <;> rfl
    have h1 := step_sound hmix i1 i2
    have h2 := loop_sound i1 i2
    rw [hk] at h1 h2
    exact ⟨h1, h2⟩

theorem exec_sound (hmix : P.follows .mixedOrders = true) {K : FuncId → List Value → AHeap → Option Value} (hK : Known P K) (fuel : Nat) : Sound P (exec P K fuel) ∧ LoopSound P (exec P K fuel) fuel := execX_sound hmix hK.lift fuel

end
end Go.Ax

/- Walks over abstract heaps: what a piece of code comes to, for values and heaps that are not all known. -/
namespace Go.Ax
section
variable {P : Program} {ro : Option Nat} {a a1 a2 : AAct} {H H1 H2 : AHeap} {e : Exit}

theorem Runs.skip : Runs P ro .skip a H .normal a H := fun ρ w _ _ _ _ _ _ r hs hQ => wpIn_skip (hQ ρ w (St.refl r) hs trivial)
theorem Runs.label {l : Nat} : Runs P ro (.label l) a H .normal a H := fun ρ w _ _ _ _ _ _ r hs hQ => wpIn_label (hQ ρ w (St.refl r) hs trivial)
theorem Runs.exit {id : Nat} : Runs P ro (.exit id) a H (.exit id) a H := fun ρ w _ _ _ _ _ _ r hs hQ => wpIn_exit (hQ ρ w (St.refl r) hs trivial)
theorem Runs.goto {l : Nat} : Runs P ro (.goto l) a H (.goto l) a H := fun ρ w _ _ _ _ _ _ r hs hQ => wpIn_goto (hQ ρ w (St.refl r) hs trivial)
theorem Runs.ret : Runs P ro .ret a H .ret a H := fun ρ w _ _ _ _ _ _ r hs hQ => wpIn_ret (hQ ρ w (St.refl r) hs trivial)

theorem round_ext {F : Fence} {ρ ρ1 : Ren} {w w1 : World} (hFr : F.round = ro.map ρ.blk) (hro : ∀ l, ro = some l → l < H.next) (s : St P ρ H w ρ1 H1 w1) : F.round = ro.map ρ1.blk := by
  rw [hFr]
  cases ro with
  | none => rfl
  | some l0 => simp only [Option.map_some]; rw [s.ext.blk l0 (hro l0 rfl)]

theorem Runs.seq {x y : Code} (h1 : Runs P ro x a H .normal a2 H2) (h2 : Runs P ro y a2 H2 e a1 H1) : Runs P ro (.seq x y) a H e a1 H1 := by
  intro ρ w F n Q hF hFr hro r hs hQ
  refine wpIn_seq (h1 ρ w F n _ hF hFr hro r hs ?_)
  intro ρ1 w1 s1 k1 _
  refine h2 ρ1 w1 F n Q hF (round_ext hFr hro s1) (fun l hl => Nat.lt_of_lt_of_le (hro l hl) s1.le.next) s1.rel k1 ?_
  intro ρ2 w2 s2 k2 k3
  exact hQ ρ2 w2 (s1.trans s2) k2 k3

theorem Runs.seq_out {x y : Code} (h1 : Runs P ro x a H e a1 H1) (hne : e ≠ .normal) : Runs P ro (.seq x y) a H e a1 H1 := by
  intro ρ w F n Q hF hFr hro r hs hQ
  refine wpIn_seq (h1 ρ w F n _ hF hFr hro r hs ?_)
  intro ρ1 w1 s1 k1 k2
  have := hQ ρ1 w1 s1 k1 k2
  cases e with
  | normal => exact absurd rfl hne
  | _ => exact this

theorem Runs.cond {c : Operand} {x y : Code} {b : Bool} (hc : aeval P a c = some (.bool b)) (h : Runs P ro (if b then x else y) a H e a1 H1) : Runs P ro (.cond c x y) a H e a1 H1 := by
  intro ρ w F n Q hF hFr hro r hs hQ
  cases b with
  | true => exact wpIn_cond_true (by rw [aeval_run r hc]; simp [Ren.val]) (h ρ w F n Q hF hFr hro r hs hQ)
  | false => exact wpIn_cond_false (by rw [aeval_run r hc]; simp [Ren.val]) (h ρ w F n Q hF hFr hro r hs hQ)

def outB (id : Nat) : Exit → Exit
  | .exit k => if k = id then .normal else .exit k
  | e => e

theorem Runs.block {id : Nat} {b : Code} (h : Runs P ro b a H e a1 H1) : Runs P ro (.block id b) a H (outB id e) a1 H1 := by
  intro ρ w F n Q hF hFr hro r hs hQ
  refine wpIn_block (h ρ w F n _ hF hFr hro r hs ?_)
  intro ρ1 w1 s1 k1 k2
  cases e with
  | exit k =>
    simp only [Ren.exit, Exit.inBlock]
    by_cases hk : k = id
    · rw [if_pos hk]
      have := hQ ρ1 w1 s1 k1 (by simp [outB, hk, scX])
      simpa [outB, hk, Ren.exit] using this
    · rw [if_neg hk]
      have := hQ ρ1 w1 s1 k1 (by simp [outB, hk, scX])
      simpa [outB, hk, Ren.exit] using this
  | _ => exact hQ ρ1 w1 s1 k1 k2

theorem Runs.scope {b : Code} (h : Runs P ro b a H e a1 H1) (hne : ∀ l, e ≠ .goto l) : Runs P ro (.scope b) a H e a1 H1 := by
  intro ρ w F n Q hF hFr hro r hs hQ
  refine wpIn_scope (h ρ w F n _ hF hFr hro r hs ?_)
  intro ρ1 w1 s1 k1 k2
  have := hQ ρ1 w1 s1 k1 k2
  cases e with
  | goto l => exact absurd rfl (hne l)
  | _ => exact this

def RoundsR (P : Program) (ro : Option Nat) (b : Code) (m : Nat) (a : AAct) (H : AHeap) (e : Exit) (a1 : AAct) (H1 : AHeap) : Prop :=
  ∀ (ρ : Ren) (w : World) (F : Fence) (n : Nat) (Q : Exit → Act → World → Prop), WideF F → F.round = ro.map ρ.blk → (∀ l, ro = some l → l < H.next) → Rel P ρ H w → scA H.next a →
    (∀ ρ1 w1, St P ρ H w ρ1 H1 w1 → scA H1.next a1 → scX H1.next e → Q (ρ1.exit e) (ρ1.act a1) w1) → Code.roundsIn F n P b Q m (ρ.act a) w

theorem RoundsR.next {b : Code} {m : Nat} (h1 : Runs P ro b a H .normal a2 H2) (h2 : RoundsR P ro b m a2 H2 e a1 H1) : RoundsR P ro b (m + 1) a H e a1 H1 := by
  intro ρ w F n Q hF hFr hro r hs hQ
  rw [roundsIn_succ]
  refine h1 ρ w F n _ hF hFr hro r hs ?_
  intro ρ1 w1 s1 k1 _
  refine h2 ρ1 w1 F n Q hF (round_ext hFr hro s1) (fun l hl => Nat.lt_of_lt_of_le (hro l hl) s1.le.next) s1.rel k1 ?_
  intro ρ2 w2 s2 k2 k3
  exact hQ ρ2 w2 (s1.trans s2) k2 k3

theorem RoundsR.last {b : Code} {m : Nat} (h1 : Runs P ro b a H e a1 H1) (hne : e ≠ .normal) : RoundsR P ro b (m + 1) a H e a1 H1 := by
  intro ρ w F n Q hF hFr hro r hs hQ
  rw [roundsIn_succ]
  refine h1 ρ w F n _ hF hFr hro r hs ?_
  intro ρ1 w1 s1 k1 k2
  have := hQ ρ1 w1 s1 k1 k2
  cases e with
  | normal => exact absurd rfl hne
  | _ => exact this

theorem Runs.loop {b : Code} {m : Nat} (h : RoundsR P ro b m a H e a1 H1) : Runs P ro (.loop b) a H e a1 H1 :=
  fun ρ w F n Q hF hFr hro r hs hQ => wpIn_loop_rounds m (h ρ w F n Q hF hFr hro r hs hQ)

def NextS (P : Program) (x : ANext) (H : AHeap) (out : Out) (H1 : AHeap) : Prop :=
  match x with
  | .value v => out = .ok v ∧ H1 = H
  | .skip => out = .ok undef ∧ H1 = H
  | .enter f args => CallS P f args H out H1
  | .round r => RoundS P r H out H1
  | .panic v => out = .error [{ v, recovered := false }] ∧ H1 = H

theorem opS_of {o : Oper} {x : ANext} {g : AHeap} {out : Out} (hx : aop o.op P a H = some (x, g)) (h : NextS P x g out H1) : OpS P a H o out H1 := by
  intro ρ w r hs ca hca F n K Q hF hR
  have hsn := aop_sc r.glob.1 r.doms hs hx
  obtain ⟨⟨ρ1, w1, hst, hrun⟩, hnd⟩ := aop_run r hx
  refine ⟨fun f _ => hF.fn f, ?_⟩
  have hsel : ∀ cs b, o.op ≠ .select cs b := fun cs b e => by rw [e] at hx; simp [aop, xNone] at hx
  rw [Oper.semAt_eq _ _ _ hnd, execOp_congr o hsel hca]
  cases x with
  | value v =>
    obtain ⟨rfl, rfl⟩ := h
    simp only [NRun] at hrun
    rw [hrun, Oper.uponIn_value]
    exact hR ρ1 w1 hst hsn
  | skip =>
    obtain ⟨rfl, rfl⟩ := h
    simp only [NRun] at hrun
    rw [hrun, Oper.uponIn_skip]
    have := hR ρ1 w1 hst (scb_undef _)
    simpa using this
  | enter f args =>
    simp only [NRun] at hrun
    rw [hrun, Oper.uponIn_enter]
    refine ⟨hF.deep, h ρ1 w1 hst.rel hsn F (n - 1) _ hF ?_⟩
    intro ρ2 w2 hst2
    cases out with
    | ok v => exact hR ρ2 w2 (hst.trans hst2)
    | error ch => exact hR ρ2 w2 (hst.trans hst2)
  | round rd =>
    simp only [NRun] at hrun
    obtain ⟨fn, hrun⟩ := hrun
    rw [hrun, Oper.uponIn_round]
    refine ⟨hF.deep, h ρ1 w1 hst.rel hsn.1 hsn.2 F (n - 1) fn _ hF ?_⟩
    intro ρ2 w2 hst2
    cases out with
    | ok v => exact hR ρ2 w2 (hst.trans hst2)
    | error ch => exact hR ρ2 w2 (hst.trans hst2)
  | panic v =>
    obtain ⟨rfl, rfl⟩ := h
    simp only [NRun] at hrun
    rw [hrun, Oper.uponIn_panic]
    exact hR ρ1 w1 hst (fun p hp => by simp at hp; subst hp; exact hsn)

def CallA (P : Program) (f : FuncId) (args : List Value) (H : AHeap) (R : Out → AHeap → Prop) : Prop := ∃ out H1, CallS P f args H out H1 ∧ R out H1
def RoundA (P : Program) (r : Round) (H : AHeap) (R : Out → AHeap → Prop) : Prop := ∃ out H1, RoundS P r H out H1 ∧ R out H1

def nextA (P : Program) (x : ANext) (H : AHeap) (R : Out → AHeap → Prop) : Prop :=
  match x with
  | .value v => R (.ok v) H
  | .skip => R (.ok undef) H
  | .enter f args => CallA P f args H R
  | .round r => RoundA P r H R
  | .panic v => R (.error [{ v, recovered := false }]) H

def opA (P : Program) (op : Op) (a : AAct) (H : AHeap) (R : Out → AHeap → Prop) : Prop :=
  match aop op P a H with
  | some (x, g) => nextA P x g R
  | none => False

theorem opA_sound {o : Oper} {R : Out → AHeap → Prop} (h : opA P o.op a H R) : ∃ out H1, OpS P a H o out H1 ∧ R out H1 := by
  unfold opA at h
  split at h
  · rename_i x g hx
    cases x with
    | value v => exact ⟨_, _, opS_of hx ⟨rfl, rfl⟩, h⟩
    | skip => exact ⟨_, _, opS_of hx ⟨rfl, rfl⟩, h⟩
    | enter f args => obtain ⟨out, H1, h2, h4⟩ := h; exact ⟨out, H1, opS_of hx h2, h4⟩
    | round r => obtain ⟨out, H1, h2, h4⟩ := h; exact ⟨out, H1, opS_of hx h2, h4⟩
    | panic v => exact ⟨_, _, opS_of hx ⟨rfl, rfl⟩, h⟩
  · exact h.elim

def wpOps (P : Program) (ro : Option Nat) (ops : Array Oper) : List Oper → AAct → AHeap → (Exit → AAct → AHeap → Prop) → Prop
  | [], a, H, Q => Q .normal a H
  | o :: rest, a, H, Q =>
    match wantA ops a o with
    | some true =>
      (match ro, aDefer P a o.op with
      | none, some d => wpOps P ro ops rest (AAct.put ⟨a.env, d :: a.defers⟩ o.dst undef) H Q
      | _, _ => opA P o.op a H fun out H1 => match out with
        | .ok v => wpOps P ro ops rest (a.put o.dst v) H1 Q
        | .error ch => Q (.panic ch) a H1)
    | some false => wpOps P ro ops rest (a.put o.dst undef) H Q
    | none => False

def OpsR (P : Program) (ro : Option Nat) (ops : Array Oper) (k m : Nat) (a : AAct) (H : AHeap) (e : Exit) (a1 : AAct) (H1 : AHeap) : Prop :=
  ∀ (ρ : Ren) (w : World) (F : Fence) (n : Nat) (Q : Exit → Act → World → Prop), WideF F → F.round = ro.map ρ.blk → (∀ l, ro = some l → l < H.next) → Rel P ρ H w → scA H.next a →
    (∀ ρ1 w1, St P ρ H w ρ1 H1 w1 → scA H1.next a1 → scX H1.next e → Q (ρ1.exit e) (ρ1.act a1) w1) → wpOpsIn F n P ops Q (List.range' k m) (ρ.act a) w

theorem wpOps_sound {P : Program} {ro : Option Nat} {ops : Array Oper} {Q : Exit → AAct → AHeap → Prop} : ∀ (rest : List Oper) (k : Nat) (a : AAct) (H : AHeap), ops.toList.drop k = rest → wpOps P ro ops rest a H Q →
    ∃ e a1 H1, OpsR P ro ops k rest.length a H e a1 H1 ∧ Q e a1 H1
  | [], k, a, H, _, h => ⟨.normal, a, H, fun ρ w F n Q _ _ _ r hs hQ => hQ ρ w (St.refl r) hs trivial, h⟩
  | o :: rest, k, a, H, hd, h => by
    have hk : ops[k]? = some o := by
      have := congrArg (·[0]?) hd
      simpa using this
    have hd' : ops.toList.drop (k + 1) = rest := by
      have := congrArg List.tail hd
      simpa using this
    simp only [wpOps] at h
    split at h
    · rename_i hw
      split at h
      · rename_i d hdf
        obtain ⟨e, a1, H1, hr, hq⟩ := wpOps_sound rest (k + 1) _ H hd' h
        refine ⟨e, a1, H1, ?_, hq⟩
        intro ρ w F n Q hF hFr hro r hs hQ
        simp only [List.length_cons, List.range'_succ, wpOpsIn, hk]
        rw [want_run ρ hw, if_pos rfl]
        obtain ⟨hrun, hsd⟩ := aDefer_run r hs hdf
        refine ⟨fun f _ => hF.fn f, ?_⟩
        rw [hFr]
        simp only [Option.map_none]
        rw [Oper.semAt_none, hrun]
        have hp := act_put ρ ⟨a.env, d :: a.defers⟩ o.dst undef
        rw [Ren.val_undef] at hp
        have hs' : scA H.next ⟨a.env, d :: a.defers⟩ := ⟨hs.1, fun d' hd' => by
          rcases List.mem_cons.1 hd' with rfl | hd'
          · exact hsd
          · exact hs.2 d' hd'⟩
        have := hr ρ w F n Q hF hFr hro r (hs'.put _ (scb_undef _)) hQ
        rw [← hp] at this
        exact this
      · obtain ⟨out, H2, hop, hk2⟩ := opA_sound (o := o) h
        cases out with
        | ok v =>
          simp only at hk2
          obtain ⟨e, a1, H1, hr, hq⟩ := wpOps_sound rest (k + 1) _ H2 hd' hk2
          refine ⟨e, a1, H1, ?_, hq⟩
          intro ρ w F n Q hF hFr hro r hs hQ
          simp only [List.length_cons, List.range'_succ, wpOpsIn, hk]
          rw [want_run ρ hw, if_pos rfl]
          refine hop ρ w r hs _ (fun _ _ => rfl) F n _ _ hF ?_
          intro ρ1 w1 hst hsc
          rw [← act_ext hst.ext hs, act_put]
          refine hr ρ1 w1 F n Q hF (round_ext hFr hro hst) (fun l hl => Nat.lt_of_lt_of_le (hro l hl) hst.le.next) hst.rel ((hs.mono hst.le.next).put _ hsc) ?_
          intro ρ2 w2 hst2 h1 h2
          exact hQ ρ2 w2 (hst.trans hst2) h1 h2
        | error ch =>
          refine ⟨.panic ch, a, H2, ?_, hk2⟩
          intro ρ w F n Q hF hFr hro r hs hQ
          simp only [List.length_cons, List.range'_succ, wpOpsIn, hk]
          rw [want_run ρ hw, if_pos rfl]
          refine hop ρ w r hs _ (fun _ _ => rfl) F n _ _ hF ?_
          intro ρ1 w1 hst hsc
          have := hQ ρ1 w1 hst (hs.mono hst.le.next) hsc
          rw [act_ext hst.ext hs] at this
          exact this
    · rename_i hw
      obtain ⟨e, a1, H1, hr, hq⟩ := wpOps_sound rest (k + 1) _ H hd' h
      refine ⟨e, a1, H1, ?_, hq⟩
      intro ρ w F n Q hF hFr hro r hs hQ
      simp only [List.length_cons, List.range'_succ, wpOpsIn, hk]
      rw [want_run ρ hw]
      simp only [Bool.false_eq_true, if_false]
      refine ⟨fun f _ => hF.fn f, ?_⟩
      have hp := act_put ρ a o.dst undef
      rw [Ren.val_undef] at hp
      rw [hp]
      exact hr ρ w F n Q hF hFr hro r (hs.put _ (scb_undef _)) hQ
    · exact h.elim

def wpDraw (P : Program) (ops : Array Oper) (anc : List Nat) : List Oper → Nat → List Fp → AAct → AHeap → (AAct → AHeap → Prop) → Prop
  | [], _, _, a, H, Q => Q a H
  | o :: rest, i, fps, a, H, Q =>
    match wantA ops a o with
    | some true => ∃ F v g, OpS P a (H.restrict F) o (.ok v) g ∧ (∀ n ∈ F, H.get n ≠ none) ∧ (∀ n ∈ g.dirty, n ∈ F) ∧ (∀ r ∈ fps, fpOk (anc.getD i 0) F v g H.next r = true) ∧
        wpDraw P ops anc rest (i + 1) (⟨i, F, g.dirty, H.next, g.next⟩ :: fps) (a.put o.dst v) (H.merge g) Q
    | some false => wpDraw P ops anc rest (i + 1) fps (a.put o.dst undef) H Q
    | none => False

theorem wpDraw_text {ops : Array Oper} {anc : List Nat} {Q : AAct → AHeap → Prop} : ∀ (rest : List Oper) (k : Nat) (fps : List Fp) (a : AAct) (H : AHeap),
    (∃ ys, ops.toList.drop k = rest ++ ys) → wpDraw P ops anc rest k fps a H Q →
    ∃ (D : Nat → OpD) (A : Nat → AAct) (HH : Nat → AHeap), A k = a ∧ HH k = H ∧ Q (A (k + rest.length)) (HH (k + rest.length)) ∧
      (∀ i, k ≤ i → i < k + rest.length → OpFact P ops D A HH i) ∧
      (∀ i j, k ≤ i → i < j → j < k + rest.length → (D i).on = true → PairFact anc D HH j (fpAt D HH i)) ∧
      (∀ r ∈ fps, ∀ j, k ≤ j → j < k + rest.length → PairFact anc D HH j r) ∧ (∀ i, (D i).bad = false)
  | [], k, fps, a, H, _, h => by
    refine ⟨fun _ => ⟨false, undef, [], H, false⟩, fun _ => a, fun _ => H, rfl, rfl, h, ?_, ?_, ?_, fun _ => rfl⟩
    · intro i h1 h2; simp at h2; omega
    · intro i j h1 h2 h3; simp at h3; omega
    · intro r _ j h1 h2; simp at h2; omega
  | o :: rest, k, fps, a, H, hd, h => by
    obtain ⟨ys, hd⟩ := hd
    have hk : ops[k]? = some o := by
      have := congrArg (·[0]?) hd
      simpa using this
    have hd' : ∃ ys, ops.toList.drop (k + 1) = rest ++ ys := ⟨ys, by
      have := congrArg List.tail hd
      simpa using this⟩
    have build : ∀ (d : OpD) (fps' : List Fp) (H2 : AHeap), (∀ r ∈ fps, r ∈ fps') → wpDraw P ops anc rest (k + 1) fps' (a.put o.dst d.v) H2 Q →
        wantA ops a o = some d.on → d.bad = false →
        (d.on = true → OpS P a (H.restrict d.F) o (.ok d.v) d.g ∧ (∀ n ∈ d.F, H.get n ≠ none) ∧ (∀ n ∈ d.g.dirty, n ∈ d.F) ∧ H2 = H.merge d.g ∧ (⟨k, d.F, d.g.dirty, H.next, d.g.next⟩ : Fp) ∈ fps' ∧
          ∀ r ∈ fps, fpOk (anc.getD k 0) d.F d.v d.g H.next r = true) →
        (d.on = false → d.v = undef ∧ H2 = H) →
        ∃ (D : Nat → OpD) (A : Nat → AAct) (HH : Nat → AHeap), A k = a ∧ HH k = H ∧ Q (A (k + (o :: rest).length)) (HH (k + (o :: rest).length)) ∧
          (∀ i, k ≤ i → i < k + (o :: rest).length → OpFact P ops D A HH i) ∧
          (∀ i j, k ≤ i → i < j → j < k + (o :: rest).length → (D i).on = true → PairFact anc D HH j (fpAt D HH i)) ∧
          (∀ r ∈ fps, ∀ j, k ≤ j → j < k + (o :: rest).length → PairFact anc D HH j r) ∧ (∀ i, (D i).bad = false) := by
      intro d fps' H2 hsub hrun hwant hbad hon hoff
      obtain ⟨D, A, HH, e1, e2, e3, f1, f2, f3, f4⟩ := wpDraw_text rest (k + 1) fps' _ H2 hd' hrun
      have hlen : k + (o :: rest).length = k + 1 + rest.length := by simp only [List.length_cons]; omega
      refine ⟨fun i => if i = k then d else D i, fun i => if i = k then a else A i, fun i => if i = k then H else HH i, by simp, by simp, ?_, ?_, ?_, ?_, fun i => by by_cases e : i = k <;> simp [e, hbad, f4]⟩
      · rw [hlen]; show Q (if k + 1 + rest.length = k then a else A (k + 1 + rest.length)) (if k + 1 + rest.length = k then H else HH (k + 1 + rest.length))
        rw [if_neg (by omega), if_neg (by omega)]; exact e3
      · intro i h1 h2
        rw [hlen] at h2
        by_cases e : i = k
        · subst e
          refine ⟨o, hk, ?_, ?_, ?_, ?_⟩
          · simp only [if_pos, if_neg (show ¬ i + 1 = i by omega)]; rw [e1]
          · simp only [if_pos]; exact fun _ => hwant
          · simp only [if_pos, if_neg (show ¬ i + 1 = i by omega)]
            intro h; obtain ⟨x1, x2, x3, x4, _⟩ := hon h
            exact ⟨x1, x2, x3, by rw [e2]; exact x4⟩
          · simp only [if_pos, if_neg (show ¬ i + 1 = i by omega)]
            intro h; obtain ⟨x1, x2⟩ := hoff h
            exact ⟨x1, by rw [e2]; exact x2⟩
        · obtain ⟨o', y1, y2, y3, y4, y5⟩ := f1 i (by omega) h2
          refine ⟨o', y1, ?_, ?_, ?_, ?_⟩
          · simp only [if_neg e, if_neg (show ¬ i + 1 = k by omega)]; exact y2
          · simp only [if_neg e]; exact y3
          · simp only [if_neg e, if_neg (show ¬ i + 1 = k by omega)]; exact y4
          · simp only [if_neg e, if_neg (show ¬ i + 1 = k by omega)]; exact y5
      · intro i j h1 h2 h3 h4
        rw [hlen] at h3
        have hj : ¬ j = k := by omega
        by_cases e : i = k
        · subst e
          simp only [if_pos] at h4
          obtain ⟨_, _, _, _, x5, _⟩ := hon h4
          have := f3 _ x5 j (by omega) h3
          simp only [PairFact, fpAt, if_neg hj, if_pos] at this ⊢
          exact this
        · simp only [if_neg e] at h4
          have := f2 i j (by omega) h2 h3 h4
          simp only [PairFact, fpAt, if_neg hj, if_neg e] at this ⊢
          exact this
      · intro r hr j h1 h2
        rw [hlen] at h2
        by_cases e : j = k
        · subst e
          simp only [PairFact, if_pos]
          intro h
          exact (hon h).2.2.2.2.2 r hr
        · have := f3 r (hsub r hr) j (by omega) h2
          simp only [PairFact, if_neg e] at this ⊢
          exact this
    simp only [wpDraw] at h
    split at h
    · rename_i hw
      obtain ⟨F, v, g, x1, x2, x3, x4, h⟩ := h
      exact build ⟨true, v, F, g, false⟩ _ _ (fun r hr => List.mem_cons_of_mem _ hr) h hw rfl (fun _ => ⟨x1, x2, x3, rfl, List.mem_cons_self .., x4⟩) (fun h => by cases h)
    · rename_i hw
      exact build ⟨false, undef, [], H, false⟩ fps H (fun r hr => hr) h hw rfl (fun h => by cases h) (fun _ => ⟨rfl, rfl⟩)
    · exact h.elim

theorem wpDraw_sound (hmix : P.follows .mixedOrders = true) {ops : Array Oper} {id : Nat} (hst : staticOk ops = true) {Q : AAct → AHeap → Prop} (h : wpDraw P ops (ancs ops) ops.toList 0 [] a H Q) :
    ∃ a1 H1, Runs P ro (.region id ops true) a H .normal a1 H1 ∧ Q a1 H1 := by
  obtain ⟨D, A, HH, e1, e2, e3, f1, f2, _, hnb⟩ := wpDraw_text ops.toList 0 [] a H ⟨[], by simp⟩ h
  simp only [Nat.zero_add, Array.length_toList] at e3 f1 f2
  refine ⟨_, _, ?_, e3⟩
  intro ρ w F n Q hF hFr hro r hs hQ
  have hfact : ∀ i, i < ops.size → OpFact P ops D A HH i := fun i hi => f1 i (Nat.zero_le _) hi
  have hex := text_ex r (ops := ops) (D := D) (A := A) (HH := HH) (m := ops.size) e2 (by rw [e1]; exact hs) hfact
  have T : Txt P ops D A HH ρ w := by
    refine ⟨by rw [e2]; exact r, by rw [e2, e1]; exact hs, hfact, fun i j hij hj hi => f2 i j (Nat.zero_le _) hij hj hi, fun j oj hoj => static_spec ops.toList 0 (by simp) hst j oj (Nat.zero_le _) hoj, ?_⟩
    rw [e2]; exact hex
  obtain ⟨ρm, wm, hstm, hsa⟩ := hex ops.size (Nat.le_refl _)
  refine wpIn_region_any hmix ?_
  have hX0 : ∀ j, listedX (Array.replicate ops.size false) j = false := fun j => by
    unfold listedX
    rw [Array.getD_eq_getD_getElem?, Array.getElem?_replicate]
    split <;> rfl
  obtain ⟨I, ha⟩ := inv_start (w := { w with drawn := w.drawn + 1 }) T hX0 rfl rfl rfl rfl
  have := any_run T (n := n) hF (Q := Q) (fun i hi h => by rw [hnb] at h; cases h) (fun i o hi h => by rw [hnb] at h; cases h) (fun _ ρ1 w1 h1 => by
    rw [e2] at h1
    exact hQ ρ1 w1 h1 hsa trivial) ops.size (Array.replicate ops.size false) ρ _ (by simp) (by unfold left; exact Nat.le_trans (List.length_filter_le _ _) (by simp)) (fun j oj _ hX => by rw [hX0] at hX; cases hX) (fun j _ => hnb j) I
  rw [ha, e1] at this
  exact this

def isDef : Op → Bool
  | .defer _ => true
  | _ => false

theorem wpDrawP_sound (hmix : P.follows .mixedOrders = true) {ops : Array Oper} {id : Nat} (hst : staticOk ops = true) {l : List Oper} {o : Oper} (hsplit : ops.toList = l ++ [o])
    (hanc : (List.range (ops.size - 1)).all (fun j => ((ancs ops).getD (ops.size - 1) 0).testBit j) = true) (hdf : isDef o.op = false) {Q : Exit → AAct → AHeap → Prop} (h : wpDraw P ops (ancs ops) l 0 [] a H fun a1 H1 => wantA ops a1 o = some true ∧ wpOps P ro ops [o] a1 H1 Q) :
    ∃ e a1 H1, Runs P ro (.region id ops true) a H e a1 H1 ∧ Q e a1 H1 := by
  obtain ⟨D, A, HH, e1, e2, ⟨hw, e3⟩, f1, f2, _, hnb⟩ := wpDraw_text l 0 [] a H ⟨[o], by simpa using hsplit⟩ h
  obtain ⟨a2, ha2⟩ : ∃ a2, A (0 + l.length) = a2 := ⟨_, rfl⟩
  obtain ⟨H2, hH2⟩ : ∃ H2, HH (0 + l.length) = H2 := ⟨_, rfl⟩
  rw [ha2, hH2] at e3
  rw [ha2] at hw
  have key : opA P o.op a2 H2 (fun out H1 => match out with
      | .ok v => wpOps P ro ops [] (a2.put o.dst v) H1 Q
      | .error ch => Q (.panic ch) a2 H1) → ∃ e a1 H1, Runs P ro (.region id ops true) a H e a1 H1 ∧ Q e a1 H1 := by
    intro ho
    obtain ⟨out, H3, hop, hq⟩ := opA_sound (o := o) ho
    cases out with
    | ok v =>
      refine ⟨.normal, a2.put o.dst v, H3, ?_, hq⟩
      intro ρ w F n Q' hF hFr hro r hs hQ
      exact last_core hmix hst hsplit hanc e1 e2 ha2 hH2 f1 f2 hnb hw hop r hs hF (fun ρ1 w1 h1 h2 => hQ ρ1 w1 h1 h2 trivial)
    | error ch =>
      refine ⟨.panic ch, a2, H3, ?_, hq⟩
      intro ρ w F n Q' hF hFr hro r hs hQ
      exact panic_core hmix hst hsplit hanc e1 e2 ha2 hH2 f1 f2 hnb hw hop r hs hF hQ
  simp only [wpOps, hw] at e3
  have hnd : aDefer P a2 o.op = none := by
    cases ho : o.op with
    | defer c => rw [ho] at hdf; cases hdf
    | _ => rfl
  rw [hnd] at e3
  cases ro with
  | none => exact key e3
  | some r => exact key e3

def pendE : Option Code → Option Exit
  | none => some .normal
  | some .ret => some .ret
  | some (.exit id) => some (.exit id)
  | some (.goto l) => some (.goto l)
  | _ => none

def rangeA (P : Program) (ro : Option Nat) (fv : Value) (ps : Array Tmp) (assign body : Code) (a : AAct) (H : AHeap) (Q : Exit → AAct → AHeap → Prop) : Prop :=
  match fv with
  | .func fn first captured =>
    (match enterLoop ro a ps assign body H with
    | some (l, mark, H1) =>
      (match aInvoke P H1 fn (first.toList ++ [.func (.yield l) #[] #[]]) captured.toList with
      | some (.enter g args) => CallA P g args H1 fun out H2 => match out with
        | .ok _ => ∃ lp le e, getLoop H2 l = some (lp, le) ∧ lp.state ≠ .busy ∧ pendE lp.pending = some e ∧ Q e ⟨a.env, mark ++ a.defers⟩ (setLoop H2 l { lp with state := .exhausted } le)
        | .error ch => Q (.panic ch) ⟨a.env, mark ++ a.defers⟩ H2
      | _ => False)
    | none => False)
  | _ => False

theorem Runs.pend {c : Code} {e : Exit} (h : pendE (some c) = some e) : Runs P ro c a H e a H := by
  unfold pendE at h
  split at h
  · rename_i hc; cases hc
  · rename_i hc; cases hc; simp only [Option.some.injEq] at h; subst h; exact Runs.ret
  · rename_i hc; cases hc; simp only [Option.some.injEq] at h; subst h; exact Runs.exit
  · rename_i hc; cases hc; simp only [Option.some.injEq] at h; subst h; exact Runs.goto
  · cases h

theorem rangeA_sound {g : Operand} {fv : Value} {ps : Array Tmp} {assign body : Code} {Q : Exit → AAct → AHeap → Prop} (hg : aeval P a g = some fv) (h : rangeA P ro fv ps assign body a H Q) :
    ∃ e a1 H1, Runs P ro (.rangeFunc g ps assign body) a H e a1 H1 ∧ Q e a1 H1 := by
  unfold rangeA at h
  split at h
  · rename_i fn first captured
    split at h
    · rename_i l mark H2 hen
      split at h
      · rename_i f args hres
        obtain ⟨out, H3, hcall, h⟩ := h
        have key : ∀ (e : Exit) (H1 : AHeap), (match out with
            | .ok _ => ∃ lp le, getLoop H3 l = some (lp, le) ∧ lp.state ≠ .busy ∧ pendE lp.pending = some e ∧ H1 = setLoop H3 l { lp with state := .exhausted } le
            | .error ch => e = .panic ch ∧ H1 = H3) → Runs P ro (.rangeFunc g ps assign body) a H e ⟨a.env, mark ++ a.defers⟩ H1 := by
          intro e H1 hout ρ w F n Q hF hFr hro r hs hQ
          refine wpIn_rangeFunc (fun fnid _ => ?_)
          obtain ⟨ρ1, w1, s1, hrun, hl, hmk⟩ := enterLoop_run r hro hs.1 hen fnid
          obtain ⟨ρ2, w2, s2, hinv⟩ := aInvoke_run s1.rel hres
          have hfsc := aeval_sc r.glob.1 hs hg
          have hf2 := func_sc (scb_mono s1.le.next _ hfsc)
          have hsa0 : scbL H2.next args = true := aInvoke_sc s1.rel.doms hf2.1 (scbL_append hf2.2.1 (by simp only [scbL, scb, scbA, Bool.and_true]; exact blt_of hl)) hf2.2.2 hres
          have hfv : (ρ.act a).eval g = ρ1.val (.func fn first captured) := by rw [aeval_run r hg, val_ext s1.ext _ hfsc]
          have e1 : ρ1.val (.func fn first captured) = .func (ρ1.fn fn) (first.map ρ1.val) (captured.map ρ1.val) := by rw [Ren.val, Ren.valA_eq, Ren.valA_eq]
          have e2 : first.map ρ1.val ++ #[(.func (.yield (ρ1.blk l)) #[] #[] : Value)] = ((first.toList ++ [(.func (.yield l) #[] #[] : Value)]).map ρ1.val).toArray := by
            apply Array.ext'
            simp [Ren.val, Ren.fn, Ren.valA, Ren.valL]
          have e3 : captured.map ρ1.val = (captured.toList.map ρ1.val).toArray := by apply Array.ext'; simp
          simp only [NRun] at hinv
          have hs1 : scA H2.next a := hs.mono s1.le.next
          have hs2 : scA H2.next { a with defers := mark ++ a.defers } := ⟨hs1.1, fun d hd => by
            rcases List.mem_append.1 hd with hd | hd
            · exact hmk d hd
            · exact hs1.2 d hd⟩
          have hsame : ({ ρ.act a with defers := mark.map ρ1.dfr ++ (ρ.act a).defers } : Act) = ρ1.act { a with defers := mark ++ a.defers } := by
            have h1 := act_ext s1.ext hs
            have h2 : (ρ.act a).tmps = ρ1.tmps a.env := by rw [← h1]; rfl
            have h3 : (ρ.act a).defers = a.defers.map ρ1.dfr := by rw [← h1]; rfl
            show (⟨(ρ.act a).tmps, mark.map ρ1.dfr ++ (ρ.act a).defers⟩ : Act) = ⟨ρ1.tmps a.env, (mark ++ a.defers).map ρ1.dfr⟩
            rw [h2, h3, List.map_append]
          refine ⟨ρ1.blk l, mark.map ρ1.dfr, w1, { target := .fn (ρ1.fn fn) (captured.map ρ1.val), args := first.map ρ1.val ++ #[(.func (.yield (ρ1.blk l)) #[] #[] : Value)] }, w1, f, _, w2, ?_, ?_, fun f' _ => hF.fn f', ?_, hF.deep, hcall ρ2 w2 s2.rel hsa0 F _ _ hF ?_⟩
          · rw [hFr]; exact hrun
          · simp only [resolve, rangeCall, hfv, e1]
            simp [Act.eval, Deferred.ofValue]
          · simp only [e2, e3]; exact hinv
          · intro ρ3 w3 s3
            have hn2 : H2.next ≤ H3.next := (s2.trans s3).le.next
            have hl3 : l < H3.next := by omega
            have hlb : ρ3.blk l = ρ1.blk l := ((s2.trans s3).ext.blk l hl)
            have hs3 : scA H3.next { a with defers := mark ++ a.defers } := hs2.mono hn2
            have hact3 : ρ3.act { a with defers := mark ++ a.defers } = ρ1.act { a with defers := mark ++ a.defers } := act_ext (s2.trans s3).ext hs2
            have stot := (s1.trans s2).trans s3
            cases out with
            | ok v =>
              obtain ⟨lp, le, hlp, hnb, hpe, rfl⟩ := hout
              obtain ⟨fn3, hgl, w4, hset, s4⟩ := setLoop_run s3.rel (lp' := { lp with state := .exhausted }) hlp rfl
              rw [hlb] at hgl hset
              have hn4 : (setLoop H3 l { lp with state := .exhausted } le).next = H3.next := rfl
              have hendl : (Instr.endLoop (ρ1.blk l)).run P w3 = .ok lp.pending w4 := by
                have hb : (lp.state == .busy) = false := by simpa using hnb
                simp only [Instr.endLoop, Sem.run_bind, hgl, Result.andThen_ok, hb, Bool.false_eq_true, if_false]
                rw [show ({ ({ lp with fn := fn3, tmps := ρ3.tmps le, defers := ρ3.blk lp.defers } : Loop) with state := .exhausted } : Loop) =
                  { ({ lp with state := .exhausted } : Loop) with fn := fn3, tmps := ρ3.tmps le, defers := ρ3.blk lp.defers } from rfl, hset]
                simp
              intro _
              refine ⟨lp.pending, w4, hendl, ?_⟩
              rw [hsame, ← hact3]
              have hro4 : ∀ l0, ro = some l0 → l0 < (setLoop H3 l { lp with state := .exhausted } le).next := fun l0 h0 => by
                rw [hn4]; exact Nat.lt_of_lt_of_le (hro l0 h0) stot.le.next
              have hFr4 : F.round = ro.map ρ3.blk := round_ext hFr hro stot
              generalize setLoop H3 l { lp with state := .exhausted } le = H4 at s4 hn4 hro4 hQ
              split
              · rename_i hpn
                rw [hpn] at hpe
                simp only [pendE, Option.some.injEq] at hpe
                subst hpe
                exact hQ ρ3 w4 (stot.trans s4) (hs3.mono (Nat.le_of_eq hn4.symm)) trivial
              · rename_i c hpc
                rw [hpc] at hpe
                refine Runs.pend (P := P) (ro := ro) hpe ρ3 w4 F n Q hF hFr4 hro4 s4.rel (hs3.mono (Nat.le_of_eq hn4.symm)) ?_
                intro ρ5 w5 s5 h1 h2
                exact hQ ρ5 w5 ((stot.trans s4).trans s5) h1 h2
            | error ch =>
              intro hch
              obtain ⟨rfl, rfl⟩ := hout
              show Q (.panic (ch.map ρ3.pe)) _ w3
              rw [hsame, ← hact3]
              exact hQ ρ3 w3 stot hs3 hch
        cases out with
        | ok v =>
          obtain ⟨lp, le, e, h1, h2, h3, h4⟩ := h
          exact ⟨e, _, _, key e _ ⟨lp, le, h1, h2, h3, rfl⟩, h4⟩
        | error ch => exact ⟨_, _, _, key _ _ ⟨rfl, rfl⟩, h⟩
      · exact h.elim
    · exact h.elim
  · exact h.elim

def roundsA (W : (Exit → AAct → AHeap → Prop) → AAct → AHeap → Prop) (Q : Exit → AAct → AHeap → Prop) : Nat → AAct → AHeap → Prop
  | 0, _, _ => False
  | m + 1, a, H => W (fun e a1 H1 => match e with
    | .normal => roundsA W Q m a1 H1
    | e => Q e a1 H1) a H

def seqQ (W : AAct → AHeap → Prop) (Q : Exit → AAct → AHeap → Prop) : Exit → AAct → AHeap → Prop
  | .normal, a, H => W a H
  | e, a, H => Q e a H

def scopeQ (Q : Exit → AAct → AHeap → Prop) : Exit → AAct → AHeap → Prop
  | .goto _, _, _ => False
  | e, a, H => Q e a H

def condA (v : Option Value) (X Y : Prop) : Prop :=
  match v with
  | some (.bool true) => X
  | some (.bool false) => Y
  | _ => False

def wpA (P : Program) (ro : Option Nat) : Code → (Exit → AAct → AHeap → Prop) → AAct → AHeap → Prop
  | .skip, Q, a, H => Q .normal a H
  | .label _, Q, a, H => Q .normal a H
  | .exit id, Q, a, H => Q (.exit id) a H
  | .goto l, Q, a, H => Q (.goto l) a H
  | .ret, Q, a, H => Q .ret a H
  | .seq x y, Q, a, H => wpA P ro x (seqQ (fun a1 H1 => wpA P ro y Q a1 H1) Q) a H
  | .cond c x y, Q, a, H => condA (aeval P a c) (wpA P ro x Q a H) (wpA P ro y Q a H)
  | .block id b, Q, a, H => wpA P ro b (fun e a1 H1 => Q (outB id e) a1 H1) a H
  | .scope b, Q, a, H => wpA P ro b (scopeQ Q) a H
  | .loop b, Q, a, H => ∃ m, roundsA (fun Q' a' H' => wpA P ro b Q' a' H') Q m a H
  | .region _ ops draw, Q, a, H => (match draw with
    | true => staticOk ops = true ∧ (wpDraw P ops (ancs ops) ops.toList 0 [] a H (Q .normal) ∨ ∃ l o, ops.toList = l ++ [o] ∧ (List.range (ops.size - 1)).all (fun j => ((ancs ops).getD (ops.size - 1) 0).testBit j) = true ∧ isDef o.op = false ∧ wpDraw P ops (ancs ops) l 0 [] a H fun a1 H1 => wantA ops a1 o = some true ∧ wpOps P ro ops [o] a1 H1 Q)
    | false => wpOps P ro ops ops.toList a H Q)
  | .rangeFunc f ps assign body, Q, a, H => (match aeval P a f with
    | some fv => rangeA P ro fv ps assign body a H Q
    | none => False)
  | .refuse _, _, _, _ => False

theorem wpA_sound (hmix : P.follows .mixedOrders = true) : ∀ (c : Code) (Q : Exit → AAct → AHeap → Prop) (a : AAct) (H : AHeap), wpA P ro c Q a H → ∃ e a1 H1, Runs P ro c a H e a1 H1 ∧ Q e a1 H1 := by
  intro c
  induction c with
  | skip => exact fun Q a H h => ⟨_, _, _, Runs.skip, h⟩
  | label l => exact fun Q a H h => ⟨_, _, _, Runs.label, h⟩
  | exit id => exact fun Q a H h => ⟨_, _, _, Runs.exit, h⟩
  | goto l => exact fun Q a H h => ⟨_, _, _, Runs.goto, h⟩
  | ret => exact fun Q a H h => ⟨_, _, _, Runs.ret, h⟩
  | seq x y ihx ihy =>
    intro Q a H h
    simp only [wpA] at h
    obtain ⟨e, a2, H2, hx, h2⟩ := ihx _ a H h
    cases e with
    | normal =>
      obtain ⟨e, a1, H1, hy, h3⟩ := ihy Q a2 H2 h2
      exact ⟨e, a1, H1, hx.seq hy, h3⟩
    | exit id => exact ⟨_, a2, H2, hx.seq_out (by simp), h2⟩
    | goto l => exact ⟨_, a2, H2, hx.seq_out (by simp), h2⟩
    | ret => exact ⟨_, a2, H2, hx.seq_out (by simp), h2⟩
    | panic ch => exact ⟨_, a2, H2, hx.seq_out (by simp), h2⟩
    | outgrown => exact ⟨_, a2, H2, hx.seq_out (by simp), h2⟩
  | cond c x y ihx ihy =>
    intro Q a H h
    simp only [wpA, condA] at h
    split at h
    · rename_i hc
      obtain ⟨e, a1, H1, hx, h2⟩ := ihx Q a H h
      exact ⟨e, a1, H1, Runs.cond hc hx, h2⟩
    · rename_i hc
      obtain ⟨e, a1, H1, hx, h2⟩ := ihy Q a H h
      exact ⟨e, a1, H1, Runs.cond hc hx, h2⟩
    · exact h.elim
  | block id b ih =>
    intro Q a H h
    simp only [wpA] at h
    obtain ⟨e, a1, H1, hx, h2⟩ := ih _ a H h
    exact ⟨_, a1, H1, hx.block, h2⟩
  | scope b ih =>
    intro Q a H h
    simp only [wpA] at h
    obtain ⟨e, a1, H1, hx, h2⟩ := ih _ a H h
    cases e with
    | goto l => exact h2.elim
    | normal => exact ⟨_, a1, H1, hx.scope (by simp), h2⟩
    | exit id => exact ⟨_, a1, H1, hx.scope (by simp), h2⟩
    | ret => exact ⟨_, a1, H1, hx.scope (by simp), h2⟩
    | panic ch => exact ⟨_, a1, H1, hx.scope (by simp), h2⟩
    | outgrown => exact ⟨_, a1, H1, hx.scope (by simp), h2⟩
  | loop b ih =>
    intro Q a H h
    simp only [wpA] at h
    obtain ⟨m, h⟩ := h
    have key : ∀ (m : Nat) (a : AAct) (H : AHeap), roundsA (fun Q' a' H' => wpA P ro b Q' a' H') Q m a H → ∃ e a1 H1, RoundsR P ro b m a H e a1 H1 ∧ Q e a1 H1 := by
      intro m
      induction m with
      | zero => exact fun a H h => h.elim
      | succ m ihm =>
        intro a H h
        simp only [roundsA] at h
        obtain ⟨e, a2, H2, hx, h2⟩ := ih _ a H h
        cases e with
        | normal =>
          obtain ⟨e, a1, H1, hy, h3⟩ := ihm a2 H2 h2
          exact ⟨e, a1, H1, hy.next hx, h3⟩
        | exit id => exact ⟨_, a2, H2, RoundsR.last hx (by simp), h2⟩
        | goto l => exact ⟨_, a2, H2, RoundsR.last hx (by simp), h2⟩
        | ret => exact ⟨_, a2, H2, RoundsR.last hx (by simp), h2⟩
        | panic ch => exact ⟨_, a2, H2, RoundsR.last hx (by simp), h2⟩
        | outgrown => exact ⟨_, a2, H2, RoundsR.last hx (by simp), h2⟩
    obtain ⟨e, a1, H1, hx, h2⟩ := key m a H h
    exact ⟨e, a1, H1, Runs.loop hx, h2⟩
  | region id ops draw =>
    intro Q a H h
    simp only [wpA] at h
    cases draw with
    | true =>
      obtain ⟨hst, h | ⟨l, o, hsp, hanc, hdf, h⟩⟩ := h
      · obtain ⟨a1, H1, hr, hq⟩ := wpDraw_sound (ro := ro) (id := id) hmix hst h
        exact ⟨_, a1, H1, hr, hq⟩
      · exact wpDrawP_sound hmix hst hsp hanc hdf h
    | false =>
      obtain ⟨e, a1, H1, hr, hq⟩ := wpOps_sound ops.toList 0 a H (by simp) h
      refine ⟨e, a1, H1, ?_, hq⟩
      intro ρ w F n Q' hF hFr hro r hs hQ
      refine wpIn_region ?_
      rw [List.range_eq_range']
      have := hr ρ w F n Q' hF hFr hro r hs hQ
      simpa using this
  | rangeFunc f ps assign body _ _ =>
    intro Q a H h
    simp only [wpA] at h
    split at h
    · rename_i fv hfv
      exact rangeA_sound hfv h
    · exact h.elim
  | refuse s => exact fun Q a H h => h.elim

def recX (P : Program) : Rec := exec P (fun _ _ _ => none) 60
theorem recX_sound (hmix : P.follows .mixedOrders = true) : Sound P (recX P) := (exec_sound hmix (fun _ _ _ _ h => (by cases h)) 60).1

def leaveA (P : Program) (fn : Func) (a1 : AAct) : List Deferred → FrameMode → AHeap → (Out → AHeap → Prop) → Prop
  | [], .returning, H, R => ∃ vs, resVal P H a1 fn.results.toList = some vs ∧ R (.ok (tup vs)) H
  | [], .panicking ch, H, R => R (.error ch) H
  | ⟨.collected r, _⟩ :: ds, .returning, H, R => (∃ o v, H.get r = some ⟨.deferred (some []), o, v⟩) ∧ leaveA P fn a1 ds .returning (H.upd r (some ⟨.deferred none, false, ⟨[], 0⟩⟩)) R
  | ⟨.collected r, _⟩ :: ds, .panicking ch, H, R => (∃ o v, H.get r = some ⟨.deferred (some []), o, v⟩) ∧ leaveA P fn a1 ds (.panicking ch) (H.upd r (some ⟨.deferred none, false, ⟨[], 0⟩⟩)) R
  | ⟨.fn (.func f) cap, as⟩ :: ds, .returning, H, R => hasBody P f = true ∧ ∃ v u1 H1, enterD P (recX P) f (as.toList ++ cap.toList) .returning H = some (.ok v, u1, H1) ∧ leaveA P fn a1 ds (settle u1) H1 R
  | ⟨.fn (.func f) cap, as⟩ :: ds, .panicking ch, H, R => hasBody P f = true ∧ ∃ v u1 H1, enterD P (recX P) f (as.toList ++ cap.toList) (.panicking ch) H = some (.ok v, u1, H1) ∧ leaveA P fn a1 ds (settle u1) H1 R
  | _, _, _, _ => False

def endA (P : Program) (fn : Func) (R : Out → AHeap → Prop) : Exit → AAct → AHeap → Prop
  | .normal, a1, H1 => leaveA P fn a1 a1.defers .returning H1 R
  | .ret, a1, H1 => leaveA P fn a1 a1.defers .returning H1 R
  | .panic ch, a1, H1 => leaveA P fn a1 a1.defers (.panicking ch) H1 R
  | _, _, _ => False

theorem leaveA_leave {fn : Func} {R : Out → AHeap → Prop} : ∀ (ds : List Deferred) (u : FrameMode) (H : AHeap), leaveA P fn a1 ds u H R → ∃ out H1, leaveF P (recX P) fn a1 ds u H = some (out, H1) ∧ R out H1
  | [], .returning, H, ⟨vs, h1, h3⟩ => ⟨_, _, by simp only [leaveF, h1, Option.map_some]; exact ⟨rfl, h3⟩⟩
  | [], .panicking ch, H, h => ⟨_, _, rfl, h⟩
  | [], .run, H, h => h.elim
  | ⟨.collected r, _⟩ :: ds, .returning, H, ⟨⟨o, v, hg⟩, h⟩ => by
    obtain ⟨out, H1, h1, h2⟩ := leaveA_leave ds .returning _ h
    exact ⟨out, H1, by simp only [leaveF, hg]; exact h1, h2⟩
  | ⟨.collected r, _⟩ :: ds, .panicking ch, H, ⟨⟨o, v, hg⟩, h⟩ => by
    obtain ⟨out, H1, h1, h2⟩ := leaveA_leave ds (.panicking ch) _ h
    exact ⟨out, H1, by simp only [leaveF, hg]; exact h1, h2⟩
  | ⟨.collected r, _⟩ :: ds, .run, H, h => h.elim
  | ⟨.fn (.func f) cap, as⟩ :: ds, .returning, H, ⟨hb, v, u1, H1, he, h⟩ => by
    obtain ⟨out, H2, h1, h2⟩ := leaveA_leave ds _ _ h
    exact ⟨out, H2, by simp only [leaveF, hb, if_true, he]; exact h1, h2⟩
  | ⟨.fn (.func f) cap, as⟩ :: ds, .panicking ch, H, ⟨hb, v, u1, H1, he, h⟩ => by
    obtain ⟨out, H2, h1, h2⟩ := leaveA_leave ds _ _ h
    exact ⟨out, H2, by simp only [leaveF, hb, if_true, he]; exact h1, h2⟩
  | ⟨.fn (.func f) cap, as⟩ :: ds, .run, H, h => h.elim
  | ⟨.fn (.yield _) _, _⟩ :: _, u, H, h => by cases u <;> exact h.elim
  | ⟨.nil, _⟩ :: _, u, H, h => by cases u <;> exact h.elim
  | ⟨.builtin .., _⟩ :: _, u, H, h => by cases u <;> exact h.elim
  | ⟨.coroexit .., _⟩ :: _, u, H, h => by cases u <;> exact h.elim

theorem callA_of (hmix : P.follows .mixedOrders = true) {f : FuncId} {args : List Value} {fn : Func} {c : Code} {R : Out → AHeap → Prop} (hfn : P.funcs[f]? = some fn) (hc : fn.body = some c) (hle : args.length ≤ fn.ntmps)
    (h : wpA P none c (endA P fn R) ⟨{ RV.ofList args with n := fn.ntmps }, []⟩ H) : CallA P f args H R := by
  obtain ⟨e, a1, H2, hr, hq⟩ := wpA_sound hmix c _ _ _ h
  have key : ∀ (u : FrameMode), leaveA P fn a1 a1.defers u H2 R → (∀ out H1, leaveF P (recX P) fn a1 a1.defers u H2 = some (out, H1) → endF P (recX P) fn (e, a1, H2) = some (out, H1)) → CallA P f args H R := by
    intro u hl he
    obtain ⟨out, H1, h1, h3⟩ := leaveA_leave _ _ _ hl
    exact ⟨out, H1, enter_core (recX_sound hmix) hfn hc hle hr (he out H1 h1), h3⟩
  cases e with
  | normal => exact key .returning hq (fun _ _ h => h)
  | ret => exact key .returning hq (fun _ _ h => h)
  | panic ch => exact key (.panicking ch) hq (fun _ _ h => h)
  | exit id => exact hq.elim
  | goto l => exact hq.elim
  | outgrown => exact hq.elim

theorem callA_exec (hmix : P.follows .mixedOrders = true) {K : FuncId → List Value → AHeap → Option Value} (hK : Known P K) {fuel : Nat} {f : FuncId} {args : List Value} {v : Value} {R : Out → AHeap → Prop}
    (h : call P K fuel f args H = some (.ok v, H1)) (hR : R (.ok v) H1) : CallA P f args H R :=
  ⟨_, _, fun _ _ r hsc _ _ _ hF hO => enterF_run (exec_sound hmix hK fuel).1 r h hsc hF hO, hR⟩

theorem CallA.mono {f : FuncId} {args : List Value} {R R' : Out → AHeap → Prop} (h : CallA P f args H R) (hR : ∀ out H1, R out H1 → R' out H1) : CallA P f args H R' :=
  let ⟨out, H1, h1, h3⟩ := h; ⟨out, H1, h1, hR _ _ h3⟩

end
end Go.Ax

/- Walks over abstract heaps: environments as functions, loops, regions that draw. -/
namespace Go.Ax

abbrev Env := Nat → Value

def upd (E : Env) (d : Nat) (v : Value) : Env := fun t => if t = d then v else E t

theorem upd_same (E : Env) (d : Nat) (v : Value) : upd E d v d = v := by simp [upd]
theorem upd_ne (E : Env) {d t : Nat} (v : Value) (h : t ≠ d) : upd E d v t = E t := by simp [upd, h]

def env0 : Env := fun _ => undef

def entryE (E : Env) (k : Nat) : List Value → Env
  | [] => E
  | v :: r => entryE (upd E k v) (k + 1) r

def chunk (E : Env) (k m : Nat) : List Value := (List.range m).map fun i => E (k + i)
def chunks (E : Env) (k : Nat) : Nat → List (List Value)
  | 0 => []
  | m + 1 => chunk E k 16 :: chunks E (k + 16) m

def rvOf (N : Nat) (E : Env) : RV := ⟨chunks (fun t => if t < N then E t else undef) 0 (N / 16 + 1), N⟩

theorem chunks_get (E : Env) : ∀ (m k i : Nat), i < m → (chunks E k m).getD i [] = chunk E (k + 16 * i) 16
  | 0, _, _, h => by omega
  | m + 1, k, 0, _ => by simp [chunks]
  | m + 1, k, i + 1, h => by
    have := chunks_get E m (k + 16) i (by omega)
    simp only [chunks, List.getD_cons_succ, this]
    congr 1; omega

theorem chunk_get (E : Env) (k m i : Nat) (h : i < m) : (chunk E k m).getD i undef = E (k + i) := by
  simp [chunk, List.getD, h]

theorem rvOf_get (N : Nat) (E : Env) (t : Nat) (h : t < N) : (rvOf N E).get t = E t := by
  unfold rvOf RV.get
  simp only
  rw [chunks_get _ _ _ _ (by have := Nat.div_le_div_right (c := 16) (Nat.le_of_lt h); omega), chunk_get _ _ _ _ (Nat.mod_lt _ (by omega))]
  have : 0 + 16 * (t / 16) + t % 16 = t := by omega
  rw [this, if_pos h]

def mkA (N : Nat) (E : Env) (ds : List Deferred) : AAct := ⟨rvOf N E, ds⟩

theorem lset_map {α : Type} (d : α) (f : Nat → α) (v : α) : ∀ (m i : Nat), i < m → lset d ((List.range m).map f) i v = (List.range m).map fun j => if j = i then v else f j := by
  intro m i h
  apply List.ext_getElem?
  intro j
  have key : ∀ (l : List α) (i : Nat), i < l.length → ∀ j : Nat, (lset d l i v)[j]? = if j = i then some v else l[j]? := by
    intro l
    induction l with
    | nil => intro i h; simp at h
    | cons x l ih =>
      intro i h j
      cases i with
      | zero => cases j <;> simp [lset]
      | succ i =>
        cases j with
        | zero => simp [lset]
        | succ j => simp only [lset, List.getElem?_cons_succ]; rw [ih i (by simpa using h) j]; simp
  rw [key _ i (by simpa using h) j]
  by_cases e : j = i
  · subst e; simp [h]
  · rw [if_neg e]
    simp only [List.getElem?_map]
    by_cases hj : j < m
    · simp [hj, e]
    · simp [hj]

theorem chunks_set (E : Env) (d : Nat) (v : Value) : ∀ (m k i : Nat), i < m → (∀ t, k + 16 * i ≤ t → t < k + 16 * i + 16 → True) → k + 16 * i ≤ d → d < k + 16 * i + 16 →
    lset [] (chunks E k m) i (lset undef (chunk E (k + 16 * i) 16) (d - (k + 16 * i)) v) = chunks (upd E d v) k m
  | 0, _, _, h, _, _, _ => by omega
  | m + 1, k, 0, _, _, h1, h2 => by
    simp only [chunks, lset, Nat.mul_zero, Nat.add_zero] at *
    congr 1
    · rw [chunk, lset_map _ _ _ _ _ (by omega), chunk]
      apply List.map_congr_left
      intro j hj
      have hj := List.mem_range.1 hj
      simp only [upd]
      by_cases e : k + j = d
      · rw [if_pos (by omega), if_pos e]
      · rw [if_neg (by omega), if_neg e]
    · have : ∀ (m k : Nat), d < k → chunks E k m = chunks (upd E d v) k m := by
        intro m
        induction m with
        | zero => intro k _; rfl
        | succ m ih =>
          intro k hk
          rw [chunks, chunks, ih (k + 16) (by omega)]
          congr 1
          unfold chunk
          apply List.map_congr_left
          intro j _
          rw [upd_ne _ _ (by omega)]
      exact this m (k + 16) (by omega)
  | m + 1, k, i + 1, h, h0, h1, h2 => by
    have := chunks_set E d v m (k + 16) i (by omega) (fun _ _ _ => trivial) (by omega) (by omega)
    simp only [chunks, lset]
    rw [show k + 16 * (i + 1) = k + 16 + 16 * i from by omega, this]
    congr 1
    unfold chunk
    apply List.map_congr_left
    intro j hj
    have hj := List.mem_range.1 hj
    rw [upd_ne _ _ (by omega)]

theorem rvOf_set (N : Nat) (E : Env) (d : Nat) (v : Value) (h : d < N) : (rvOf N E).set d v = rvOf N (upd E d v) := by
  have hq : d / 16 < N / 16 + 1 := by have := Nat.div_le_div_right (c := 16) (Nat.le_of_lt h); omega
  unfold rvOf RV.set
  simp only
  rw [chunks_get _ _ _ _ hq]
  have := chunks_set (fun t => if t < N then E t else undef) d v (N / 16 + 1) 0 (d / 16) hq (fun _ _ _ => trivial) (by omega) (by omega)
  rw [show d - (0 + 16 * (d / 16)) = d % 16 from by omega] at this
  rw [this]
  congr 2
  funext t
  simp only [upd]
  by_cases e : t = d
  · subst e; simp [h]
  · simp [e]

theorem put_some (N : Nat) (E : Env) (ds : List Deferred) (d : Nat) (v : Value) (h : d < N) : (mkA N E ds).put (some d) v = mkA N (upd E d v) ds := by
  have hb : Nat.blt d (mkA N E ds).env.n = true := blt_of h
  simp only [AAct.put_eq, hb, if_true]
  show (⟨(rvOf N E).set d v, ds⟩ : AAct) = _
  rw [rvOf_set N E d v h]; rfl
theorem put_none (a : AAct) (v : Value) : a.put none v = a := rfl
theorem tmp_mk (N : Nat) (E : Env) (ds : List Deferred) (t : Nat) (h : t < N) : (mkA N E ds).tmp t = E t := by
  have hb : Nat.blt t (mkA N E ds).env.n = true := blt_of h
  simp only [AAct.tmp, hb, if_true]
  exact rvOf_get N E t h
theorem aeval_tmp {P : Program} (N : Nat) (E : Env) (ds : List Deferred) (t : Nat) (h : t < N) : aeval P (mkA N E ds) (.tmp t) = some (E t) := by rw [aeval, tmp_mk N E ds t h]
theorem mk_defers (N : Nat) (E : Env) (ds : List Deferred) : (mkA N E ds).defers = ds := rfl
theorem mk_defer (N : Nat) (E : Env) (ds es : List Deferred) : (⟨(mkA N E ds).env, es⟩ : AAct) = mkA N E es := rfl

theorem entryE_get : ∀ (l : List Value) (E : Env) (k t : Nat), entryE E k l t = if k ≤ t ∧ t < k + l.length then l.getD (t - k) undef else E t
  | [], E, k, t => by rw [entryE, if_neg (by simp only [List.length_nil]; omega)]
  | v :: r, E, k, t => by
    rw [entryE, entryE_get r]
    simp only [List.length_cons]
    by_cases e : t = k
    · subst e
      rw [if_neg (by omega), if_pos (by omega), upd_same, Nat.sub_self]; rfl
    · by_cases h : k + 1 ≤ t ∧ t < k + 1 + r.length
      · rw [if_pos h, if_pos (by omega)]
        obtain ⟨j, hj⟩ : ∃ j, t - k = j + 1 := ⟨t - k - 1, by omega⟩
        rw [hj, List.getD_cons_succ, show t - (k + 1) = j from by omega]
      · rw [if_neg h, if_neg (by omega), upd_ne _ _ e]

section
variable {P : Program} {ro : Option Nat} {H H1 : AHeap}

theorem Runs.congr {c : Code} {a a' a1 : AAct} {e : Exit} (h : Runs P ro c a' H e a1 H1) (ha : ∀ ρ : Ren, ρ.act a = ρ.act a') (hs : ∀ N, scA N a → scA N a') : Runs P ro c a H e a1 H1 := by
  intro ρ w F n Q hF hFr hro r hsa hQ
  rw [ha]
  exact h ρ w F n Q hF hFr hro r (hs _ hsa) hQ

theorem callA_fn (hmix : P.follows .mixedOrders = true) {f : FuncId} {args : List Value} {fn : Func} {c : Code} {N : Nat} {R : Out → AHeap → Prop} (hfn : P.funcs[f]? = some fn) (hc : fn.body = some c) (hN : fn.ntmps = N) (hle : args.length ≤ N)
    (h : wpA P none c (endA P fn R) (mkA N (entryE env0 0 args) []) H) : CallA P f args H R := by
  obtain ⟨e, a1, H2, hr, hq⟩ := wpA_sound hmix c _ _ _ h
  have hg : ∀ t, t < N → ({ RV.ofList args with n := N } : RV).get t = (rvOf N (entryE env0 0 args)).get t := by
    intro t ht
    rw [rvOf_get _ _ _ ht, entryE_get]
    have h1 : ({ RV.ofList args with n := N } : RV).get t = args.getD t undef := RV.get_ofList args t
    rw [h1]
    by_cases h2 : t < args.length
    · rw [if_pos (by omega)]; simp
    · rw [if_neg (by omega), List.getD, List.getElem?_eq_none (Nat.not_lt.1 h2)]; rfl
  have hr' : Runs P none c ⟨{ RV.ofList args with n := fn.ntmps }, []⟩ H e a1 H2 := by
    rw [hN]
    refine hr.congr (fun ρ => ?_) (fun M hs => ?_)
    · refine act_same ρ ρ rfl rfl (fun t ht => ?_)
      have := hg t ht
      simp only [mkA]
      rw [this]
    · refine ⟨fun i hi => ?_, fun d hd => by cases hd⟩
      have := hs.1 i hi
      rw [hg i hi] at this
      exact this
  have key : ∀ (u : FrameMode), leaveA P fn a1 a1.defers u H2 R → (∀ out H1, leaveF P (recX P) fn a1 a1.defers u H2 = some (out, H1) → endF P (recX P) fn (e, a1, H2) = some (out, H1)) → CallA P f args H R := by
    intro u hl he
    obtain ⟨out, H1, h1, h3⟩ := leaveA_leave _ _ _ hl
    exact ⟨out, H1, enter_core (recX_sound hmix) hfn hc (by omega) hr' (he out H1 h1), h3⟩
  cases e with
  | normal => exact key .returning hq (fun _ _ h => h)
  | ret => exact key .returning hq (fun _ _ h => h)
  | panic ch => exact key (.panicking ch) hq (fun _ _ h => h)
  | exit id => exact hq.elim
  | goto l => exact hq.elim
  | outgrown => exact hq.elim

theorem nextA_mono {x : ANext} {R R' : Out → AHeap → Prop} (hR : ∀ out H1, R out H1 → R' out H1) (h : nextA P x H R) : nextA P x H R' := by
  cases x with
  | value v => exact hR _ _ h
  | skip => exact hR _ _ h
  | enter f args => exact CallA.mono h hR
  | round r => obtain ⟨out, H1, h2, h4⟩ := h; exact ⟨out, H1, h2, hR _ _ h4⟩
  | panic v => exact hR _ _ h

theorem opA_mono {op : Op} {a : AAct} {R R' : Out → AHeap → Prop} (hR : ∀ out H1, R out H1 → R' out H1) (h : opA P op a H R) : opA P op a H R' := by
  unfold opA at *
  split at h
  · rename_i hx; exact nextA_mono hR h
  · exact h.elim

theorem wpOps_mono {P : Program} {ro : Option Nat} {ops : Array Oper} {Q Q' : Exit → AAct → AHeap → Prop} (hQ : ∀ e a H, Q e a H → Q' e a H) : ∀ (l : List Oper) (a : AAct) (H : AHeap), wpOps P ro ops l a H Q → wpOps P ro ops l a H Q'
  | [], a, H, h => hQ _ _ _ h
  | o :: rest, a, H, h => by
    simp only [wpOps] at *
    cases hw : wantA ops a o with
    | none => rw [hw] at h; exact h.elim
    | some b =>
      rw [hw] at h
      cases b with
      | false => exact wpOps_mono hQ rest _ _ h
      | true =>
        simp only at h ⊢
        have key : ∀ {H : AHeap}, opA P o.op a H (fun out H1 => match out with
            | .ok v => wpOps P ro ops rest (a.put o.dst v) H1 Q
            | .error ch => Q (.panic ch) a H1) → opA P o.op a H (fun out H1 => match out with
            | .ok v => wpOps P ro ops rest (a.put o.dst v) H1 Q'
            | .error ch => Q' (.panic ch) a H1) := fun h => opA_mono (fun out H1 h => by
          cases out with
          | ok v => exact wpOps_mono hQ rest _ _ h
          | error ch => exact hQ _ _ _ h) h
        cases ro with
        | some l => exact key h
        | none =>
          cases hd : aDefer P a o.op with
          | none => rw [hd] at h; exact key h
          | some d => rw [hd] at h; exact wpOps_mono hQ rest _ _ h

theorem wpDraw_mono {ops : Array Oper} {anc : List Nat} {Q Q' : AAct → AHeap → Prop} (hQ : ∀ a H, Q a H → Q' a H) : ∀ (l : List Oper) (i : Nat) (fps : List Fp) (a : AAct) (H : AHeap), wpDraw P ops anc l i fps a H Q → wpDraw P ops anc l i fps a H Q'
  | [], _, _, a, H, h => hQ _ _ h
  | o :: rest, i, fps, a, H, h => by
    simp only [wpDraw] at *
    cases hw : wantA ops a o with
    | none => rw [hw] at h; exact h.elim
    | some b =>
      rw [hw] at h
      cases b with
      | false => exact wpDraw_mono hQ rest _ _ _ _ h
      | true =>
        obtain ⟨F, v, g, h1, h2, h3, h4, h5⟩ := h
        exact ⟨F, v, g, h1, h2, h3, h4, wpDraw_mono hQ rest _ _ _ _ h5⟩

theorem rangeA_mono {fv : Value} {ps : Array Tmp} {assign body : Code} {a : AAct} {Q Q' : Exit → AAct → AHeap → Prop} (hQ : ∀ e a H, Q e a H → Q' e a H) (h : rangeA P ro fv ps assign body a H Q) : rangeA P ro fv ps assign body a H Q' := by
  unfold rangeA at *
  split at h
  · split at h
    · rename_i l mark H1 hen
      split at h
      · rename_i g args hin
        refine CallA.mono h fun out H2 h => ?_
        cases out with
        | ok v => obtain ⟨lp, le, e, h1, h2, h3, h4⟩ := h; exact ⟨lp, le, e, h1, h2, h3, hQ _ _ _ h4⟩
        | error ch => exact hQ _ _ _ h
      · exact h.elim
    · exact h.elim
  · exact h.elim

theorem seqQ_mono {W W' : AAct → AHeap → Prop} {Q Q' : Exit → AAct → AHeap → Prop} (hW : ∀ a H, W a H → W' a H) (hQ : ∀ e a H, Q e a H → Q' e a H) : ∀ e a H, seqQ W Q e a H → seqQ W' Q' e a H := by
  intro e a H h
  cases e with
  | normal => exact hW _ _ h
  | _ => exact hQ _ _ _ h

theorem wpA_mono : ∀ (c : Code) {Q Q' : Exit → AAct → AHeap → Prop} (a : AAct) (H : AHeap), (∀ e a H, Q e a H → Q' e a H) → wpA P ro c Q a H → wpA P ro c Q' a H := by
  intro c
  induction c with
  | skip => exact fun a H hQ h => hQ _ _ _ h
  | label l => exact fun a H hQ h => hQ _ _ _ h
  | exit id => exact fun a H hQ h => hQ _ _ _ h
  | goto l => exact fun a H hQ h => hQ _ _ _ h
  | ret => exact fun a H hQ h => hQ _ _ _ h
  | seq x y ihx ihy =>
    intro Q Q' a H hQ h
    simp only [wpA] at *
    exact ihx a H (seqQ_mono (fun a H => ihy a H hQ) hQ) h
  | cond c x y ihx ihy =>
    intro Q Q' a H hQ h
    simp only [wpA, condA] at *
    split at h
    · rename_i hc; exact ihx a H hQ h
    · rename_i hc; exact ihy a H hQ h
    · exact h.elim
  | block id b ih =>
    intro Q Q' a H hQ h
    simp only [wpA] at *
    exact ih a H (fun e a H h => hQ _ _ _ h) h
  | scope b ih =>
    intro Q Q' a H hQ h
    simp only [wpA] at *
    refine ih a H (fun e a H h => ?_) h
    cases e with
    | goto l => exact h
    | _ => exact hQ _ _ _ h
  | loop b ih =>
    intro Q Q' a H hQ h
    simp only [wpA] at *
    obtain ⟨m, h⟩ := h
    refine ⟨m, ?_⟩
    have key : ∀ (m : Nat) (a : AAct) (H : AHeap), roundsA (fun Q' a' H' => wpA P ro b Q' a' H') Q m a H → roundsA (fun Q' a' H' => wpA P ro b Q' a' H') Q' m a H := by
      intro m
      induction m with
      | zero => exact fun a H h => h
      | succ m ihm =>
        intro a H h
        simp only [roundsA] at *
        refine ih a H (fun e a H h => ?_) h
        cases e with
        | normal => exact ihm a H h
        | _ => exact hQ _ _ _ h
    exact key m a H h
  | region id ops draw =>
    intro Q Q' a H hQ h
    simp only [wpA] at *
    cases draw with
    | true =>
      refine ⟨h.1, ?_⟩
      rcases h.2 with h | ⟨l, o, h1, h2, h3, h4⟩
      · exact .inl (wpDraw_mono (fun a H => hQ _ a H) _ _ _ _ _ h)
      · exact .inr ⟨l, o, h1, h2, h3, wpDraw_mono (fun a H h => ⟨h.1, wpOps_mono hQ _ _ _ h.2⟩) _ _ _ _ _ h4⟩
    | false => exact wpOps_mono hQ _ _ _ h
  | rangeFunc f ps assign body _ _ =>
    intro Q Q' a H hQ h
    simp only [wpA] at *
    split at h
    · exact rangeA_mono hQ h
    · exact h.elim
  | refuse s => exact fun a H hQ h => h.elim

theorem wpA_loop {b : Code} {Q : Exit → AAct → AHeap → Prop} (I : Nat → AAct → AHeap → Prop) {k : Nat} {a : AAct} (h0 : I k a H)
    (h : ∀ k a H, I k a H → wpA P ro b (seqQ (fun a1 H1 => ∃ j, j < k ∧ I j a1 H1) Q) a H) : wpA P ro (.loop b) Q a H := by
  have key : ∀ m k a H, k < m → I k a H → roundsA (fun Q' a' H' => wpA P ro b Q' a' H') Q m a H := by
    intro m
    induction m with
    | zero => intro k a H hk; omega
    | succ m ih =>
      intro k a H hk hI
      simp only [roundsA]
      refine wpA_mono b a H (fun e a1 H1 h1 => ?_) (h k a H hI)
      cases e with
      | normal =>
        obtain ⟨j, hj, hI'⟩ := h1
        exact ih j a1 H1 (by omega) hI'
      | _ => exact h1
  exact ⟨k + 1, key (k + 1) k a H (Nat.lt_succ_self _) h0⟩

theorem merge_self (H : AHeap) (F : List Nat) : H.merge (H.restrict F) = H := by
  obtain ⟨h1, h2, h3⟩ := restrict_next H F
  unfold AHeap.merge
  rw [h3, h1, Nat.sub_self]
  rfl

def pureOp : Op → Bool
  | .move _ => true
  | .assign _ => true
  | .pick _ _ _ => true
  | .build _ _ => true
  | .nilCheck _ => true
  | .unOp _ _ _ => true
  | .makeInterface _ _ => true
  | .makeFunc _ _ _ => true
  | .fieldAddr _ _ _ => true
  | .field _ _ _ => true
  | .indexAddr _ _ _ => true
  | .index _ _ _ => true
  | .typeAssert _ _ _ _ => true
  | .extract _ _ => true
  | _ => false

theorem pure_fun {op : Op} (hp : pureOp op = true) (a : AAct) : ∃ f : Option ANext, ∀ G : AHeap, aop op P a G = f.map fun x => (x, G) := by
  cases op with
  | move x => exact ⟨(aeval P a x).map .value, fun G => by simp only [aop, xMove, rv]; cases aeval P a x <;> rfl⟩
  | assign x => exact ⟨(aeval P a x).map .value, fun G => by simp only [aop, xMove, rv]; cases aeval P a x <;> rfl⟩
  | pick c x y =>
    refine ⟨(match aeval P a c with
      | some (.bool true) => (aeval P a x).map .value
      | some (.bool false) => (aeval P a y).map .value
      | _ => none), fun G => ?_⟩
    simp only [aop, xPick, rv, Option.bind_eq_bind]
    cases aeval P a c with
    | none => rfl
    | some v =>
      cases v with
      | bool b => cases b <;> simp only [Option.bind_some] <;> (first | cases aeval P a x <;> rfl | cases aeval P a y <;> rfl)
      | _ => rfl
  | build t ps => exact ⟨((pairs P a ps.toList).bind (aBuild P t)).map .value, fun G => by
      simp only [aop, xBuild, rv, Option.bind_eq_bind]
      cases pairs P a ps.toList with
      | none => rfl
      | some l => simp only [Option.bind_some]; cases aBuild P t l <;> rfl⟩
  | nilCheck x => exact ⟨(aeval P a x).bind fun v => (nilV P (AHeap.none 0) v).map (·.1), fun G => by
      simp only [aop, xNil, Option.bind_eq_bind]
      cases aeval P a x with
      | none => rfl
      | some v =>
        simp only [Option.bind_some]
        unfold nilV
        split <;> rfl⟩
  | unOp op t x => exact ⟨(aeval P a x).bind fun v => (unV P (AHeap.none 0) op v).map (·.1), fun G => by
      simp only [aop, xUn, Option.bind_eq_bind]
      cases aeval P a x with
      | none => rfl
      | some v =>
        simp only [Option.bind_some]
        unfold unV
        split
        · rfl
        · rfl
        · split
          · simp only [Option.map_map]; cases aPlain P (Op.unary op v) <;> rfl
          · rfl⟩
  | makeInterface t x => exact ⟨(aeval P a x).bind fun v => (ifaceV P (AHeap.none 0) t v).map (·.1), fun G => by
      simp only [aop, xIface, Option.bind_eq_bind]
      cases aeval P a x with
      | none => rfl
      | some v => simp only [Option.bind_some]; unfold ifaceV; split <;> rfl⟩
  | makeFunc fn p q => exact ⟨(aevals P a p.toList).bind fun u => (aevals P a q.toList).bind fun v => (funcV (AHeap.none 0) fn u v).map (·.1), fun G => by
      simp only [aop, xFunc, Option.bind_eq_bind]
      cases aevals P a p.toList with
      | none => rfl
      | some u =>
        cases aevals P a q.toList with
        | none => rfl
        | some v => simp only [Option.bind_some]; unfold funcV; split <;> rfl⟩
  | fieldAddr t x f => exact ⟨(aeval P a x).bind fun v => (aFieldAddr P t v f).map .value, fun G => by
      simp only [aop, xFieldAddr, rv, Option.bind_eq_bind]
      cases aeval P a x with
      | none => rfl
      | some v => simp only [Option.bind_some]; cases aFieldAddr P t v f <;> rfl⟩
  | field t x f => exact ⟨(aeval P a x).bind fun v => (aField P t v f).map .value, fun G => by
      simp only [aop, xField, rv, Option.bind_eq_bind]
      cases aeval P a x with
      | none => rfl
      | some v => simp only [Option.bind_some]; cases aField P t v f <;> rfl⟩
  | indexAddr t x i => exact ⟨(aeval P a x).bind fun v => (aeval P a i).bind fun j => (aIndexAddr P t v j).map .value, fun G => by
      simp only [aop, xIndexAddr, rv, Option.bind_eq_bind]
      cases aeval P a x with
      | none => rfl
      | some v =>
        cases aeval P a i with
        | none => rfl
        | some j => simp only [Option.bind_some]; cases aIndexAddr P t v j <;> rfl⟩
  | index t x i => exact ⟨(aeval P a x).bind fun v => (aeval P a i).bind fun j => (indexV P (AHeap.none 0) t v j).map (·.1), fun G => by
      simp only [aop, xIndex, Option.bind_eq_bind]
      cases aeval P a x with
      | none => rfl
      | some v =>
        cases aeval P a i with
        | none => rfl
        | some j =>
          simp only [Option.bind_some]
          unfold indexV
          split
          · rfl
          · split
            · simp only [Option.map_map]; cases aPlain P (Instr.index t v j) <;> rfl
            · rfl⟩
  | typeAssert x t u ok => exact ⟨(aeval P a x).bind fun v => (aTypeAssert P v u ok).map .value, fun G => by
      simp only [aop, xTypeAssert, rv, Option.bind_eq_bind]
      cases aeval P a x with
      | none => rfl
      | some v => simp only [Option.bind_some]; cases aTypeAssert P v u ok <;> rfl⟩
  | extract x i => exact ⟨(aeval P a x).bind fun v => (extractV (AHeap.none 0) i v).map (·.1), fun G => by
      simp only [aop, xExtract, Option.bind_eq_bind]
      cases aeval P a x with
      | none => rfl
      | some v =>
        simp only [Option.bind_some]
        unfold extractV
        split
        · rename_i vs; simp only [rv]; cases vs.toList[i]? <;> rfl
        · rfl⟩
  | _ => cases hp

def Meets (anc : Nat) (F : List Nat) (W O : List Nat) (r : Fp) : Prop :=
  anc.testBit r.i = true ∨ ((∀ n ∈ r.W, n ∉ F) ∧ (∀ n ∈ r.F, n ∉ W) ∧ (r.lo < r.hi → (∀ n ∈ F, n < r.lo ∨ r.hi ≤ n) ∧ (∀ n ∈ O, n < r.lo ∨ r.hi ≤ n)))

theorem disj_of {a b : List Nat} (h : ∀ n ∈ a, n ∉ b) : disj a b = true := by
  refine List.all_eq_true.2 fun n hn => ?_
  cases hm : memN n b with
  | false => rfl
  | true => exact absurd (memN_iff.1 hm) (h n hn)

theorem avoids_of {lo hi : Nat} {l : List Nat} (h : ∀ n ∈ l, n < lo ∨ hi ≤ n) : avoids lo hi l = true := by
  refine List.all_eq_true.2 fun n hn => ?_
  rcases h n hn with h | h
  · rw [blt_of h]; rfl
  · rw [show Nat.ble hi n = true from Nat.ble_eq ▸ h]; simp

theorem fpOk_of {anc : Nat} {F : List Nat} {v : Value} {g : AHeap} {next : Nat} {r : Fp} (h : Meets anc F g.dirty (outIds v g next) r) : fpOk anc F v g next r = true := by
  rcases h with h | ⟨h1, h2, h3⟩
  · simp [fpOk, h]
  · have e1 := disj_of h1
    have e2 := disj_of h2
    by_cases hlt : r.lo < r.hi
    · obtain ⟨h4, h5⟩ := h3 hlt
      simp [fpOk, e1, e2, avoids_of h4, avoids_of h5]
    · have e3 : Nat.ble r.hi r.lo = true := Nat.ble_eq ▸ Nat.not_lt.1 hlt
      simp [fpOk, e1, e2, e3]

def NoFp (r : Fp) : Prop := r.F = [] ∧ r.W = [] ∧ r.hi ≤ r.lo

theorem fpOk_no {anc : Nat} {F : List Nat} {v : Value} {g : AHeap} {next : Nat} {r : Fp} (h : NoFp r) : fpOk anc F v g next r = true := by
  refine fpOk_of (.inr ⟨?_, ?_, fun hlt => ?_⟩)
  · rw [h.2.1]; simp
  · rw [h.1]; simp
  · have := h.2.2; omega

theorem wpDraw_weaken {ops : Array Oper} {anc : List Nat} {Q : AAct → AHeap → Prop} : ∀ (rest : List Oper) (i : Nat) (fps fps' : List Fp) (a : AAct) (H : AHeap), (∀ r ∈ fps', r ∈ fps ∨ NoFp r) → wpDraw P ops anc rest i fps a H Q → wpDraw P ops anc rest i fps' a H Q
  | [], _, _, _, a, H, _, h => h
  | o :: rest, i, fps, fps', a, H, hf, h => by
    simp only [wpDraw] at *
    cases hw : wantA ops a o with
    | none => rw [hw] at h; exact h.elim
    | some b =>
      rw [hw] at h
      cases b with
      | false => exact wpDraw_weaken rest _ fps fps' _ _ hf h
      | true =>
        obtain ⟨F, v, g, h1, h2, h3, h4, h5⟩ := h
        refine ⟨F, v, g, h1, h2, h3, fun r hr => ?_, wpDraw_weaken rest _ _ _ _ _ (fun r hr => ?_) h5⟩
        · rcases hf r hr with h | h
          · exact h4 r h
          · exact fpOk_no h
        · rcases List.mem_cons.1 hr with rfl | hr
          · exact .inl (List.mem_cons_self ..)
          · rcases hf r hr with h | h
            · exact .inl (List.mem_cons_of_mem _ h)
            · exact .inr h

def IdsOk (anc : Nat) (fps : List Fp) (O : List Nat) : Prop := ∀ r ∈ fps, r.lo < r.hi → anc.testBit r.i = true ∨ ∀ n ∈ O, n < r.lo ∨ r.hi ≤ n

theorem wpDraw_reg {ops : Array Oper} {anc : List Nat} {o : Oper} {rest : List Oper} {i : Nat} {fps : List Fp} {a : AAct} {Q : AAct → AHeap → Prop} {v : Value} (hw : wantA ops a o = some true)
    (hx : ∀ G, aop o.op P a G = some (.value v, G)) (hids : IdsOk (anc.getD i 0) fps (idsV v))
    (h : wpDraw P ops anc rest (i + 1) fps (a.put o.dst v) H Q) : wpDraw P ops anc (o :: rest) i fps a H Q := by
  have hn := restrict_next H []
  simp only [wpDraw, hw]
  refine ⟨[], v, H.restrict [], opS_of (x := .value v) (g := H.restrict []) (hx _) ⟨rfl, rfl⟩, (by simp), (by rw [hn.2.2]; simp), ?_, ?_⟩
  · intro r hr
    refine fpOk_of ?_
    by_cases hlt : r.lo < r.hi
    · rcases hids r hr hlt with h | h
      · exact .inl h
      · refine .inr ⟨by simp, by rw [hn.2.2]; simp, fun _ => ⟨by simp, fun n hn' => h n ?_⟩⟩
        simp only [outIds, hn.2.2, hn.1, Nat.sub_self, rangeFrom, List.append_nil, List.flatMap_nil] at hn'
        exact hn'
    · exact .inr ⟨by simp, by rw [hn.2.2]; simp, fun h => absurd h hlt⟩
  · rw [merge_self]
    refine wpDraw_weaken rest _ fps _ _ _ (fun r hr => ?_) h
    rcases List.mem_cons.1 hr with rfl | hr
    · exact .inr ⟨rfl, hn.2.2, by simp [hn.1]⟩
    · exact .inl hr

theorem wpDraw_pure {ops : Array Oper} {anc : List Nat} {o : Oper} {rest : List Oper} {i : Nat} {fps : List Fp} {a : AAct} {Q : AAct → AHeap → Prop} {v : Value} (hp : pureOp o.op = true) (hw : wantA ops a o = some true)
    (hx : aop o.op P a H = some (.value v, H)) (hids : IdsOk (anc.getD i 0) fps (idsV v))
    (h : wpDraw P ops anc rest (i + 1) fps (a.put o.dst v) H Q) : wpDraw P ops anc (o :: rest) i fps a H Q := by
  obtain ⟨f, hf⟩ := pure_fun (P := P) hp a
  refine wpDraw_reg hw (fun G => ?_) hids h
  have h1 := hf H
  rw [hx] at h1
  rw [hf]
  cases hfv : f with
  | none => rw [hfv] at h1; cases h1
  | some y => rw [hfv] at h1; simp only [Option.map_some, Option.some.injEq, Prod.mk.injEq] at h1 ⊢; exact ⟨h1.1.symm, trivial⟩

theorem wpDraw_quiet {ops : Array Oper} {anc : List Nat} {o : Oper} {rest : List Oper} {i : Nat} {fps : List Fp} {a : AAct} {Q : AAct → AHeap → Prop} {v : Value} (F : List Nat) (hw : wantA ops a o = some true)
    (hop : OpS P a (H.restrict F) o (.ok v) (H.restrict F)) (hF : ∀ n ∈ F, H.get n ≠ none) (hm : ∀ r ∈ fps, Meets (anc.getD i 0) F [] (idsV v) r)
    (h : wpDraw P ops anc rest (i + 1) (⟨i, F, [], H.next, H.next⟩ :: fps) (a.put o.dst v) H Q) : wpDraw P ops anc (o :: rest) i fps a H Q := by
  have hn := restrict_next H F
  simp only [wpDraw, hw]
  refine ⟨F, v, H.restrict F, hop, hF, (by rw [hn.2.2]; simp), fun r hr => fpOk_of ?_, ?_⟩
  · simp only [outIds, hn.2.2, hn.1, Nat.sub_self, rangeFrom, List.append_nil, List.flatMap_nil]
    exact hm r hr
  · rw [merge_self, hn.2.2, hn.1]; exact h

theorem wpDraw_load {ops : Array Oper} {anc : List Nat} {o : Oper} {rest : List Oper} {i : Nat} {fps : List Fp} {a : AAct} {Q : AAct → AHeap → Prop} {t : TypeId} {x : Operand} {v : Value} {n off : Nat} (ho : o.op = .load t x) (hw : wantA ops a o = some true)
    (hx : aeval P a x = some (.pointer (some ⟨n, off, none⟩))) (hl : aLoad P H t (.pointer (some ⟨n, off, none⟩)) = some v) (hm : ∀ r ∈ fps, Meets (anc.getD i 0) [n] [] (idsV v) r)
    (h : wpDraw P ops anc rest (i + 1) (⟨i, [n], [], H.next, H.next⟩ :: fps) (a.put o.dst v) H Q) : wpDraw P ops anc (o :: rest) i fps a H Q := by
  have hne : H.get n ≠ none := by
    intro hg
    simp [aLoad, cellsR, hg] at hl
  refine wpDraw_quiet [n] hw ?_ (by simpa using hne) hm h
  have hg : (H.restrict [n]).get n = H.get n := by rw [restrict_get]; simp
  have hl' : aLoad P (H.restrict [n]) t (.pointer (some ⟨n, off, none⟩)) = some v := by
    rw [← hl]
    simp only [aLoad, cellsR, hg]
  refine opS_of (x := .value v) (g := H.restrict [n]) ?_ ⟨rfl, rfl⟩
  rw [ho]
  simp only [aop, xLoad, hx, Option.bind_eq_bind, Option.bind_some, hl']
  rfl

end
end Go.Ax

/- Walks over abstract heaps: blocks of cells. -/
namespace Go.Ax
section
variable {P : Program} {H : AHeap}

def Blk (H : AHeap) (n : Nat) (e : TypeId) (o : Bool) (l : List Value) : Prop := ∃ rv, cellsAt H n = some (rv, e, o) ∧ rv.n = l.length ∧ ∀ i, i < l.length → rv.get i = l.getD i undef

theorem Blk.load {n off : Nat} {e t : TypeId} {o : Bool} {l : List Value} (h : Blk H n e o l) (ht : aggT P t = some false) (hoff : off < l.length) : aLoad P H t (.pointer (some ⟨n, off, none⟩)) = some (l.getD off undef) := by
  obtain ⟨rv, h1, h2, h3⟩ := h
  have hb : Nat.blt off rv.n = true := blt_of (by omega)
  simp only [aLoad, cellsR_of h1, ht, Option.bind_eq_bind, Option.bind_some, hb, if_true, h3 off hoff]

theorem Blk.gets {rv : RV} {l : List Value} (h2 : rv.n = l.length) (h3 : ∀ i, i < l.length → rv.get i = l.getD i undef) (off sz : Nat) (h : off + sz ≤ l.length) : rv.gets off sz = (l.drop off).take sz := by
  rw [RV.gets_eq]
  apply List.ext_getElem?
  intro i
  by_cases hi : i < sz
  · rw [List.getElem?_map, List.getElem?_range hi, List.getElem?_take_of_lt hi, List.getElem?_drop]
    have : off + i < l.length := by omega
    simp [h3 _ this, List.getD, this]
  · rw [List.getElem?_eq_none (by simpa using hi), List.getElem?_eq_none (by simp; omega)]

theorem Blk.loadAgg {n off sz : Nat} {e t : TypeId} {o : Bool} {l : List Value} (h : Blk H n e o l) (ht : aggT P t = some true) (hsz : szOf P t = some sz) (hoff : off + sz ≤ l.length) : aLoad P H t (.pointer (some ⟨n, off, none⟩)) = some (.agg ⟨(l.drop off).take sz⟩) := by
  obtain ⟨rv, h1, h2, h3⟩ := h
  have hb : Nat.ble (off + sz) rv.n = true := Nat.ble_eq ▸ (by omega)
  simp only [aLoad, cellsR_of h1, ht, hsz, Option.bind_eq_bind, Option.bind_some, hb, if_true, Blk.gets h2 h3 off sz hoff]

theorem Blk.ne_none {n : Nat} {e : TypeId} {o : Bool} {l : List Value} (h : Blk H n e o l) : H.get n ≠ none := by
  obtain ⟨rv, h1, _⟩ := h
  intro hg
  simp [cellsAt, hg] at h1

theorem Blk.of_get {G : AHeap} {n : Nat} {e : TypeId} {o : Bool} {l : List Value} (h : Blk H n e o l) (hg : G.get n = H.get n) : Blk G n e o l := by
  obtain ⟨rv, h1, h2⟩ := h
  exact ⟨rv, by simp only [cellsAt, hg] at *; exact h1, h2⟩

def splice (l : List Value) (off : Nat) (vs : List Value) : List Value := l.take off ++ vs ++ l.drop (off + vs.length)

def wr (H : AHeap) (n off : Nat) (vs : List Value) : AHeap := (aWrite H n off vs).getD H

theorem Blk.write {n off : Nat} {e : TypeId} {o : Bool} {l vs : List Value} (h : Blk H n e o l) (hoff : off + vs.length ≤ l.length) (h1 : vs.all one = true) (h2 : scbL H.next vs = true) : aWrite H n off vs = some (wr H n off vs) := by
  obtain ⟨rv, hc, hn, _⟩ := h
  have hb : Nat.ble (off + vs.length) rv.n = true := Nat.ble_eq ▸ (by omega)
  simp only [wr, aWrite, hc, Option.bind_eq_bind, Option.bind_some, hb, h1, h2, Bool.and_self, if_true, Option.getD_some]

theorem wr_eq {n off : Nat} {e : TypeId} {o : Bool} {l vs : List Value} (h : Blk H n e o l) (hoff : off + vs.length ≤ l.length) (h1 : vs.all one = true) (h2 : scbL H.next vs = true) :
    ∃ rv, cellsAt H n = some (rv, e, o) ∧ wr H n off vs = H.upd n (some ⟨.cells #[] e, o, rv.sets off vs⟩) := by
  obtain ⟨rv, hc, hn, _⟩ := h
  have hb : Nat.ble (off + vs.length) rv.n = true := Nat.ble_eq ▸ (by omega)
  exact ⟨rv, hc, by simp only [wr, aWrite, hc, Option.bind_eq_bind, Option.bind_some, hb, h1, h2, Bool.and_self, if_true, Option.getD_some]⟩

theorem wr_next (n off : Nat) (vs : List Value) : (wr H n off vs).next = H.next := by
  unfold wr aWrite
  cases hc : cellsAt H n with
  | none => rfl
  | some x =>
    obtain ⟨c, e, o⟩ := x
    simp only [Option.bind_eq_bind, Option.bind_some]
    split <;> rfl

theorem wr_get (n off : Nat) (vs : List Value) {m : Nat} (h : m ≠ n) : (wr H n off vs).get m = H.get m := by
  unfold wr aWrite
  cases hc : cellsAt H n with
  | none => rfl
  | some x =>
    obtain ⟨c, e, o⟩ := x
    simp only [Option.bind_eq_bind, Option.bind_some]
    split
    · simp only [Option.getD_some, AHeap.get_upd, if_neg h]
    · rfl

theorem wr_base (n off : Nat) (vs : List Value) : (wr H n off vs).base = H.base := by
  unfold wr aWrite
  cases hc : cellsAt H n with
  | none => rfl
  | some x =>
    obtain ⟨c, e, o⟩ := x
    simp only [Option.bind_eq_bind, Option.bind_some]
    split <;> rfl

theorem wr_dirty (n off : Nat) (vs : List Value) {m : Nat} (h : m ∈ (wr H n off vs).dirty) : m ∈ H.dirty ∨ (m = n ∧ n < H.base) := by
  unfold wr aWrite at h
  cases hc : cellsAt H n with
  | none => rw [hc] at h; exact .inl h
  | some x =>
    obtain ⟨c, e, o⟩ := x
    rw [hc] at h
    simp only [Option.bind_eq_bind, Option.bind_some] at h
    split at h
    · simp only [Option.getD_some, AHeap.upd_eq] at h
      split at h
      · rename_i hb
        rcases List.mem_cons.1 h with rfl | h
        · exact .inr ⟨rfl, blt_lt hb⟩
        · exact .inl h
      · exact .inl h
    · exact .inl h

theorem Blk.wr_other {n m off : Nat} {e : TypeId} {o : Bool} {l vs : List Value} (h : Blk H m e o l) (hne : m ≠ n) : Blk (wr H n off vs) m e o l := h.of_get (wr_get n off vs hne)

theorem splice_length {l : List Value} {off : Nat} {vs : List Value} (h : off + vs.length ≤ l.length) : (splice l off vs).length = l.length := by simp [splice]; omega

theorem splice_get {l : List Value} {off : Nat} {vs : List Value} (h : off + vs.length ≤ l.length) (i : Nat) : (splice l off vs).getD i undef = if off ≤ i ∧ i < off + vs.length then vs.getD (i - off) undef else l.getD i undef := by
  unfold splice
  simp only [List.getD_eq_getElem?_getD]
  congr 1
  rw [List.append_assoc]
  by_cases h1 : i < off
  · rw [if_neg (by omega), List.getElem?_append_left (by simp; omega), List.getElem?_take_of_lt h1]
  · rw [List.getElem?_append_right (by simp; omega)]
    have e1 : i - (l.take off).length = i - off := by simp; omega
    rw [e1]
    by_cases h2 : i < off + vs.length
    · rw [if_pos (by omega), List.getElem?_append_left (by omega)]
    · rw [if_neg (by omega), List.getElem?_append_right (by omega), List.getElem?_drop, show off + vs.length + (i - off - vs.length) = i from by omega]

theorem Blk.wr_same {n off : Nat} {e : TypeId} {o : Bool} {l vs : List Value} (h : Blk H n e o l) (hoff : off + vs.length ≤ l.length) (h1 : vs.all one = true) (h2 : scbL H.next vs = true) : Blk (wr H n off vs) n e o (splice l off vs) := by
  obtain ⟨rv, hc, hw⟩ := wr_eq h hoff h1 h2
  obtain ⟨rv', hc', hn, hg⟩ := h
  rw [hc] at hc'
  cases hc'
  refine ⟨rv.sets off vs, ?_, ?_, fun i hi => ?_⟩
  · rw [hw]; simp [cellsAt, AHeap.get_upd]
  · rw [RV.n_sets, hn, splice_length hoff]
  · rw [splice_length hoff] at hi
    rw [RV.get_sets, splice_get hoff]
    split
    · rfl
    · exact hg i hi

def nw (H : AHeap) (e : TypeId) (l : List Value) (o : Bool) : AHeap := H.new ⟨.cells #[] e, o, RV.ofList l⟩

theorem aNew_nw {e : TypeId} {l : List Value} {o : Bool} (h : scbL H.next l = true) : aNew H e l o = some (nw H e l o) := by simp only [aNew, h, if_true, nw]
theorem nw_next (e : TypeId) (l : List Value) (o : Bool) : (nw H e l o).next = H.next + 1 := rfl
theorem nw_base (e : TypeId) (l : List Value) (o : Bool) : (nw H e l o).base = H.base := rfl
theorem nw_dirty (e : TypeId) (l : List Value) (o : Bool) : (nw H e l o).dirty = H.dirty := rfl
theorem nw_get (e : TypeId) (l : List Value) (o : Bool) {m : Nat} (h : m ≠ H.next) : (nw H e l o).get m = H.get m := by rw [nw, AHeap.get_new, if_neg h]
theorem Blk.nw_other {m : Nat} {e e' : TypeId} {o o' : Bool} {l l' : List Value} (h : Blk H m e o l) (hne : m ≠ H.next) : Blk (nw H e' l' o') m e o l := h.of_get (nw_get e' l' o' hne)
theorem Blk.nw_new (e : TypeId) (o : Bool) (l : List Value) : Blk (nw H e l o) H.next e o l :=
  ⟨RV.ofList l, by simp [cellsAt, nw, AHeap.get_new], by simp, fun i _ => RV.get_ofList l i⟩

end
end Go.Ax

/- Walks over abstract heaps: rewriting rules, one for each kind of operation. -/
namespace Go.Ax
section
variable {P : Program} {ro : Option Nat} {H : AHeap} {Q : Exit → AAct → AHeap → Prop} {a : AAct} {N : Nat} {E : Env} {ds : List Deferred}

def seqC (P : Program) (ro : Option Nat) (y : Code) (Q : Exit → AAct → AHeap → Prop) : Exit → AAct → AHeap → Prop := seqQ (fun a1 H1 => wpA P ro y Q a1 H1) Q
def blockC (id : Nat) (Q : Exit → AAct → AHeap → Prop) : Exit → AAct → AHeap → Prop := fun e a1 H1 => Q (outB id e) a1 H1
def condC (P : Program) (ro : Option Nat) (x y : Code) (Q : Exit → AAct → AHeap → Prop) (a : AAct) (H : AHeap) (v : Value) : Prop := condA (some v) (wpA P ro x Q a H) (wpA P ro y Q a H)

theorem w_seq {x y : Code} : wpA P ro (.seq x y) Q a H = wpA P ro x (seqC P ro y Q) a H := Eq.trans rfl rfl
theorem w_skip : wpA P ro .skip Q a H = Q .normal a H := Eq.trans rfl rfl
theorem w_label {l : Nat} : wpA P ro (.label l) Q a H = Q .normal a H := Eq.trans rfl rfl
theorem w_ret : wpA P ro .ret Q a H = Q .ret a H := Eq.trans rfl rfl
theorem w_exit {id : Nat} : wpA P ro (.exit id) Q a H = Q (.exit id) a H := Eq.trans rfl rfl
theorem w_block {id : Nat} {b : Code} : wpA P ro (.block id b) Q a H = wpA P ro b (blockC id Q) a H := Eq.trans rfl rfl
theorem w_cond {t : Nat} {x y : Code} (ht : t < N) : wpA P ro (.cond (.tmp t) x y) Q (mkA N E ds) H = condC P ro x y Q (mkA N E ds) H (E t) := by
  simp only [wpA, condC, aeval_tmp N E ds t ht]
theorem w_region {id : Nat} {l : List Oper} : wpA P ro (.region id ⟨l⟩ false) Q a H = wpOps P ro ⟨l⟩ l a H Q := Eq.trans rfl rfl

theorem seqC_normal {y : Code} : seqC P ro y Q .normal a H = wpA P ro y Q a H := Eq.trans rfl rfl
theorem seqC_ret {y : Code} : seqC P ro y Q .ret a H = Q .ret a H := Eq.trans rfl rfl
theorem seqC_exit {y : Code} {id : Nat} : seqC P ro y Q (.exit id) a H = Q (.exit id) a H := Eq.trans rfl rfl
theorem seqC_panic {y : Code} {ch : List PanicEntry} : seqC P ro y Q (.panic ch) a H = Q (.panic ch) a H := Eq.trans rfl rfl
theorem blockC_normal {id : Nat} : blockC id Q .normal a H = Q .normal a H := Eq.trans rfl rfl
theorem blockC_ret {id : Nat} : blockC id Q .ret a H = Q .ret a H := Eq.trans rfl rfl
theorem blockC_panic {id : Nat} {ch : List PanicEntry} : blockC id Q (.panic ch) a H = Q (.panic ch) a H := Eq.trans rfl rfl
theorem blockC_exit {id : Nat} : blockC id Q (.exit id) a H = Q .normal a H := by simp [blockC, outB]
theorem blockC_other {id k : Nat} (h : k ≠ id) : blockC id Q (.exit k) a H = Q (.exit k) a H := by simp [blockC, outB, h]
theorem condC_true {x y : Code} : condC P ro x y Q a H (.bool true) = wpA P ro x Q a H := Eq.trans rfl rfl
theorem condC_false {x y : Code} : condC P ro x y Q a H (.bool false) = wpA P ro y Q a H := Eq.trans rfl rfl
theorem condC_split {x y : Code} {b : Bool} (h1 : b = true → wpA P ro x Q a H) (h2 : b = false → wpA P ro y Q a H) : condC P ro x y Q a H (.bool b) := by
  cases b
  · exact h2 rfl
  · exact h1 rfl

theorem endA_normal {fn : Func} {R : Out → AHeap → Prop} : endA P fn R .normal (mkA N E ds) H = leaveA P fn (mkA N E ds) ds .returning H R := Eq.trans rfl rfl
theorem endA_ret {fn : Func} {R : Out → AHeap → Prop} : endA P fn R .ret (mkA N E ds) H = leaveA P fn (mkA N E ds) ds .returning H R := Eq.trans rfl rfl
theorem leave_nil {fn : Func} {R : Out → AHeap → Prop} {rs : List ResultVar} (hr : fn.results = ⟨rs⟩) (vs : List Value) (h : resVal P H (mkA N E ds) rs = some vs) (hR : R (.ok (tup vs)) H) : leaveA P fn (mkA N E ds) [] .returning H R :=
  ⟨vs, by rw [hr]; exact h, hR⟩
theorem res_nil : resVal P H (mkA N E ds) [] = some [] := Eq.trans rfl rfl
theorem res_tmp {t : Nat} {rs : List ResultVar} {vs : List Value} (ht : t < N) (h : resVal P H (mkA N E ds) rs = some vs) : resVal P H (mkA N E ds) (.tmp t :: rs) = some (E t :: vs) := by
  simp only [resVal, h, Option.bind_eq_bind, Option.bind_some, tmp_mk N E ds t ht]
theorem res_cell {t : Nat} {u : TypeId} {rs : List ResultVar} {v : Value} {vs : List Value} (ht : t < N) (hl : aLoad P H u (E t) = some v) (h : resVal P H (mkA N E ds) rs = some vs) : resVal P H (mkA N E ds) (.cell t u :: rs) = some (v :: vs) := by
  simp only [resVal, h, Option.bind_eq_bind, Option.bind_some, tmp_mk N E ds t ht, hl]

def opC (P : Program) (ro : Option Nat) (ops : Array Oper) (rest : List Oper) (a : AAct) (dst : Option Tmp) (Q : Exit → AAct → AHeap → Prop) : Out → AHeap → Prop
  | .ok v, H1 => wpOps P ro ops rest (a.put dst v) H1 Q
  | .error ch, H1 => Q (.panic ch) a H1

def isDefer : Op → Bool
  | .defer _ => true
  | _ => false

theorem aDefer_none {a : AAct} {op : Op} (h : isDefer op = false) : aDefer P a op = none := by
  cases op <;> first | rfl | cases h

theorem w_op {ops : Array Oper} {o : Oper} {rest : List Oper} (hg : o.guard = none) (hd : isDefer o.op = false) : wpOps P ro ops (o :: rest) a H Q = opA P o.op a H (opC P ro ops rest a o.dst Q) := by
  have e : (fun out H1 => match out with
        | .ok v => wpOps P ro ops rest (a.put o.dst v) H1 Q
        | .error ch => Q (.panic ch) a H1) = opC P ro ops rest a o.dst Q := by
    funext out H1
    cases out <;> rfl
  simp only [wpOps, wantA, hg, aDefer_none hd, ← e] <;> (cases ro <;> rfl)

theorem w_nil {ops : Array Oper} : wpOps P ro ops [] a H Q = Q .normal a H := Eq.trans rfl rfl

def guardC (P : Program) (ro : Option Nat) (ops : Array Oper) (o : Oper) (rest : List Oper) (N : Nat) (E : Env) (ds : List Deferred) (H : AHeap) (Q : Exit → AAct → AHeap → Prop) (want : Bool) : Value → Prop
  | .bool b => if b = want then wpOps P ro ops (o :: rest) (mkA N E ds) H Q else wpOps P ro ops rest ((mkA N E ds).put o.dst undef) H Q
  | _ => wpOps P ro ops rest ((mkA N E ds).put o.dst undef) H Q

def dstOf (ops : Array Oper) (j : Nat) : Option Nat := (ops[j]?).bind (·.dst)

theorem w_guard {ops : Array Oper} {dst : Option Tmp} {op : Op} {ty : TypeId} {pos : String} {after : Array Edge} {j d : Nat} {want : Bool} {rest : List Oper} (hj : dstOf ops j = some d) (hd : d < N) :
    wpOps P ro ops (⟨dst, op, ty, pos, after, some (j, want)⟩ :: rest) (mkA N E ds) H Q = guardC P ro ops ⟨dst, op, ty, pos, after, none⟩ rest N E ds H Q want (E d) := by
  unfold dstOf at hj
  cases ho : ops[j]? with
  | none => rw [ho] at hj; cases hj
  | some oj =>
    rw [ho] at hj
    simp only [Option.bind_some] at hj
    have hw : wantA ops (mkA N E ds) ⟨dst, op, ty, pos, after, some (j, want)⟩ = (match E d with
        | .bool b => some (b == want)
        | _ => some false) := by
      simp only [wantA, ho, hj, tmp_mk N E ds d hd]
      cases E d <;> rfl
    have hn : wantA ops (mkA N E ds) ⟨dst, op, ty, pos, after, none⟩ = some true := Eq.trans rfl rfl
    cases hv : E d with
    | bool b =>
      rw [hv] at hw
      simp only [guardC]
      by_cases h : b = want
      · rw [if_pos h]
        have : (b == want) = true := by simpa using h
        simp only [wpOps, hw, this, hn]
      · rw [if_neg h]
        have : (b == want) = false := by simpa using h
        simp only [wpOps, hw, this]
    | _ => rw [hv] at hw; simp only [wpOps, hw, guardC]

theorem guardC_bool {ops : Array Oper} {o : Oper} {rest : List Oper} {want b : Bool} : guardC P ro ops o rest N E ds H Q want (.bool b) = if b = want then wpOps P ro ops (o :: rest) (mkA N E ds) H Q else wpOps P ro ops rest ((mkA N E ds).put o.dst undef) H Q := by simp only [guardC]

def valC (P : Program) (ro : Option Nat) (ops : Array Oper) (rest : List Oper) (N : Nat) (E : Env) (ds : List Deferred) (d : Nat) (H : AHeap) (Q : Exit → AAct → AHeap → Prop) : Option Value → Prop
  | some v => wpOps P ro ops rest (mkA N (upd E d v) ds) H Q
  | none => False

theorem valC_some {ops : Array Oper} {rest : List Oper} {d : Nat} {v : Value} : valC P ro ops rest N E ds d H Q (some v) = wpOps P ro ops rest (mkA N (upd E d v) ds) H Q := Eq.trans rfl rfl

def heapC (P : Program) (ro : Option Nat) (ops : Array Oper) (rest : List Oper) (N : Nat) (E : Env) (ds : List Deferred) (dst : Option Nat) (Q : Exit → AAct → AHeap → Prop) : Option (Value × AHeap) → Prop
  | some (v, H1) => wpOps P ro ops rest ((mkA N E ds).put dst v) H1 Q
  | none => False

theorem heapC_some {ops : Array Oper} {rest : List Oper} {d : Nat} {v : Value} {H1 : AHeap} (hd : d < N) : heapC P ro ops rest N E ds (some d) Q (some (v, H1)) = wpOps P ro ops rest (mkA N (upd E d v) ds) H1 Q := by
  simp only [heapC, put_some N E ds d v hd]
theorem heapC_skip {ops : Array Oper} {rest : List Oper} {v : Value} {H1 : AHeap} : heapC P ro ops rest N E ds none Q (some (v, H1)) = wpOps P ro ops rest (mkA N E ds) H1 Q := Eq.trans rfl rfl

section
variable {ops : Array Oper} {d : Nat} {ty : TypeId} {pos : String} {after : Array Edge} {rest : List Oper}

theorem w_rv {op : Op} {x : Option Value} (hx : isDefer op = false) (h : aop op P (mkA N E ds) H = rv H x) (hd : d < N) : wpOps P ro ops (⟨some d, op, ty, pos, after, none⟩ :: rest) (mkA N E ds) H Q = valC P ro ops rest N E ds d H Q x := by
  rw [w_op rfl hx]
  simp only [opA, h, rv]
  cases x with
  | none => rfl
  | some v => simp only [Option.map_some, nextA, opC, valC, put_some N E ds d v hd]

theorem w_rvh {op : Op} {dst : Option Nat} {x : Option (Value × AHeap)} (hx : isDefer op = false) (h : aop op P (mkA N E ds) H = rvh x) : wpOps P ro ops (⟨dst, op, ty, pos, after, none⟩ :: rest) (mkA N E ds) H Q = heapC P ro ops rest N E ds dst Q x := by
  rw [w_op rfl hx]
  simp only [opA, h, rvh]
  cases x with
  | none => rfl
  | some v => obtain ⟨v, H1⟩ := v; rfl

def opv (E : Env) : Operand → Value
  | .tmp t => E t
  | .const v => v
  | .func f => .func (.func f) #[] #[]
  | .global g => .pointer (some ⟨g, 0, none⟩)

def opOk (P : Program) (N : Nat) : Operand → Bool
  | .tmp t => Nat.blt t N
  | .const v => af v
  | .func _ => true
  | .global g => Nat.blt g P.globals.size

theorem aeval_opv {x : Operand} (h : opOk P N x = true) : aeval P (mkA N E ds) x = some (opv E x) := by
  cases x with
  | tmp t => exact aeval_tmp N E ds t (blt_lt h)
  | const v => simp only [opOk] at h; simp only [aeval, h, if_true, opv]
  | func f => rfl
  | global g => simp only [opOk] at h; simp only [aeval, h, if_true, opv]

theorem aevals_opv : ∀ {xs : List Operand}, xs.all (opOk P N) = true → aevals P (mkA N E ds) xs = some (xs.map (opv E))
  | [], _ => rfl
  | x :: xs, h => by
    simp only [List.all_cons, Bool.and_eq_true] at h
    simp only [aevals, aeval_opv h.1, aevals_opv h.2, Option.bind_eq_bind, Option.bind_some, List.map_cons]

theorem ok_tmp {t : Nat} (h : t < N) : opOk P N (.tmp t) = true := blt_of h
theorem ok_int {k : IntKind} {n : Int} : opOk P N (.const (.int k n)) = true := by simp only [opOk, af]
theorem ok_bool {b : Bool} : opOk P N (.const (.bool b)) = true := by simp only [opOk, af]
theorem ok_string {s : ByteArray} : opOk P N (.const (.string s)) = true := by simp only [opOk, af]
theorem ok_nilptr : opOk P N (.const (.pointer none)) = true := by simp only [opOk, af]
theorem ok_nilslice {n m : Nat} : opOk P N (.const (.slice none n m)) = true := by simp only [opOk, af]
theorem ok_niliface : opOk P N (.const .nilIface) = true := by simp only [opOk, af]
theorem ok_nilmap : opOk P N (.const (.map none)) = true := by simp only [opOk, af]
theorem ok_func {f : FuncId} : opOk P N (.func f) = true := by simp only [opOk]
theorem all_nil : ([] : List Operand).all (opOk P N) = true := by simp only [List.all_nil]
theorem all_cons {x : Operand} {r : List Operand} : (x :: r).all (opOk P N) = (opOk P N x && r.all (opOk P N)) := by simp only [List.all_cons]
theorem and_tt {b : Bool} : (true && b) = b := by simp only [Bool.true_and]

theorem opv_tmp {t : Nat} : opv E (.tmp t) = E t := by simp only [opv]
theorem opv_const {v : Value} : opv E (.const v) = v := by simp only [opv]
theorem opv_global {g : Nat} : opv E (.global g) = .pointer (some ⟨g, 0, none⟩) := by simp only [opv]
theorem opv_func {f : FuncId} : opv E (.func f) = .func (.func f) #[] #[] := by simp only [opv]

theorem w_move {x : Operand} (hx : opOk P N x = true) (hd : d < N) : wpOps P ro ops (⟨some d, .move x, ty, pos, after, none⟩ :: rest) (mkA N E ds) H Q = wpOps P ro ops rest (mkA N (upd E d (opv E x)) ds) H Q :=
  (w_rv (x := some (opv E x)) rfl (by simp only [aop, xMove, aeval_opv hx]) hd).trans valC_some
theorem w_assign {x : Operand} (hx : opOk P N x = true) (hd : d < N) : wpOps P ro ops (⟨some d, .assign x, ty, pos, after, none⟩ :: rest) (mkA N E ds) H Q = wpOps P ro ops rest (mkA N (upd E d (opv E x)) ds) H Q :=
  (w_rv (x := some (opv E x)) rfl (by simp only [aop, xMove, aeval_opv hx]) hd).trans valC_some
theorem w_typeAssert {x : Operand} {t u : TypeId} {ok : Bool} (hx : opOk P N x = true) (hd : d < N) : wpOps P ro ops (⟨some d, .typeAssert x t u ok, ty, pos, after, none⟩ :: rest) (mkA N E ds) H Q = valC P ro ops rest N E ds d H Q (aTypeAssert P (opv E x) u ok) :=
  w_rv rfl (by simp only [aop, xTypeAssert, aeval_opv hx, Option.bind_eq_bind, Option.bind_some]) hd
theorem w_fieldAddr {x : Operand} {t : TypeId} {f : Nat} (hx : opOk P N x = true) (hd : d < N) : wpOps P ro ops (⟨some d, .fieldAddr t x f, ty, pos, after, none⟩ :: rest) (mkA N E ds) H Q = valC P ro ops rest N E ds d H Q (aFieldAddr P t (opv E x) f) :=
  w_rv rfl (by simp only [aop, xFieldAddr, aeval_opv hx, Option.bind_eq_bind, Option.bind_some]) hd
theorem w_field {x : Operand} {t : TypeId} {f : Nat} (hx : opOk P N x = true) (hd : d < N) : wpOps P ro ops (⟨some d, .field t x f, ty, pos, after, none⟩ :: rest) (mkA N E ds) H Q = valC P ro ops rest N E ds d H Q (aField P t (opv E x) f) :=
  w_rv rfl (by simp only [aop, xField, aeval_opv hx, Option.bind_eq_bind, Option.bind_some]) hd
theorem w_indexAddr {x i : Operand} {t : TypeId} (hx : opOk P N x = true) (hi : opOk P N i = true) (hd : d < N) : wpOps P ro ops (⟨some d, .indexAddr t x i, ty, pos, after, none⟩ :: rest) (mkA N E ds) H Q = valC P ro ops rest N E ds d H Q (aIndexAddr P t (opv E x) (opv E i)) :=
  w_rv rfl (by simp only [aop, xIndexAddr, aeval_opv hx, aeval_opv hi, Option.bind_eq_bind, Option.bind_some]) hd
theorem w_load {x : Operand} {t : TypeId} (hx : opOk P N x = true) (hd : d < N) : wpOps P ro ops (⟨some d, .load t x, ty, pos, after, none⟩ :: rest) (mkA N E ds) H Q = valC P ro ops rest N E ds d H Q (aLoad P H t (opv E x)) :=
  w_rv rfl (by simp only [aop, xLoad, aeval_opv hx, Option.bind_eq_bind, Option.bind_some]) hd
def exV (i : Nat) : Value → Option Value
  | .tuple l => l.toList[i]?
  | _ => none
theorem exV_tuple {i : Nat} {l : List Value} : exV i (.tuple ⟨l⟩) = l[i]? := by simp only [exV]
theorem w_extract {x : Operand} {i : Nat} (hx : opOk P N x = true) (hd : d < N) : wpOps P ro ops (⟨some d, .extract x i, ty, pos, after, none⟩ :: rest) (mkA N E ds) H Q = valC P ro ops rest N E ds d H Q (exV i (opv E x)) :=
  w_rv rfl (by
    simp only [aop, xExtract, aeval_opv hx, Option.bind_eq_bind, Option.bind_some, extractV]
    cases opv E x <;> rfl) hd
def pickV (x y : Value) : Value → Option Value
  | .bool true => some x
  | .bool false => some y
  | _ => none
theorem pickV_true {x y : Value} : pickV x y (.bool true) = some x := by simp only [pickV]
theorem pickV_false {x y : Value} : pickV x y (.bool false) = some y := by simp only [pickV]
theorem pickV_bool {x y : Value} {b : Bool} : pickV x y (.bool b) = some (if b then x else y) := by cases b <;> simp [pickV]
theorem w_pick {c x y : Operand} (hc : opOk P N c = true) (hx : opOk P N x = true) (hy : opOk P N y = true) (hd : d < N) : wpOps P ro ops (⟨some d, .pick c x y, ty, pos, after, none⟩ :: rest) (mkA N E ds) H Q = valC P ro ops rest N E ds d H Q (pickV (opv E x) (opv E y) (opv E c)) :=
  w_rv rfl (by
    simp only [aop, xPick, aeval_opv hc, aeval_opv hx, aeval_opv hy, Option.bind_eq_bind, Option.bind_some]
    cases opv E c with
    | bool b => cases b <;> rfl
    | _ => rfl) hd
def nilW (P : Program) (v : Value) : Option Value :=
  match nilV P (AHeap.none 0) v with
  | some (.value y, _) => some y
  | _ => none
theorem nilW_ptr {p : Addr} : nilW P (.pointer (some p)) = some (.pointer (some p)) := by simp only [nilW, nilV]
theorem w_nilCheck {x : Operand} (hx : opOk P N x = true) (hd : d < N) (h : (nilW P (opv E x)).isSome = true) : wpOps P ro ops (⟨some d, .nilCheck x, ty, pos, after, none⟩ :: rest) (mkA N E ds) H Q = valC P ro ops rest N E ds d H Q (nilW P (opv E x)) :=
  w_rv rfl (by
    simp only [aop, xNil, aeval_opv hx, Option.bind_eq_bind, Option.bind_some]
    simp only [nilW] at h ⊢
    unfold nilV at h ⊢
    split <;> simp_all [rv]) hd
def notV : Value → Option Value
  | .bool b => some (.bool !b)
  | _ => none
theorem notV_bool {b : Bool} : notV (.bool b) = some (.bool !b) := by simp only [notV]
theorem w_not {x : Operand} {t : TypeId} (hx : opOk P N x = true) (hd : d < N) (h : (notV (opv E x)).isSome = true) : wpOps P ro ops (⟨some d, .unOp .not t x, ty, pos, after, none⟩ :: rest) (mkA N E ds) H Q = valC P ro ops rest N E ds d H Q (notV (opv E x)) :=
  w_rv rfl (by
    simp only [aop, xUn, aeval_opv hx, Option.bind_eq_bind, Option.bind_some]
    cases hv : opv E x with
    | bool b => rfl
    | _ => rw [hv] at h; cases h) hd
def negV : Value → Option Value
  | .int k n => some (.int k (k.wrap (0 - n)))
  | _ => none
theorem negV_int {k : IntKind} {n : Int} : negV (.int k n) = some (.int k (k.wrap (0 - n))) := by simp only [negV]
theorem w_neg {x : Operand} {t : TypeId} (hx : opOk P N x = true) (hd : d < N) (h : (negV (opv E x)).isSome = true) : wpOps P ro ops (⟨some d, .unOp .neg t x, ty, pos, after, none⟩ :: rest) (mkA N E ds) H Q = valC P ro ops rest N E ds d H Q (negV (opv E x)) :=
  w_rv rfl (by
    simp only [aop, xUn, aeval_opv hx, Option.bind_eq_bind, Option.bind_some]
    cases hv : opv E x with
    | int k n => rfl
    | _ => rw [hv] at h; cases h) hd
theorem w_bin {op : BinOp} {t u : TypeId} {x y : Operand} (hx : opOk P N x = true) (hy : opOk P N y = true) (hd : d < N) (h : (aBin P H op t (opv E x) (opv E y)).isSome = true) : wpOps P ro ops (⟨some d, .binOp op t x y u, ty, pos, after, none⟩ :: rest) (mkA N E ds) H Q = valC P ro ops rest N E ds d H Q (aBin P H op t (opv E x) (opv E y)) := by
  cases hv : aBin P H op t (opv E x) (opv E y) with
  | none => rw [hv] at h; cases h
  | some v => exact w_rv (x := some v) rfl (by simp only [aop, xBin, aeval_opv hx, aeval_opv hy, Option.bind_eq_bind, Option.bind_some, binV, hv]; rfl) hd
theorem isSome_some {α : Type} {v : α} : (some v).isSome = true := by simp only [Option.isSome_some]
theorem bin_add {t : TypeId} {k : IntKind} {x y : Int} : aBin P H .add t (.int k x) (.int k y) = some (.int k (k.wrap (x + y))) := by simp [aBin, intBin]
theorem bin_sub {t : TypeId} {k : IntKind} {x y : Int} : aBin P H .sub t (.int k x) (.int k y) = some (.int k (k.wrap (x - y))) := by simp [aBin, intBin]
theorem bin_mul {t : TypeId} {k : IntKind} {x y : Int} : aBin P H .mul t (.int k x) (.int k y) = some (.int k (k.wrap (x * y))) := by simp [aBin, intBin]
theorem bin_quo {t : TypeId} {k : IntKind} {x y : Int} (h : y ≠ 0) : aBin P H .quo t (.int k x) (.int k y) = some (.int k (k.wrap (x.tdiv y))) := by simp [aBin, intBin, h]
theorem bin_rem {t : TypeId} {k : IntKind} {x y : Int} (h : y ≠ 0) : aBin P H .rem t (.int k x) (.int k y) = some (.int k (x.tmod y)) := by simp [aBin, intBin, h]
theorem bin_eql {t : TypeId} {k : IntKind} {x y : Int} : aBin P H .eql t (.int k x) (.int k y) = some (.bool (decide (x = y))) := by simp [aBin, intBin]; rfl
theorem bin_neq {t : TypeId} {k : IntKind} {x y : Int} : aBin P H .neq t (.int k x) (.int k y) = some (.bool (decide (x ≠ y))) := by
  have : (x != y) = decide (x ≠ y) := by by_cases h : x = y <;> simp [h]
  simp [aBin, intBin, this]
theorem bin_lss {t : TypeId} {k : IntKind} {x y : Int} : aBin P H .lss t (.int k x) (.int k y) = some (.bool (decide (x < y))) := by simp [aBin, intBin]
theorem bin_leq {t : TypeId} {k : IntKind} {x y : Int} : aBin P H .leq t (.int k x) (.int k y) = some (.bool (decide (x ≤ y))) := by simp [aBin, intBin]
theorem bin_gtr {t : TypeId} {k : IntKind} {x y : Int} : aBin P H .gtr t (.int k x) (.int k y) = some (.bool (decide (y < x))) := by simp [aBin, intBin]
theorem bin_geq {t : TypeId} {k : IntKind} {x y : Int} : aBin P H .geq t (.int k x) (.int k y) = some (.bool (decide (y ≤ x))) := by simp [aBin, intBin]
theorem bin_eqb {t : TypeId} {x y : Bool} (h : P.underlying t = some .bool) : aBin P H .eql t (.bool x) (.bool y) = some (.bool (decide (x = y))) := by simp only [aBin, h, eqOp]; cases x <;> cases y <;> rfl
theorem bin_neb {t : TypeId} {x y : Bool} (h : P.underlying t = some .bool) : aBin P H .neq t (.bool x) (.bool y) = some (.bool (decide (x ≠ y))) := by simp only [aBin, h, eqOp]; cases x <;> cases y <;> rfl
theorem w_build {t : TypeId} {l : List (Nat × Operand)} (hd : d < N) : wpOps P ro ops (⟨some d, .build t ⟨l⟩, ty, pos, after, none⟩ :: rest) (mkA N E ds) H Q = valC P ro ops rest N E ds d H Q ((pairs P (mkA N E ds) l).bind (aBuild P t)) :=
  w_rv rfl (by
    simp only [aop, xBuild, Option.bind_eq_bind]
    cases pairs P (mkA N E ds) l <;> rfl) hd
def ifaceW (P : Program) (t : TypeId) (v : Value) : Option Value :=
  match P.underlying t with
  | some (.interface _) => none
  | some _ => some (.iface t v)
  | none => none
theorem w_iface {t : TypeId} {x : Operand} (hx : opOk P N x = true) (hd : d < N) : wpOps P ro ops (⟨some d, .makeInterface t x, ty, pos, after, none⟩ :: rest) (mkA N E ds) H Q = valC P ro ops rest N E ds d H Q (ifaceW P t (opv E x)) :=
  w_rv rfl (by
    simp only [aop, xIface, aeval_opv hx, Option.bind_eq_bind, Option.bind_some, ifaceV, ifaceW]
    cases P.underlying t with
    | none => rfl
    | some td => cases td <;> rfl) hd
def allocV (H : AHeap) (t : TypeId) : Option Value → Option (Value × AHeap)
  | some z => (aNew H t z.cells.toList false).map fun g => (.pointer (some ⟨H.next, 0, none⟩), g)
  | none => none
theorem allocV_some {t : TypeId} {z : Value} (hs : scbL H.next z.cells.toList = true) : allocV H t (some z) = some (.pointer (some ⟨H.next, 0, none⟩), nw H t z.cells.toList false) := by simp only [allocV, aNew_nw hs, Option.map_some]
theorem w_alloc {t : TypeId} {dst : Option Nat} : wpOps P ro ops (⟨dst, .alloc t, ty, pos, after, none⟩ :: rest) (mkA N E ds) H Q = heapC P ro ops rest N E ds dst Q (allocV H t (zeroOf P t)) :=
  w_rvh rfl (by
    simp only [aop, xAlloc, Option.bind_eq_bind]
    cases zeroOf P t with
    | none => rfl
    | some z =>
      simp only [Option.bind_some, xBox, allocV, rvh, Option.bind_eq_bind]
      cases aNew H t z.cells.toList false <;> rfl)
def storeC (P : Program) (ro : Option Nat) (ops : Array Oper) (rest : List Oper) (a : AAct) (Q : Exit → AAct → AHeap → Prop) : Option AHeap → Prop
  | some H1 => wpOps P ro ops rest a H1 Q
  | none => False
theorem storeC_some {H1 : AHeap} : storeC P ro ops rest a Q (some H1) = wpOps P ro ops rest a H1 Q := by simp only [storeC]
theorem w_store {x y : Operand} {t : TypeId} (hx : opOk P N x = true) (hy : opOk P N y = true) : wpOps P ro ops (⟨none, .store t x y, ty, pos, after, none⟩ :: rest) (mkA N E ds) H Q = storeC P ro ops rest (mkA N E ds) Q (aStore P H t (opv E x) (opv E y)) := by
  rw [w_op rfl rfl]
  simp only [opA, aop, xStore, aeval_opv hx, aeval_opv hy, ruh, Option.bind_eq_bind, Option.bind_some]
  cases aStore P H t (opv E x) (opv E y) with
  | none => rfl
  | some H1 => simp only [Option.map_some, nextA, opC, put_none, storeC]
theorem store_blk {t e : TypeId} {n off sz : Nat} {o : Bool} {l : List Value} {v : Value} (hb : Blk H n e o l) (hsz : szOf P t = some sz) (hl : v.cells.toList.length = sz) (hle : off + sz ≤ l.length) (h1 : v.cells.toList.all one = true) (h2 : scbL H.next v.cells.toList = true) :
    aStore P H t (.pointer (some ⟨n, off, none⟩)) v = some (wr H n off v.cells.toList) := by
  simp only [aStore, hsz, hl, Option.bind_eq_bind, Option.bind_some, if_true]
  exact hb.write (by rw [hl]; exact hle) h1 h2

def pok (P : Program) (N : Nat) : List (Nat × Operand) → Bool
  | [] => true
  | (_, x) :: r => opOk P N x && pok P N r
def pmap (E : Env) : List (Nat × Operand) → List (Nat × Value)
  | [] => []
  | (i, x) :: r => (i, opv E x) :: pmap E r
theorem pok_nil : pok P N [] = true := by simp only [pok]
theorem pok_cons {i : Nat} {x : Operand} {r : List (Nat × Operand)} : pok P N ((i, x) :: r) = (opOk P N x && pok P N r) := by simp only [pok]
theorem pmap_nil : pmap E [] = [] := by simp only [pmap]
theorem pmap_cons {i : Nat} {x : Operand} {r : List (Nat × Operand)} : pmap E ((i, x) :: r) = (i, opv E x) :: pmap E r := by simp only [pmap]
theorem pairs_ok : ∀ {l : List (Nat × Operand)}, pok P N l = true → pairs P (mkA N E ds) l = some (pmap E l)
  | [], _ => rfl
  | (i, x) :: r, h => by
    simp only [pok, Bool.and_eq_true] at h
    simp only [pairs, aeval_opv h.1, pairs_ok h.2, Option.bind_eq_bind, Option.bind_some, pmap]

theorem w_index {x i : Operand} {t : TypeId} (hx : opOk P N x = true) (hi : opOk P N i = true) (hd : d < N) (h : (aIndex P t (opv E x) (opv E i)).isSome = true) : wpOps P ro ops (⟨some d, .index t x i, ty, pos, after, none⟩ :: rest) (mkA N E ds) H Q = valC P ro ops rest N E ds d H Q (aIndex P t (opv E x) (opv E i)) := by
  cases hv : aIndex P t (opv E x) (opv E i) with
  | none => rw [hv] at h; cases h
  | some v => exact w_rv (x := some v) rfl (by simp only [aop, xIndex, aeval_opv hx, aeval_opv hi, Option.bind_eq_bind, Option.bind_some, indexV, hv]; rfl) hd

theorem w_call {f : FuncId} {args : List Operand} {ts : Array TypeId} {dst : Option Nat} (ha : args.all (opOk P N) = true) (hb : hasBody P f = true) :
    wpOps P ro ops (⟨dst, .call ⟨.value (.func f), ⟨args⟩, ts⟩, ty, pos, after, none⟩ :: rest) (mkA N E ds) H Q = CallA P f (args.map (opv E)) H (opC P ro ops rest (mkA N E ds) dst Q) := by
  rw [w_op rfl rfl]
  simp only [opA, aop, xCall, aevals_opv ha, aeval, Option.bind_eq_bind, Option.bind_some, callV, aInvoke, enterN, hb, if_true, List.nil_append, List.append_nil, Option.map_some, nextA]

theorem opC_ok {v : Value} (hd : d < N) : opC P ro ops rest (mkA N E ds) (some d) Q (.ok v) H = wpOps P ro ops rest (mkA N (upd E d v) ds) H Q := by simp only [opC, put_some N E ds d v hd]
theorem opC_skip {v : Value} : opC P ro ops rest (mkA N E ds) none Q (.ok v) H = wpOps P ro ops rest (mkA N E ds) H Q := Eq.trans rfl rfl

theorem w_builtin {b : Builtin} {args : List Operand} {ts : Array TypeId} {dst : Option Nat} (ha : args.all (opOk P N) = true) :
    wpOps P ro ops (⟨dst, .call ⟨.builtin b, ⟨args⟩, ts⟩, ty, pos, after, none⟩ :: rest) (mkA N E ds) H Q = heapC P ro ops rest N E ds dst Q (aBuiltin P H b ts (args.map (opv E))) :=
  w_rvh rfl (by simp only [aop, xCall, aevals_opv ha, Option.bind_eq_bind, Option.bind_some])

theorem w_box {x : Operand} {t : TypeId} (hx : opOk P N x = true) (hd : d < N) (hs : scbL H.next (opv E x).cells.toList = true) : wpOps P ro ops (⟨some d, .box t x, ty, pos, after, none⟩ :: rest) (mkA N E ds) H Q =
    wpOps P ro ops rest (mkA N (upd E d (.pointer (some ⟨H.next, 0, none⟩))) ds) (nw H t (opv E x).cells.toList false) Q := by
  rw [w_op rfl rfl]
  simp only [opA, aop, xBoxOp, aeval_opv hx, Option.bind_eq_bind, Option.bind_some, xBox, aNew_nw hs, nextA, opC, put_some N E ds d _ hd]
end
end
end Go.Ax

/- Walks over abstract heaps: regions that draw their order, operation by operation. -/
namespace Go.Ax
section
variable {P : Program} {ro : Option Nat} {H : AHeap} {N : Nat} {E : Env} {ds : List Deferred}

def genD (P : Program) (o : Oper) (a : AAct) (H : AHeap) (anc i : Nat) (fps : List Fp) (K : List Fp → Value → AHeap → Prop) : Prop :=
  ∃ F v g, OpS P a (H.restrict F) o (.ok v) g ∧ (∀ n ∈ F, H.get n ≠ none) ∧ (∀ n ∈ g.dirty, n ∈ F) ∧ (∀ r ∈ fps, fpOk anc F v g H.next r = true) ∧ K (⟨i, F, g.dirty, H.next, g.next⟩ :: fps) v (H.merge g)

def loadD (P : Program) (t : TypeId) (H : AHeap) (anc i : Nat) (fps : List Fp) (K : List Fp → Value → AHeap → Prop) : Option Value → Prop
  | some (.pointer (some ⟨n, off, none⟩)) => (match aLoad P H t (.pointer (some ⟨n, off, none⟩)) with
    | some v => (∀ r ∈ fps, Meets anc [n] [] (idsV v) r) ∧ K (⟨i, [n], [], H.next, H.next⟩ :: fps) v H
    | none => False)
  | _ => False

def pureD (K : List Fp → Value → AHeap → Prop) (H : AHeap) (anc : Nat) (fps : List Fp) : ARes → Prop
  | some (.value v, _) => IdsOk anc fps (idsV v) ∧ K fps v H
  | _ => False

def regBin (P : Program) (op : BinOp) (t : TypeId) : Value → Value → Option Value
  | .int k p, .int k' q => if k = k' then intBin op k p q else none
  | .bool p, .bool q => (match P.underlying t with
    | some .bool => eqOp op (p == q)
    | _ => none)
  | _, _ => none

theorem regBin_aBin {op : BinOp} {t : TypeId} {p q v : Value} (h : regBin P op t p q = some v) (G : AHeap) : aBin P G op t p q = some v := by
  unfold regBin at h
  split at h
  · simp only [aBin]; exact h
  · simp only [aBin]; exact h
  · cases h

def binD (P : Program) (op : BinOp) (t : TypeId) (K : List Fp → Value → AHeap → Prop) (H : AHeap) (anc : Nat) (fps : List Fp) (D : Prop) : Option Value → Option Value → Prop
  | some p, some q => (match regBin P op t p q with
    | some v => IdsOk anc fps (idsV v) ∧ K fps v H
    | none => D)
  | _, _ => D

def storeD (P : Program) (t : TypeId) (H : AHeap) (anc i : Nat) (fps : List Fp) (K : List Fp → Value → AHeap → Prop) : Option Value → Option Value → Prop
  | some (.pointer (some ⟨n, off, none⟩)), some v => (match aStore P H t (.pointer (some ⟨n, off, none⟩)) v with
    | some H1 => n < H.next ∧ (∀ r ∈ fps, Meets anc [n] [n] (idsAt H1 n) r) ∧ K (⟨i, [n], [n], H.next, H.next⟩ :: fps) undef H1
    | none => False)
  | _, _ => False

def newOp : Op → Bool
  | .alloc _ => true
  | .box _ _ => true
  | .buildSlice _ _ _ => true
  | .makeSlice _ _ _ => true
  | _ => false

theorem new_fun {op : Op} (hp : newOp op = true) (a : AAct) : ∃ f : Nat → Option (Value × AObj), ∀ G : AHeap, aop op P a G = (f G.next).map fun x => (.value x.1, G.new x.2) := by
  have key : ∀ (t : TypeId) (v : Value), ∃ f : Nat → Option (Value × AObj), ∀ G : AHeap, xBox t v G = (f G.next).map fun x => (.value x.1, G.new x.2) := by
    intro t v
    refine ⟨fun n => if scbL n v.cells.toList then some (.pointer (some ⟨n, 0, none⟩), ⟨.cells #[] t, false, RV.ofList v.cells.toList⟩) else none, fun G => ?_⟩
    simp only [xBox, aNew, Option.bind_eq_bind]
    split <;> rfl
  cases op with
  | alloc t =>
    simp only [aop, xAlloc]
    cases zeroOf P t with
    | none => exact ⟨fun _ => none, fun G => rfl⟩
    | some z => exact key t z
  | box t x =>
    simp only [aop, xBoxOp]
    cases aeval P a x with
    | none => exact ⟨fun _ => none, fun G => rfl⟩
    | some z => exact key t z
  | buildSlice t n ps =>
    simp only [aop, xBuildSlice]
    cases pairs P a ps.toList with
    | none => exact ⟨fun _ => none, fun G => rfl⟩
    | some l =>
      simp only [Option.bind_eq_bind, Option.bind_some, aBuildSlice]
      cases hu : P.underlying t with
      | none => exact ⟨fun _ => none, fun G => rfl⟩
      | some td =>
        cases td with
        | slice e =>
          simp only [Option.bind_some]
          cases hsz : szOf P e with
          | none => exact ⟨fun _ => none, fun G => rfl⟩
          | some sz =>
            cases hz : zeroOf P e with
            | none => exact ⟨fun _ => none, fun G => rfl⟩
            | some z =>
              simp only [Option.bind_some]
              split
              · cases hf : Instr.fill (fun i => some (i * sz, sz)) (zerosL z.cells.toList n).toArray l with
                | none => exact ⟨fun _ => none, fun G => rfl⟩
                | some cells =>
                  refine ⟨fun m => if scbL m cells.toList then some (.slice (some ⟨m, 0, some 0⟩) n n, ⟨.cells #[] e, false, RV.ofList cells.toList⟩) else none, fun G => ?_⟩
                  simp only [Option.bind_some, aNew, rvh]
                  split <;> rfl
              · exact ⟨fun _ => none, fun G => rfl⟩
        | _ => exact ⟨fun _ => none, fun G => rfl⟩
  | makeSlice t l c =>
    simp only [aop, xMakeSlice]
    cases aeval P a l with
    | none => exact ⟨fun _ => none, fun G => rfl⟩
    | some l =>
      cases aeval P a c with
      | none => exact ⟨fun _ => none, fun G => rfl⟩
      | some c =>
        simp only [Option.bind_eq_bind, Option.bind_some]
        unfold aMakeSlice
        split
        · rename_i l c
          cases hu : P.underlying t with
          | none => exact ⟨fun _ => none, fun G => rfl⟩
          | some td =>
            cases td with
            | slice e =>
              simp only [Option.bind_eq_bind, Option.bind_some]
              cases hby : bytesOf P e with
              | none => exact ⟨fun _ => none, fun G => rfl⟩
              | some by1 =>
                cases hsz : szOf P e with
                | none => exact ⟨fun _ => none, fun G => rfl⟩
                | some sz =>
                  cases hz : zeroOf P e with
                  | none => exact ⟨fun _ => none, fun G => rfl⟩
                  | some z =>
                    simp only [Option.bind_some]
                    split
                    · refine ⟨fun m => if scbL m (zerosL z.cells.toList c.toNat) then some (.slice (some ⟨m, 0, some 0⟩) l.toNat c.toNat, ⟨.cells #[] e, false, RV.ofList (zerosL z.cells.toList c.toNat)⟩) else none, fun G => ?_⟩
                      simp only [aNew, rvh]
                      split <;> rfl
                    · exact ⟨fun _ => none, fun G => rfl⟩
            | _ => exact ⟨fun _ => none, fun G => rfl⟩
        · exact ⟨fun _ => none, fun G => rfl⟩
  | _ => cases hp

def newD (H : AHeap) (anc i : Nat) (fps : List Fp) (K : List Fp → Value → AHeap → Prop) : ARes → Prop
  | some (.value v, H1) => (∀ r ∈ fps, Meets anc [] [] (idsV v ++ idsAt H1 H.next) r) ∧ K (⟨i, [], [], H.next, H.next + 1⟩ :: fps) v H1
  | _ => False

def regBt (P : Program) (b : Builtin) (ts : Array TypeId) (vs : List Value) : Option Value :=
  match b with
  | .len => (match ts.toList, vs with
    | t :: _, [x] => (match P.underlying t, x with
      | some (.slice _), .slice _ n _ => some (goInt n)
      | some .string, .string s => some (goInt s.size)
      | _, _ => none)
    | _, _ => none)
  | .max => aMinMax true vs
  | .min => aMinMax false vs
  | _ => none

theorem regBt_aBuiltin {b : Builtin} {ts : Array TypeId} {vs : List Value} {v : Value} (h : regBt P b ts vs = some v) (G : AHeap) : aBuiltin P G b ts vs = some (v, G) := by
  unfold regBt at h
  split at h
  · split at h
    · rename_i t _ x hts
      split at h
      · rename_i hu
        simp only [aBuiltin, hts, aLen, hu]
        simp only [Option.some.injEq] at h
        rw [h]; rfl
      · rename_i hu
        simp only [aBuiltin, hts, aLen, hu]
        simp only [Option.some.injEq] at h
        rw [h]; rfl
      · cases h
    · cases h
  · simp only [aBuiltin, h, Option.map_some]
  · simp only [aBuiltin, h, Option.map_some]
  · cases h

def btD (P : Program) (b : Builtin) (ts : Array TypeId) (K : List Fp → Value → AHeap → Prop) (H : AHeap) (anc : Nat) (fps : List Fp) (D : Prop) : Option (List Value) → Prop
  | some vs => (match regBt P b ts vs with
    | some v => IdsOk anc fps (idsV v) ∧ K fps v H
    | none => D)
  | none => D

def restD (P : Program) (o : Oper) (a : AAct) (H : AHeap) (anc i : Nat) (fps : List Fp) (K : List Fp → Value → AHeap → Prop) : Prop :=
  match newOp o.op with
  | true => newD H anc i fps K (aop o.op P a H)
  | false => (match o.op with
    | .call ⟨.builtin b, args, ts⟩ => btD P b ts K H anc fps (genD P o a H anc i fps K) (aevals P a args.toList)
    | _ => genD P o a H anc i fps K)

def stepD (P : Program) (o : Oper) (a : AAct) (H : AHeap) (anc i : Nat) (fps : List Fp) (K : List Fp → Value → AHeap → Prop) : Prop :=
  match pureOp o.op with
  | true => pureD K H anc fps (aop o.op P a H)
  | false => (match o.op with
    | .load t x => loadD P t H anc i fps K (aeval P a x)
    | .store t x y => storeD P t H anc i fps K (aeval P a x) (aeval P a y)
    | .binOp op t x y _ => binD P op t K H anc fps (genD P o a H anc i fps K) (aeval P a x) (aeval P a y)
    | _ => restD P o a H anc i fps K)

def wkD (P : Program) (ops : Array Oper) (anc : List Nat) : List Oper → Nat → List Fp → AAct → AHeap → (AAct → AHeap → Prop) → Prop
  | [], _, _, a, H, Q => Q a H
  | o :: rest, i, fps, a, H, Q =>
    match wantA ops a o with
    | some true => stepD P o a H (anc.getD i 0) i fps fun fps' v H1 => wkD P ops anc rest (i + 1) fps' (a.put o.dst v) H1 Q
    | some false => wkD P ops anc rest (i + 1) fps (a.put o.dst undef) H Q
    | none => False

theorem wpDraw_store {ops : Array Oper} {anc : List Nat} {o : Oper} {rest : List Oper} {i : Nat} {fps : List Fp} {a : AAct} {Q : AAct → AHeap → Prop} {t : TypeId} {x y : Operand} {v : Value} {n off : Nat} {H1 : AHeap} (ho : o.op = .store t x y) (hw : wantA ops a o = some true)
    (hx : aeval P a x = some (.pointer (some ⟨n, off, none⟩))) (hy : aeval P a y = some v) (hs : aStore P H t (.pointer (some ⟨n, off, none⟩)) v = some H1) (hlt : n < H.next) (hm : ∀ r ∈ fps, Meets (anc.getD i 0) [n] [n] (idsAt H1 n) r)
    (h : wpDraw P ops anc rest (i + 1) (⟨i, [n], [n], H.next, H.next⟩ :: fps) (a.put o.dst undef) H1 Q) : wpDraw P ops anc (o :: rest) i fps a H Q := by
  have hn := restrict_next H [n]
  have hgn : (H.restrict [n]).get n = H.get n := by rw [restrict_get]; simp
  simp only [aStore, Option.bind_eq_bind] at hs
  cases hsz : szOf P t with
  | none => rw [hsz] at hs; cases hs
  | some sz =>
    rw [hsz] at hs
    simp only [Option.bind_some] at hs
    split at hs
    · rename_i hl
      subst hl
      simp only [aWrite, Option.bind_eq_bind] at hs
      cases hc : cellsAt H n with
      | none => rw [hc] at hs; cases hs
      | some z =>
        obtain ⟨rv, e, ob⟩ := z
        rw [hc] at hs
        simp only [Option.bind_some] at hs
        split at hs
        · rename_i hcond
          simp only [Option.some.injEq] at hs
          subst hs
          have hcr : cellsAt (H.restrict [n]) n = some (rv, e, ob) := by rw [← hc]; simp only [cellsAt, hgn]
          have hst : aStore P (H.restrict [n]) t (.pointer (some ⟨n, off, none⟩)) v = some ((H.restrict [n]).upd n (some ⟨.cells #[] e, ob, rv.sets off v.cells.toList⟩)) := by
            simp only [aStore, hsz, Option.bind_eq_bind, Option.bind_some, if_true, aWrite, hcr, hn.1, hcond]
          have hd : ((H.restrict [n]).upd n (some ⟨.cells #[] e, ob, rv.sets off v.cells.toList⟩)).dirty = [n] := by
            simp only [AHeap.upd_eq, hn.2.1, hn.2.2, blt_of hlt, if_true]
          have hnx : ((H.restrict [n]).upd n (some ⟨.cells #[] e, ob, rv.sets off v.cells.toList⟩)).next = H.next := hn.1
          have hgg : ((H.restrict [n]).upd n (some ⟨.cells #[] e, ob, rv.sets off v.cells.toList⟩)).get n = some ⟨.cells #[] e, ob, rv.sets off v.cells.toList⟩ := by rw [AHeap.get_upd, if_pos rfl]
          have hmg : H.merge ((H.restrict [n]).upd n (some ⟨.cells #[] e, ob, rv.sets off v.cells.toList⟩)) = H.upd n (some ⟨.cells #[] e, ob, rv.sets off v.cells.toList⟩) := by
            unfold AHeap.merge
            rw [hd, hnx, Nat.sub_self]
            simp only [AHeap.mergeW, AHeap.mergeN, hgg]
            rfl
          simp only [wpDraw, hw]
          refine ⟨[n], undef, _, opS_of (x := .skip) (g := (H.restrict [n]).upd n (some ⟨.cells #[] e, ob, rv.sets off v.cells.toList⟩)) ?_ ⟨rfl, rfl⟩, ?_, by rw [hd]; simp, fun r hr => fpOk_of ?_, ?_⟩
          · rw [ho]
            simp only [aop, xStore, hx, hy, hst, ruh, Option.bind_eq_bind, Option.bind_some, Option.map_some]
          · intro m hm'
            simp only [List.mem_singleton] at hm'
            subst hm'
            intro hg
            simp [cellsAt, hg] at hc
          · have hi : idsAt ((H.restrict [n]).upd n (some ⟨.cells #[] e, ob, rv.sets off v.cells.toList⟩)) n = idsAt (H.upd n (some ⟨.cells #[] e, ob, rv.sets off v.cells.toList⟩)) n := by
              simp only [idsAt, AHeap.get_upd, if_true]
            have : outIds undef ((H.restrict [n]).upd n (some ⟨.cells #[] e, ob, rv.sets off v.cells.toList⟩)) H.next = idsAt (H.upd n (some ⟨.cells #[] e, ob, rv.sets off v.cells.toList⟩)) n := by
              simp only [outIds, hnx, hd, Nat.sub_self, rangeFrom, List.append_nil, List.flatMap_cons, List.flatMap_nil, undef, idsV, idsA, idsL, List.nil_append]
              exact hi
            rw [hd, this]
            exact hm r hr
          · rw [hmg, hd, hnx]; exact h
        · cases hs
    · cases hs

theorem wpDraw_new {ops : Array Oper} {anc : List Nat} {o : Oper} {rest : List Oper} {i : Nat} {fps : List Fp} {a : AAct} {Q : AAct → AHeap → Prop} {v : Value} {H1 : AHeap} (hp : newOp o.op = true) (hw : wantA ops a o = some true)
    (hx : aop o.op P a H = some (.value v, H1)) (hm : ∀ r ∈ fps, Meets (anc.getD i 0) [] [] (idsV v ++ idsAt H1 H.next) r)
    (h : wpDraw P ops anc rest (i + 1) (⟨i, [], [], H.next, H.next + 1⟩ :: fps) (a.put o.dst v) H1 Q) : wpDraw P ops anc (o :: rest) i fps a H Q := by
  obtain ⟨f, hf⟩ := new_fun (P := P) hp a
  have hn := restrict_next H []
  rw [hf H] at hx
  cases hfn : f H.next with
  | none => rw [hfn] at hx; cases hx
  | some z =>
    obtain ⟨u, ob⟩ := z
    rw [hfn] at hx
    simp only [Option.map_some, Option.some.injEq, Prod.mk.injEq, ANext.value.injEq] at hx
    obtain ⟨rfl, rfl⟩ := hx
    have hd : ((H.restrict []).new ob).dirty = [] := hn.2.2
    have hnx : ((H.restrict []).new ob).next = H.next + 1 := by simp only [AHeap.new_eq, hn.1]
    have hg : ((H.restrict []).new ob).get H.next = some ob := by rw [AHeap.get_new, if_pos hn.1.symm]
    have hmg : H.merge ((H.restrict []).new ob) = H.new ob := by
      unfold AHeap.merge
      rw [hd, hnx, Nat.add_sub_cancel_left]
      simp only [AHeap.mergeW, AHeap.mergeN, hg]
      rfl
    simp only [wpDraw, hw]
    refine ⟨[], u, (H.restrict []).new ob, opS_of (x := .value u) (g := (H.restrict []).new ob) ?_ ⟨rfl, rfl⟩, by simp, by rw [hd]; simp, fun r hr => fpOk_of ?_, ?_⟩
    · rw [hf, hn.1, hfn]; rfl
    · have hi : idsAt ((H.restrict []).new ob) H.next = idsAt (H.new ob) H.next := by
        simp only [idsAt, hg, AHeap.get_new, if_true]
      have : outIds u ((H.restrict []).new ob) H.next = idsV u ++ idsAt (H.new ob) H.next := by
        simp only [outIds, hnx, hd, Nat.add_sub_cancel_left, rangeFrom, List.nil_append, List.flatMap_cons, List.flatMap_nil, List.append_nil, hi]
      rw [hd, this]
      exact hm r hr
    · rw [hmg, hd, hnx]; exact h

theorem wkD_draw {ops : Array Oper} {anc : List Nat} {Q : AAct → AHeap → Prop} : ∀ (rest : List Oper) (i : Nat) (fps : List Fp) (a : AAct) (H : AHeap), wkD P ops anc rest i fps a H Q → wpDraw P ops anc rest i fps a H Q
  | [], _, _, _, _, h => h
  | o :: rest, i, fps, a, H, h => by
    simp only [wkD] at h
    split at h
    · rename_i hw
      unfold stepD at h
      split at h
      · rename_i hp
        unfold pureD at h
        split at h
        · rename_i v g hx
          obtain ⟨f, hf⟩ := pure_fun (P := P) hp a
          have hg : g = H := by
            have := hf H
            rw [hx] at this
            cases f with
            | none => cases this
            | some y => simp only [Option.map_some, Option.some.injEq, Prod.mk.injEq] at this; exact this.2
          subst hg
          exact wpDraw_pure hp hw hx h.1 (wkD_draw rest _ _ _ _ h.2)
        · exact h.elim
      · split at h
        · rename_i t x hop
          unfold loadD at h
          split at h
          · rename_i n off hx
            split at h
            · rename_i v hl
              exact wpDraw_load hop hw hx hl h.1 (wkD_draw rest _ _ _ _ h.2)
            · exact h.elim
          · exact h.elim
        · rename_i t x y hop
          unfold storeD at h
          split at h
          · rename_i n off v hx hy
            split at h
            · rename_i H1 hs
              exact wpDraw_store hop hw hx hy hs h.1 h.2.1 (wkD_draw rest _ _ _ _ h.2.2)
            · exact h.elim
          · exact h.elim
        · rename_i op t x y u hop
          have gen : genD P o a H (anc.getD i 0) i fps (fun fps' v H1 => wkD P ops anc rest (i + 1) fps' (a.put o.dst v) H1 Q) → wpDraw P ops anc (o :: rest) i fps a H Q := by
            rintro ⟨F, v, g, h1, h2, h3, h4, h5⟩
            simp only [wpDraw, hw]
            exact ⟨F, v, g, h1, h2, h3, h4, wkD_draw rest _ _ _ _ h5⟩
          unfold binD at h
          split at h
          · rename_i p q hx hy
            split at h
            · rename_i v hv
              refine wpDraw_reg hw (fun G => ?_) h.1 (wkD_draw rest _ _ _ _ h.2)
              rw [hop]
              simp only [aop, xBin, hx, hy, Option.bind_eq_bind, Option.bind_some, binV, regBin_aBin hv G]
            · exact gen h
          · exact gen h
        · have gen : genD P o a H (anc.getD i 0) i fps (fun fps' v H1 => wkD P ops anc rest (i + 1) fps' (a.put o.dst v) H1 Q) → wpDraw P ops anc (o :: rest) i fps a H Q := by
            rintro ⟨F, v, g, h1, h2, h3, h4, h5⟩
            simp only [wpDraw, hw]
            exact ⟨F, v, g, h1, h2, h3, h4, wkD_draw rest _ _ _ _ h5⟩
          unfold restD at h
          split at h
          · rename_i hp
            unfold newD at h
            split at h
            · rename_i v H1 hx
              exact wpDraw_new hp hw hx h.1 (wkD_draw rest _ _ _ _ h.2)
            · exact h.elim
          · split at h
            · rename_i b args ts hop
              unfold btD at h
              split at h
              · rename_i vs hvs
                split at h
                · rename_i v hv
                  refine wpDraw_reg hw (fun G => ?_) h.1 (wkD_draw rest _ _ _ _ h.2)
                  rw [hop]
                  simp only [aop, xCall, hvs, Option.bind_eq_bind, Option.bind_some, regBt_aBuiltin hv G, rvh, Option.map_some]
                · exact gen h
              · exact gen h
            · exact gen h
    · rename_i hw
      simp only [wpDraw, hw]
      exact wkD_draw rest _ _ _ _ h
    · exact h.elim

section
variable {ops : Array Oper} {anc : List Nat} {d : Nat} {ty : TypeId} {pos : String} {after : Array Edge} {rest : List Oper} {i : Nat} {fps : List Fp} {Q : AAct → AHeap → Prop}

def valD (P : Program) (ops : Array Oper) (anc : List Nat) (rest : List Oper) (i : Nat) (fps : List Fp) (N : Nat) (E : Env) (ds : List Deferred) (d : Nat) (H : AHeap) (Q : AAct → AHeap → Prop) : Option Value → Prop
  | some v => IdsOk (anc.getD i 0) fps (idsV v) ∧ wkD P ops anc rest (i + 1) fps (mkA N (upd E d v) ds) H Q
  | none => False
theorem valD_some {v : Value} : valD P ops anc rest i fps N E ds d H Q (some v) = (IdsOk (anc.getD i 0) fps (idsV v) ∧ wkD P ops anc rest (i + 1) fps (mkA N (upd E d v) ds) H Q) := by simp only [valD]

theorem w_draw {Q : Exit → AAct → AHeap → Prop} {id : Nat} {l : List Oper} {a : AAct} (hst : staticOk ⟨l⟩ = true) (h : wkD P ⟨l⟩ (ancs ⟨l⟩) l 0 [] a H (Q .normal)) : wpA P ro (.region id ⟨l⟩ true) Q a H :=
  ⟨hst, .inl (wkD_draw l 0 [] a H h)⟩

theorem wd_nil {a : AAct} : wkD P ops anc [] i fps a H Q = Q a H := by simp only [wkD]

theorem wd_rv {op : Op} {x : Option Value} (hp : pureOp op = true) (h : aop op P (mkA N E ds) H = rv H x) (hd : d < N) : wkD P ops anc (⟨some d, op, ty, pos, after, none⟩ :: rest) i fps (mkA N E ds) H Q = valD P ops anc rest i fps N E ds d H Q x := by
  simp only [wkD, wantA, stepD, hp, h, rv]
  cases x with
  | none => rfl
  | some v => simp only [Option.map_some, pureD, put_some N E ds d v hd, valD]

theorem wd_move {x : Operand} (hx : opOk P N x = true) (hd : d < N) : wkD P ops anc (⟨some d, .move x, ty, pos, after, none⟩ :: rest) i fps (mkA N E ds) H Q = valD P ops anc rest i fps N E ds d H Q (some (opv E x)) :=
  wd_rv rfl (by simp only [aop, xMove, aeval_opv hx]) hd
theorem wd_assign {x : Operand} (hx : opOk P N x = true) (hd : d < N) : wkD P ops anc (⟨some d, .assign x, ty, pos, after, none⟩ :: rest) i fps (mkA N E ds) H Q = valD P ops anc rest i fps N E ds d H Q (some (opv E x)) :=
  wd_rv rfl (by simp only [aop, xMove, aeval_opv hx]) hd
theorem wd_fieldAddr {x : Operand} {t : TypeId} {f : Nat} (hx : opOk P N x = true) (hd : d < N) : wkD P ops anc (⟨some d, .fieldAddr t x f, ty, pos, after, none⟩ :: rest) i fps (mkA N E ds) H Q = valD P ops anc rest i fps N E ds d H Q (aFieldAddr P t (opv E x) f) :=
  wd_rv rfl (by simp only [aop, xFieldAddr, aeval_opv hx, Option.bind_eq_bind, Option.bind_some]) hd
theorem wd_field {x : Operand} {t : TypeId} {f : Nat} (hx : opOk P N x = true) (hd : d < N) : wkD P ops anc (⟨some d, .field t x f, ty, pos, after, none⟩ :: rest) i fps (mkA N E ds) H Q = valD P ops anc rest i fps N E ds d H Q (aField P t (opv E x) f) :=
  wd_rv rfl (by simp only [aop, xField, aeval_opv hx, Option.bind_eq_bind, Option.bind_some]) hd
theorem wd_indexAddr {x y : Operand} {t : TypeId} (hx : opOk P N x = true) (hi : opOk P N y = true) (hd : d < N) : wkD P ops anc (⟨some d, .indexAddr t x y, ty, pos, after, none⟩ :: rest) i fps (mkA N E ds) H Q = valD P ops anc rest i fps N E ds d H Q (aIndexAddr P t (opv E x) (opv E y)) :=
  wd_rv rfl (by simp only [aop, xIndexAddr, aeval_opv hx, aeval_opv hi, Option.bind_eq_bind, Option.bind_some]) hd
theorem wd_typeAssert {x : Operand} {t u : TypeId} {ok : Bool} (hx : opOk P N x = true) (hd : d < N) : wkD P ops anc (⟨some d, .typeAssert x t u ok, ty, pos, after, none⟩ :: rest) i fps (mkA N E ds) H Q = valD P ops anc rest i fps N E ds d H Q (aTypeAssert P (opv E x) u ok) :=
  wd_rv rfl (by simp only [aop, xTypeAssert, aeval_opv hx, Option.bind_eq_bind, Option.bind_some]) hd
theorem wd_extract {x : Operand} {k : Nat} (hx : opOk P N x = true) (hd : d < N) : wkD P ops anc (⟨some d, .extract x k, ty, pos, after, none⟩ :: rest) i fps (mkA N E ds) H Q = valD P ops anc rest i fps N E ds d H Q (exV k (opv E x)) :=
  wd_rv rfl (by
    simp only [aop, xExtract, aeval_opv hx, Option.bind_eq_bind, Option.bind_some, extractV]
    cases opv E x <;> rfl) hd
theorem wd_nilCheck {x : Operand} (hx : opOk P N x = true) (hd : d < N) (h : (nilW P (opv E x)).isSome = true) : wkD P ops anc (⟨some d, .nilCheck x, ty, pos, after, none⟩ :: rest) i fps (mkA N E ds) H Q = valD P ops anc rest i fps N E ds d H Q (nilW P (opv E x)) :=
  wd_rv rfl (by
    simp only [aop, xNil, aeval_opv hx, Option.bind_eq_bind, Option.bind_some]
    simp only [nilW] at h ⊢
    unfold nilV at h ⊢
    split <;> simp_all [rv]) hd
theorem wd_build {t : TypeId} {l : List (Nat × Operand)} (hd : d < N) : wkD P ops anc (⟨some d, .build t ⟨l⟩, ty, pos, after, none⟩ :: rest) i fps (mkA N E ds) H Q = valD P ops anc rest i fps N E ds d H Q ((pairs P (mkA N E ds) l).bind (aBuild P t)) :=
  wd_rv rfl (by
    simp only [aop, xBuild, Option.bind_eq_bind]
    cases pairs P (mkA N E ds) l <;> rfl) hd
theorem wd_pick {c x y : Operand} (hc : opOk P N c = true) (hx : opOk P N x = true) (hy : opOk P N y = true) (hd : d < N) : wkD P ops anc (⟨some d, .pick c x y, ty, pos, after, none⟩ :: rest) i fps (mkA N E ds) H Q = valD P ops anc rest i fps N E ds d H Q (pickV (opv E x) (opv E y) (opv E c)) :=
  wd_rv rfl (by
    simp only [aop, xPick, aeval_opv hc, aeval_opv hx, aeval_opv hy, Option.bind_eq_bind, Option.bind_some]
    cases opv E c with
    | bool b => cases b <;> rfl
    | _ => rfl) hd
theorem wd_iface {t : TypeId} {x : Operand} (hx : opOk P N x = true) (hd : d < N) : wkD P ops anc (⟨some d, .makeInterface t x, ty, pos, after, none⟩ :: rest) i fps (mkA N E ds) H Q = valD P ops anc rest i fps N E ds d H Q (ifaceW P t (opv E x)) :=
  wd_rv rfl (by
    simp only [aop, xIface, aeval_opv hx, Option.bind_eq_bind, Option.bind_some, ifaceV, ifaceW]
    cases P.underlying t with
    | none => rfl
    | some td => cases td <;> rfl) hd
theorem wd_bin {op : BinOp} {t u : TypeId} {x y : Operand} (hx : opOk P N x = true) (hy : opOk P N y = true) (hd : d < N) (h : (regBin P op t (opv E x) (opv E y)).isSome = true) : wkD P ops anc (⟨some d, .binOp op t x y u, ty, pos, after, none⟩ :: rest) i fps (mkA N E ds) H Q = valD P ops anc rest i fps N E ds d H Q (regBin P op t (opv E x) (opv E y)) := by
  cases hv : regBin P op t (opv E x) (opv E y) with
  | none => rw [hv] at h; cases h
  | some v => simp only [wkD, wantA, stepD, pureOp, binD, aeval_opv hx, aeval_opv hy, hv, put_some N E ds d v hd, valD]
def loadV (P : Program) (ops : Array Oper) (anc : List Nat) (rest : List Oper) (i : Nat) (fps : List Fp) (N : Nat) (E : Env) (ds : List Deferred) (d : Nat) (H : AHeap) (Q : AAct → AHeap → Prop) (n : Nat) : Option Value → Prop
  | some v => (∀ r ∈ fps, Meets (anc.getD i 0) [n] [] (idsV v) r) ∧ wkD P ops anc rest (i + 1) (⟨i, [n], [], H.next, H.next⟩ :: fps) (mkA N (upd E d v) ds) H Q
  | none => False
theorem loadV_some {n : Nat} {v : Value} : loadV P ops anc rest i fps N E ds d H Q n (some v) = ((∀ r ∈ fps, Meets (anc.getD i 0) [n] [] (idsV v) r) ∧ wkD P ops anc rest (i + 1) (⟨i, [n], [], H.next, H.next⟩ :: fps) (mkA N (upd E d v) ds) H Q) := by simp only [loadV]
def ptrB : Value → Nat
  | .pointer (some a) => a.block
  | _ => 0
def plainPtr : Value → Bool
  | .pointer (some ⟨_, _, none⟩) => true
  | _ => false
theorem ptrB_eq {n off : Nat} : ptrB (.pointer (some ⟨n, off, none⟩)) = n := by simp only [ptrB]
theorem plainPtr_eq {n off : Nat} : plainPtr (.pointer (some ⟨n, off, none⟩)) = true := by simp only [plainPtr]
theorem wd_load {x : Operand} {t : TypeId} (hx : opOk P N x = true) (hd : d < N) (hp : plainPtr (opv E x) = true) : wkD P ops anc (⟨some d, .load t x, ty, pos, after, none⟩ :: rest) i fps (mkA N E ds) H Q = loadV P ops anc rest i fps N E ds d H Q (ptrB (opv E x)) (aLoad P H t (opv E x)) := by
  simp only [wkD, wantA, stepD, pureOp, aeval_opv hx]
  unfold plainPtr at hp
  split at hp
  · rename_i n off heq
    rw [heq]
    simp only [loadD, ptrB]
    cases aLoad P H t (.pointer (some ⟨n, off, none⟩)) with
    | none => rfl
    | some v => simp only [put_some N E ds d v hd, loadV]
  · cases hp

def genV (P : Program) (ops : Array Oper) (anc : List Nat) (o : Oper) (rest : List Oper) (i : Nat) (fps : List Fp) (a : AAct) (H : AHeap) (Q : AAct → AHeap → Prop) : Prop :=
  genD P o a H (anc.getD i 0) i fps fun fps' v H1 => wkD P ops anc rest (i + 1) fps' (a.put o.dst v) H1 Q
theorem wd_call {f : Operand} {args : Array Operand} {ts : Array TypeId} {dst : Option Nat} : wkD P ops anc (⟨dst, .call ⟨.value f, args, ts⟩, ty, pos, after, none⟩ :: rest) i fps (mkA N E ds) H Q = genV P ops anc ⟨dst, .call ⟨.value f, args, ts⟩, ty, pos, after, none⟩ rest i fps (mkA N E ds) H Q := by
  simp only [wkD, wantA, stepD, pureOp, restD, newOp, genV]

theorem genV_quiet {f : FuncId} {args : List Operand} {ts : Array TypeId} {v : Value} (F : List Nat) (ha : args.all (opOk P N) = true) (hb : hasBody P f = true) (hd : d < N) (hF : ∀ n ∈ F, H.get n ≠ none)
    (hc : ∀ G : AHeap, G.next = H.next → (∀ n ∈ F, G.get n = H.get n) → CallS P f (args.map (opv E)) G (.ok v) G) (hm : ∀ r ∈ fps, Meets (anc.getD i 0) F [] (idsV v) r)
    (h : wkD P ops anc rest (i + 1) (⟨i, F, [], H.next, H.next⟩ :: fps) (mkA N (upd E d v) ds) H Q) : genV P ops anc ⟨some d, .call ⟨.value (.func f), ⟨args⟩, ts⟩, ty, pos, after, none⟩ rest i fps (mkA N E ds) H Q := by
  have hn := restrict_next H F
  refine ⟨F, v, H.restrict F, ?_, hF, (by rw [hn.2.2]; simp), fun r hr => fpOk_of ?_, ?_⟩
  · refine opS_of (x := .enter f (args.map (opv E))) (g := H.restrict F) ?_ (hc _ hn.1 (fun n hn' => by rw [restrict_get, if_pos hn']))
    simp only [aop, xCall, aevals_opv ha, aeval, Option.bind_eq_bind, Option.bind_some, callV, aInvoke, enterN, hb, if_true, List.nil_append, List.append_nil, Option.map_some]
  · simp only [outIds, hn.2.2, hn.1, Nat.sub_self, rangeFrom, List.append_nil, List.flatMap_nil]
    exact hm r hr
  · rw [merge_self, hn.2.2, hn.1]
    simp only [put_some N E ds d v hd]
    exact h

theorem reg_add {t : TypeId} {k : IntKind} {x y : Int} : regBin P .add t (.int k x) (.int k y) = some (.int k (k.wrap (x + y))) := by simp [regBin, intBin]
theorem reg_sub {t : TypeId} {k : IntKind} {x y : Int} : regBin P .sub t (.int k x) (.int k y) = some (.int k (k.wrap (x - y))) := by simp [regBin, intBin]
theorem reg_mul {t : TypeId} {k : IntKind} {x y : Int} : regBin P .mul t (.int k x) (.int k y) = some (.int k (k.wrap (x * y))) := by simp [regBin, intBin]
theorem reg_lss {t : TypeId} {k : IntKind} {x y : Int} : regBin P .lss t (.int k x) (.int k y) = some (.bool (decide (x < y))) := by simp [regBin, intBin]
theorem reg_leq {t : TypeId} {k : IntKind} {x y : Int} : regBin P .leq t (.int k x) (.int k y) = some (.bool (decide (x ≤ y))) := by simp [regBin, intBin]
theorem reg_gtr {t : TypeId} {k : IntKind} {x y : Int} : regBin P .gtr t (.int k x) (.int k y) = some (.bool (decide (y < x))) := by simp [regBin, intBin]
theorem reg_geq {t : TypeId} {k : IntKind} {x y : Int} : regBin P .geq t (.int k x) (.int k y) = some (.bool (decide (y ≤ x))) := by simp [regBin, intBin]
theorem reg_eql {t : TypeId} {k : IntKind} {x y : Int} : regBin P .eql t (.int k x) (.int k y) = some (.bool (decide (x = y))) := by simp [regBin, intBin]; rfl
theorem reg_neq {t : TypeId} {k : IntKind} {x y : Int} : regBin P .neq t (.int k x) (.int k y) = some (.bool (decide (x ≠ y))) := by
  have : (x != y) = decide (x ≠ y) := by by_cases h : x = y <;> simp [h]
  simp [regBin, intBin, this]
theorem reg_eqb {t : TypeId} {x y : Bool} (h : P.underlying t = some .bool) : regBin P .eql t (.bool x) (.bool y) = some (.bool (decide (x = y))) := by simp only [regBin, h, eqOp]; cases x <;> cases y <;> rfl
theorem reg_neb {t : TypeId} {x y : Bool} (h : P.underlying t = some .bool) : regBin P .neq t (.bool x) (.bool y) = some (.bool (decide (x ≠ y))) := by simp only [regBin, h, eqOp]; cases x <;> cases y <;> rfl

theorem bt_max {ts : Array TypeId} {k : IntKind} {x y : Int} : aBuiltin P H .max ts [.int k x, .int k y] = some (.int k (max x y), H) := by
  have : (if y > x then y else x) = max x y := by split <;> omega
  simp [aBuiltin, aMinMax, this]
theorem bt_min {ts : Array TypeId} {k : IntKind} {x y : Int} : aBuiltin P H .min ts [.int k x, .int k y] = some (.int k (min x y), H) := by
  have : (if y < x then y else x) = min x y := by split <;> omega
  simp [aBuiltin, aMinMax, this]
theorem bt_len {t e : TypeId} {x : Option Addr} {n c : Nat} (h : P.underlying t = some (.slice e)) : aBuiltin P H .len ⟨[t]⟩ [.slice x n c] = some (goInt n, H) := by
  simp [aBuiltin, aLen, h]

def storeV (P : Program) (ops : Array Oper) (anc : List Nat) (rest : List Oper) (i : Nat) (fps : List Fp) (a : AAct) (H : AHeap) (Q : AAct → AHeap → Prop) (n : Nat) : Option AHeap → Prop
  | some H1 => n < H.next ∧ (∀ r ∈ fps, Meets (anc.getD i 0) [n] [n] (idsAt H1 n) r) ∧ wkD P ops anc rest (i + 1) (⟨i, [n], [n], H.next, H.next⟩ :: fps) a H1 Q
  | none => False
theorem storeV_some {n : Nat} {a : AAct} {H1 : AHeap} : storeV P ops anc rest i fps a H Q n (some H1) = (n < H.next ∧ (∀ r ∈ fps, Meets (anc.getD i 0) [n] [n] (idsAt H1 n) r) ∧ wkD P ops anc rest (i + 1) (⟨i, [n], [n], H.next, H.next⟩ :: fps) a H1 Q) := by simp only [storeV]
theorem wd_store {x y : Operand} {t : TypeId} (hx : opOk P N x = true) (hy : opOk P N y = true) (hp : plainPtr (opv E x) = true) : wkD P ops anc (⟨none, .store t x y, ty, pos, after, none⟩ :: rest) i fps (mkA N E ds) H Q = storeV P ops anc rest i fps (mkA N E ds) H Q (ptrB (opv E x)) (aStore P H t (opv E x) (opv E y)) := by
  simp only [wkD, wantA, stepD, pureOp, aeval_opv hx, aeval_opv hy]
  unfold plainPtr at hp
  split at hp
  · rename_i n off heq
    rw [heq]
    simp only [storeD, ptrB]
    cases aStore P H t (.pointer (some ⟨n, off, none⟩)) (opv E y) with
    | none => rfl
    | some H1 => simp only [put_none, storeV]
  · cases hp

def newV (P : Program) (ops : Array Oper) (anc : List Nat) (rest : List Oper) (i : Nat) (fps : List Fp) (N : Nat) (E : Env) (ds : List Deferred) (d : Nat) (H : AHeap) (Q : AAct → AHeap → Prop) : Option (Value × AHeap) → Prop
  | some (v, H1) => (∀ r ∈ fps, Meets (anc.getD i 0) [] [] (idsV v ++ idsAt H1 H.next) r) ∧ wkD P ops anc rest (i + 1) (⟨i, [], [], H.next, H.next + 1⟩ :: fps) (mkA N (upd E d v) ds) H1 Q
  | none => False
theorem newV_some {v : Value} {H1 : AHeap} : newV P ops anc rest i fps N E ds d H Q (some (v, H1)) = ((∀ r ∈ fps, Meets (anc.getD i 0) [] [] (idsV v ++ idsAt H1 H.next) r) ∧ wkD P ops anc rest (i + 1) (⟨i, [], [], H.next, H.next + 1⟩ :: fps) (mkA N (upd E d v) ds) H1 Q) := by simp only [newV]
theorem wd_rvh {op : Op} {x : Option (Value × AHeap)} (hp : newOp op = true) (h : aop op P (mkA N E ds) H = rvh x) (hd : d < N) : wkD P ops anc (⟨some d, op, ty, pos, after, none⟩ :: rest) i fps (mkA N E ds) H Q = newV P ops anc rest i fps N E ds d H Q x := by
  have h1 : pureOp op = false := by cases op <;> first | rfl | cases hp
  have h2 : stepD P ⟨some d, op, ty, pos, after, none⟩ (mkA N E ds) H = restD P ⟨some d, op, ty, pos, after, none⟩ (mkA N E ds) H := by
    funext anc i fps K
    cases op <;> first | rfl | cases hp
  simp only [wkD, wantA, h2, restD, hp, h, rvh]
  cases x with
  | none => rfl
  | some v => simp only [Option.map_some, newD, put_some N E ds d v.1 hd, newV]
theorem wd_alloc {t : TypeId} (hd : d < N) : wkD P ops anc (⟨some d, .alloc t, ty, pos, after, none⟩ :: rest) i fps (mkA N E ds) H Q = newV P ops anc rest i fps N E ds d H Q (allocV H t (zeroOf P t)) :=
  wd_rvh rfl (by
    simp only [aop, xAlloc, Option.bind_eq_bind]
    cases zeroOf P t with
    | none => rfl
    | some z =>
      simp only [Option.bind_some, xBox, allocV, rvh, Option.bind_eq_bind]
      cases aNew H t z.cells.toList false <;> rfl) hd
theorem wd_box {t : TypeId} {x : Operand} (hx : opOk P N x = true) (hd : d < N) : wkD P ops anc (⟨some d, .box t x, ty, pos, after, none⟩ :: rest) i fps (mkA N E ds) H Q = newV P ops anc rest i fps N E ds d H Q (allocV H t (some (opv E x))) :=
  wd_rvh rfl (by
    simp only [aop, xBoxOp, aeval_opv hx, Option.bind_eq_bind, Option.bind_some, xBox, allocV, rvh]
    cases aNew H t (opv E x).cells.toList false <;> rfl) hd
theorem wd_buildSlice {t : TypeId} {n : Nat} {l : List (Nat × Operand)} (hd : d < N) : wkD P ops anc (⟨some d, .buildSlice t n ⟨l⟩, ty, pos, after, none⟩ :: rest) i fps (mkA N E ds) H Q = newV P ops anc rest i fps N E ds d H Q ((pairs P (mkA N E ds) l).bind (aBuildSlice P H t n)) :=
  wd_rvh rfl (by
    simp only [aop, xBuildSlice, Option.bind_eq_bind]
    cases pairs P (mkA N E ds) l <;> rfl) hd
theorem wd_makeSlice {t : TypeId} {x y : Operand} (hx : opOk P N x = true) (hy : opOk P N y = true) (hd : d < N) : wkD P ops anc (⟨some d, .makeSlice t x y, ty, pos, after, none⟩ :: rest) i fps (mkA N E ds) H Q = newV P ops anc rest i fps N E ds d H Q (aMakeSlice P H t (opv E x) (opv E y)) :=
  wd_rvh rfl (by simp only [aop, xMakeSlice, aeval_opv hx, aeval_opv hy, Option.bind_eq_bind, Option.bind_some]) hd
theorem wd_builtin {b : Builtin} {args : List Operand} {ts : Array TypeId} (ha : args.all (opOk P N) = true) (hd : d < N) (h : (regBt P b ts (args.map (opv E))).isSome = true) :
    wkD P ops anc (⟨some d, .call ⟨.builtin b, ⟨args⟩, ts⟩, ty, pos, after, none⟩ :: rest) i fps (mkA N E ds) H Q = valD P ops anc rest i fps N E ds d H Q (regBt P b ts (args.map (opv E))) := by
  cases hv : regBt P b ts (args.map (opv E)) with
  | none => rw [hv] at h; cases h
  | some v => simp only [wkD, wantA, stepD, pureOp, restD, newOp, btD, aevals_opv ha, hv, put_some N E ds d v hd, valD]
theorem rb_max {ts : Array TypeId} {k : IntKind} {x y : Int} : regBt P .max ts [.int k x, .int k y] = some (.int k (max x y)) := by
  have : (if y > x then y else x) = max x y := by split <;> omega
  simp [regBt, aMinMax, this]
theorem rb_min {ts : Array TypeId} {k : IntKind} {x y : Int} : regBt P .min ts [.int k x, .int k y] = some (.int k (min x y)) := by
  have : (if y < x then y else x) = min x y := by split <;> omega
  simp [regBt, aMinMax, this]
theorem rb_len {t e : TypeId} {x : Option Addr} {n c : Nat} (h : P.underlying t = some (.slice e)) : regBt P .len ⟨[t]⟩ [.slice x n c] = some (goInt n) := by
  simp [regBt, h]

def guardV (P : Program) (ops : Array Oper) (anc : List Nat) (o : Oper) (rest : List Oper) (i : Nat) (fps : List Fp) (N : Nat) (E : Env) (ds : List Deferred) (H : AHeap) (Q : AAct → AHeap → Prop) (want : Bool) : Value → Prop
  | .bool b => if b = want then wkD P ops anc (o :: rest) i fps (mkA N E ds) H Q else wkD P ops anc rest (i + 1) fps ((mkA N E ds).put o.dst undef) H Q
  | _ => wkD P ops anc rest (i + 1) fps ((mkA N E ds).put o.dst undef) H Q
theorem guardV_bool {o : Oper} {want b : Bool} : guardV P ops anc o rest i fps N E ds H Q want (.bool b) = if b = want then wkD P ops anc (o :: rest) i fps (mkA N E ds) H Q else wkD P ops anc rest (i + 1) fps ((mkA N E ds).put o.dst undef) H Q := by simp only [guardV]
theorem genD_guard {op : Op} {dst : Option Nat} {g : Option (Nat × Bool)} {a : AAct} {anc i : Nat} {K : List Fp → Value → AHeap → Prop} : genD P ⟨dst, op, ty, pos, after, g⟩ a H anc i fps K = genD P ⟨dst, op, ty, pos, after, none⟩ a H anc i fps K := rfl
theorem stepD_guard {op : Op} {dst : Option Nat} {g : Option (Nat × Bool)} {a : AAct} {anc i : Nat} {K : List Fp → Value → AHeap → Prop} : stepD P ⟨dst, op, ty, pos, after, g⟩ a H anc i fps K = stepD P ⟨dst, op, ty, pos, after, none⟩ a H anc i fps K := by
  unfold stepD restD
  simp only [genD_guard (g := g)]
theorem wd_guard {dst : Option Tmp} {op : Op} {j d : Nat} {want : Bool} (hj : dstOf ops j = some d) (hd : d < N) :
    wkD P ops anc (⟨dst, op, ty, pos, after, some (j, want)⟩ :: rest) i fps (mkA N E ds) H Q = guardV P ops anc ⟨dst, op, ty, pos, after, none⟩ rest i fps N E ds H Q want (E d) := by
  unfold dstOf at hj
  cases ho : ops[j]? with
  | none => rw [ho] at hj; cases hj
  | some oj =>
    rw [ho] at hj
    simp only [Option.bind_some] at hj
    have hw : wantA ops (mkA N E ds) ⟨dst, op, ty, pos, after, some (j, want)⟩ = (match E d with
        | .bool b => some (b == want)
        | _ => some false) := by
      simp only [wantA, ho, hj, tmp_mk N E ds d hd]
      cases E d <;> rfl
    have hn : wantA ops (mkA N E ds) ⟨dst, op, ty, pos, after, none⟩ = some true := rfl
    cases hv : E d with
    | bool b =>
      rw [hv] at hw
      simp only [guardV]
      by_cases h : b = want
      · rw [if_pos h]
        have : (b == want) = true := by simpa using h
        simp only [wkD, hw, this, hn]
        exact stepD_guard
      · rw [if_neg h]
        have : (b == want) = false := by simpa using h
        simp only [wkD, hw, this]
    | _ => rw [hv] at hw; simp only [wkD, hw, guardV]

theorem idsOk_nil {anc : Nat} {O : List Nat} : IdsOk anc [] O = True := by simp [IdsOk]
theorem idsOk_quiet {anc j n : Nat} {F W O : List Nat} : IdsOk anc (⟨j, F, W, n, n⟩ :: fps) O = IdsOk anc fps O := by simp [IdsOk]
theorem meets_nil {anc : Nat} {F W O : List Nat} : (∀ r ∈ ([] : List Fp), Meets anc F W O r) = True := by simp
theorem meets_quiet {anc j n : Nat} {F G O : List Nat} : (∀ r ∈ (⟨j, F, [], n, n⟩ : Fp) :: fps, Meets anc G [] O r) = ∀ r ∈ fps, Meets anc G [] O r := by
  simp [Meets]

end
end
end Go.Ax

/- Walks over abstract heaps: calls that only make new memory. -/
namespace Go.Ax

structure Grow (H H1 : AHeap) : Prop where
  next : H.next ≤ H1.next
  get : ∀ n, n < H.next → H1.get n = H.get n
  base : H1.base = H.base
  dirty : H1.dirty = H.dirty

theorem Grow.refl (H : AHeap) : Grow H H := ⟨Nat.le_refl _, fun _ _ => rfl, rfl, rfl⟩
theorem Grow.trans {H H1 H2 : AHeap} (a : Grow H H1) (b : Grow H1 H2) : Grow H H2 :=
  ⟨Nat.le_trans a.next b.next, fun n h => (b.get n (Nat.lt_of_lt_of_le h a.next)).trans (a.get n h), b.base.trans a.base, b.dirty.trans a.dirty⟩
theorem Grow.nw (H : AHeap) (e : TypeId) (l : List Value) (o : Bool) : Grow H (nw H e l o) :=
  ⟨Nat.le_succ _, fun n h => nw_get e l o (Nat.ne_of_lt h), rfl, rfl⟩
theorem Grow.blk {H H1 : AHeap} (g : Grow H H1) {n : Nat} {e : TypeId} {o : Bool} {l : List Value} (hn : n < H.next) (h : Blk H n e o l) : Blk H1 n e o l := h.of_get (g.get n hn)

theorem idsOk_empty {anc : Nat} {fps : List Fp} : IdsOk anc fps [] = True := by simp [IdsOk]
theorem idsOk_cons {anc : Nat} {fps : List Fp} {r : Fp} {O : List Nat} : IdsOk anc (r :: fps) O = ((r.lo < r.hi → anc.testBit r.i = true ∨ ∀ n ∈ O, n < r.lo ∨ r.hi ≤ n) ∧ IdsOk anc fps O) := by simp [IdsOk]
theorem ids_int {k : IntKind} {n : Int} : idsV (.int k n) = [] := by simp only [idsV]
theorem ids_bool {b : Bool} : idsV (.bool b) = [] := by simp only [idsV]
theorem ids_ptr {a : Addr} : idsV (.pointer (some a)) = [a.block] := by simp only [idsV]
theorem ids_nil : idsV (.pointer none) = [] := by simp only [idsV]
theorem ids_iface {t : TypeId} {v : Value} : idsV (.iface t v) = idsV v := by simp only [idsV]
theorem ids_agg {l : List Value} : idsV (.agg ⟨l⟩) = idsL l := by simp only [idsV, idsA]
theorem ids_tuple {l : List Value} : idsV (.tuple ⟨l⟩) = idsL l := by simp only [idsV, idsA]
theorem ids_func {f : FuncId} : idsV (.func (.func f) ⟨[]⟩ ⟨[]⟩) = [] := by simp [idsV, idsA, idsL]
theorem idsL_nil : idsL [] = [] := by simp only [idsL]
theorem idsL_cons {v : Value} {r : List Value} : idsL (v :: r) = idsV v ++ idsL r := by simp only [idsL]

section
variable {P : Program} {H : AHeap} {N : Nat} {E : Env} {ds : List Deferred} {ops : Array Oper} {anc : List Nat} {d : Nat} {ty : TypeId} {pos : String} {after : Array Edge} {rest : List Oper} {i : Nat} {fps : List Fp} {Q : AAct → AHeap → Prop}

theorem grow_merge {F : List Nat} {g : AHeap} (h : Grow (H.restrict F) g) : Grow H (H.merge g) ∧ (H.merge g).next = g.next ∧ ∀ n, H.next ≤ n → n < g.next → (H.merge g).get n = g.get n := by
  have hn := restrict_next H F
  have hd : g.dirty = [] := h.dirty.trans hn.2.2
  have hle : H.next ≤ g.next := by have := h.next; rw [hn.1] at this; exact this
  have hf := merge_facts H g
  refine ⟨⟨by rw [hf.1]; exact hle, fun n hlt => ?_, hf.2.1, ?_⟩, hf.1, fun n h1 h2 => ?_⟩
  · rw [merge_neg H g hle]
    rintro (h' | h')
    · rw [hd] at h'; cases h'
    · omega
  · simp only [AHeap.merge, hd, AHeap.mergeW]
    exact (mergeN_next g _ _ H).2
  · exact merge_pos H g hle (.inr ⟨h1, h2⟩)

theorem genV_grow {f : FuncId} {args : List Operand} {ts : Array TypeId} {v : Value} (F : List Nat) (ha : args.all (opOk P N) = true) (hb : hasBody P f = true) (hd : d < N) (hF : ∀ n ∈ F, H.get n ≠ none)
    {g : AHeap} (hc : CallS P f (args.map (opv E)) (H.restrict F) (.ok v) g) (hg : Grow (H.restrict F) g) (hm : ∀ r ∈ fps, Meets (anc.getD i 0) F [] (outIds v g H.next) r)
    (h : wkD P ops anc rest (i + 1) (⟨i, F, [], H.next, g.next⟩ :: fps) (mkA N (upd E d v) ds) (H.merge g) Q) : genV P ops anc ⟨some d, .call ⟨.value (.func f), ⟨args⟩, ts⟩, ty, pos, after, none⟩ rest i fps (mkA N E ds) H Q := by
  have hn := restrict_next H F
  have hdt : g.dirty = [] := hg.dirty.trans hn.2.2
  refine ⟨F, v, g, ?_, hF, (by rw [hdt]; simp), fun r hr => fpOk_of ?_, ?_⟩
  · refine opS_of (x := .enter f (args.map (opv E))) (g := H.restrict F) ?_ hc
    simp only [aop, xCall, aevals_opv ha, aeval, Option.bind_eq_bind, Option.bind_some, callV, aInvoke, enterN, hb, if_true, List.nil_append, List.append_nil, Option.map_some]
  · rw [hdt]; exact hm r hr
  · rw [hdt]
    simp only [put_some N E ds d v hd]
    exact h

theorem genV_growV {f : FuncId} {x : Operand} {args : List Operand} {ts : Array TypeId} {v : Value} (F : List Nat) (hx : opOk P N x = true) (hv : opv E x = .func (.func f) ⟨[]⟩ ⟨[]⟩) (ha : args.all (opOk P N) = true) (hb : hasBody P f = true) (hd : d < N) (hF : ∀ n ∈ F, H.get n ≠ none)
    {g : AHeap} (hc : CallS P f (args.map (opv E)) (H.restrict F) (.ok v) g) (hg : Grow (H.restrict F) g) (hm : ∀ r ∈ fps, Meets (anc.getD i 0) F [] (outIds v g H.next) r)
    (h : wkD P ops anc rest (i + 1) (⟨i, F, [], H.next, g.next⟩ :: fps) (mkA N (upd E d v) ds) (H.merge g) Q) : genV P ops anc ⟨some d, .call ⟨.value x, ⟨args⟩, ts⟩, ty, pos, after, none⟩ rest i fps (mkA N E ds) H Q := by
  have hn := restrict_next H F
  have hdt : g.dirty = [] := hg.dirty.trans hn.2.2
  refine ⟨F, v, g, ?_, hF, (by rw [hdt]; simp), fun r hr => fpOk_of ?_, ?_⟩
  · refine opS_of (x := .enter f (args.map (opv E))) (g := H.restrict F) ?_ hc
    simp only [aop, xCall, aevals_opv ha, aeval_opv hx, hv, Option.bind_eq_bind, Option.bind_some, callV, aInvoke, enterN, hb, if_true, List.nil_append, List.append_nil, Option.map_some]
  · rw [hdt]; exact hm r hr
  · rw [hdt]
    simp only [put_some N E ds d v hd]
    exact h

theorem wd_index {x y : Operand} {t : TypeId} (hx : opOk P N x = true) (hy : opOk P N y = true) (hd : d < N) (h : (aIndex P t (opv E x) (opv E y)).isSome = true) : wkD P ops anc (⟨some d, .index t x y, ty, pos, after, none⟩ :: rest) i fps (mkA N E ds) H Q = valD P ops anc rest i fps N E ds d H Q (aIndex P t (opv E x) (opv E y)) := by
  cases hv : aIndex P t (opv E x) (opv E y) with
  | none => rw [hv] at h; cases h
  | some v => exact wd_rv (x := some v) rfl (by simp only [aop, xIndex, aeval_opv hx, aeval_opv hy, Option.bind_eq_bind, Option.bind_some, indexV, hv]; rfl) hd

end
end Go.Ax
