/- The abstract executor: what a step keeps, and the steps of memory. -/
import Derived.Test.YtghlibiicooenaaGreatDoorAxB
namespace Go.Ax

structure Le (H H1 : AHeap) : Prop where
  next : H.next ≤ H1.next
  base : H1.base = H.base
  dirty : ∀ n, n ∈ H.dirty → n ∈ H1.dirty
  keep : ∀ n, n < H.base → n ∉ H1.dirty → H1.get n = H.get n
  gone : ∀ n, n < H.next → H.get n = none → H1.get n = none

theorem Le.refl (H : AHeap) : Le H H := ⟨Nat.le_refl _, rfl, fun _ h => h, fun _ _ _ => rfl, fun _ _ h => h⟩

theorem Le.trans {H H1 H2 : AHeap} (a : Le H H1) (b : Le H1 H2) : Le H H2 where
  next := Nat.le_trans a.next b.next
  base := b.base.trans a.base
  dirty := fun n h => b.dirty n (a.dirty n h)
  keep := fun n h1 h2 => (b.keep n (by rw [a.base]; exact h1) h2).trans (a.keep n h1 (fun h => h2 (b.dirty n h)))
  gone := fun n h1 h2 => b.gone n (Nat.lt_of_lt_of_le h1 a.next) (a.gone n h1 h2)

theorem Le.back {H H1 : AHeap} (a : Le H H1) {n : Nat} (h : n < H.next) (h1 : H1.get n ≠ none) : H.get n ≠ none := fun e => h1 (a.gone n h e)

structure St (P : Program) (ρ : Ren) (H : AHeap) (w : World) (ρ1 : Ren) (H1 : AHeap) (w1 : World) : Prop where
  ext : Ext H.next ρ ρ1
  le : Le H H1
  rel : Rel P ρ1 H1 w1
  os : w1.os = w.os
  tape : w1.tape = w.tape
  output : w1.output = w.output
  size : w.heap.size ≤ w1.heap.size
  old : ∀ b, b < w.heap.size → (∀ n, n < H.next → (H.base ≤ n ∨ n ∈ H1.dirty) → H.get n ≠ none → ρ.blk n ≠ b) → w1.heap[b]? = w.heap[b]?
  fresh : ∀ n, H.next ≤ n → H1.get n ≠ none → w.heap.size ≤ ρ1.blk n ∨ ∃ m, m < H.next ∧ H.get m ≠ none ∧ (H.base ≤ m ∨ m ∈ H1.dirty) ∧ ρ1.blk n = ρ.blk m

theorem Rel.lt {P : Program} {ρ : Ren} {H : AHeap} {w : World} (r : Rel P ρ H w) {n : Nat} (h : H.get n ≠ none) : n < H.next := by
  cases e : H.get n with
  | none => exact absurd e h
  | some o => exact (r.dom n o e).1

theorem Rel.blk_lt {P : Program} {ρ : Ren} {H : AHeap} {w : World} (r : Rel P ρ H w) {n : Nat} (h : H.get n ≠ none) : ρ.blk n < w.heap.size := by
  cases e : H.get n with
  | none => exact absurd e h
  | some o =>
    obtain ⟨o', h', _⟩ := r.obj n o e
    rcases Nat.lt_or_ge (ρ.blk n) w.heap.size with h1 | h1
    · exact h1
    · simp [Array.getElem?_eq_none h1] at h'

theorem St.refl {P : Program} {ρ : Ren} {H : AHeap} {w : World} (r : Rel P ρ H w) : St P ρ H w ρ H w :=
  ⟨Ext.refl _ _, Le.refl _, r, rfl, rfl, rfl, Nat.le_refl _, fun _ _ _ => rfl, fun n h1 h2 => absurd (r.lt h2) (by omega)⟩

theorem St.trans {P : Program} {ρ ρ1 ρ2 : Ren} {H H1 H2 : AHeap} {w w1 w2 : World} (a : St P ρ H w ρ1 H1 w1) (b : St P ρ1 H1 w1 ρ2 H2 w2) : St P ρ H w ρ2 H2 w2 where
  ext := a.ext.trans b.ext a.le.next
  le := a.le.trans b.le
  rel := b.rel
  os := b.os.trans a.os
  tape := b.tape.trans a.tape
  output := b.output.trans a.output
  size := Nat.le_trans a.size b.size
  old := fun x hx hc => by
    have h1 : w1.heap[x]? = w.heap[x]? := a.old x hx fun n hn hd hg => hc n hn (hd.imp id (b.le.dirty n)) hg
    rw [← h1]
    refine b.old x (Nat.lt_of_lt_of_le hx a.size) fun n hn hd hg => ?_
    rw [a.le.base] at hd
    rcases Nat.lt_or_ge n H.next with h | h
    · rw [a.ext.blk n h]
      exact hc n h hd (a.le.back h hg)
    · rcases a.fresh n h hg with h' | ⟨m, h2, h3, h4, h5⟩
      · omega
      · rw [h5]
        exact hc m h2 (h4.imp id (b.le.dirty m)) h3
  fresh := fun n hn hg => by
    rcases Nat.lt_or_ge n H1.next with h | h
    · rw [b.ext.blk n h]
      rcases a.fresh n hn (b.le.back h hg) with h' | ⟨m, h2, h3, h4, h5⟩
      · exact .inl h'
      · exact .inr ⟨m, h2, h3, h4.imp id (b.le.dirty m), h5⟩
    · rcases b.fresh n h hg with h' | ⟨m, h2, h3, h4, h5⟩
      · exact .inl (Nat.le_trans a.size h')
      · rw [h5]
        rw [a.le.base] at h4
        rcases Nat.lt_or_ge m H.next with hm | hm
        · exact .inr ⟨m, hm, a.le.back hm h3, h4, a.ext.blk m hm⟩
        · rcases a.fresh m hm h3 with h' | ⟨k, k2, k3, k4, k5⟩
          · exact .inl h'
          · exact .inr ⟨k, k2, k3, k4.imp id (b.le.dirty k), k5⟩

theorem Ren.tmps_ext {N : Nat} {ρ ρ' : Ren} (e : Ext N ρ ρ') (v : RV) (h : ∀ i, i < v.n → scb N (v.get i) = true) : ρ'.tmps v = ρ.tmps v := by
  unfold Ren.tmps
  congr 1
  funext i
  exact val_ext e _ (h i i.2)

theorem Fits.ext {P : Program} {ρ ρ' : Ren} {N n : Nat} {o : AObj} {o' : Obj} (h : Fits P ρ n o o') (hn : n < N) (hs : sco N o) (e : Ext N ρ ρ') : Fits P ρ' n o o' := by
  obtain ⟨ob, op, v⟩ := o
  unfold Fits sco at *
  cases ob with
  | cells c0 t f0 =>
    obtain ⟨c, fz, h1, h2, h3, h4⟩ := h
    refine ⟨c, fz, h1, fun i hi => ?_, ?_, ?_⟩
    · rw [e.sh n hn, h2 i hi, val_ext e _ (hs i hi)]
    · rw [e.sh n hn, e.ex n hn]; exact h3
    · rw [e.sh n hn, e.ex n hn]; exact h4
  | map es clock =>
    simp only at h hs ⊢
    rw [h]
    congr 1
    apply Array.map_congr_left
    intro x hx
    simp only [Ren.entry, val_ext e _ (hs x hx).2]
  | loop r =>
    obtain ⟨fn, h⟩ := h
    refine ⟨fn, ?_⟩
    rw [h, Ren.tmps_ext e v hs.2, e.blk _ hs.1]
  | stringIter s p => exact ⟨h.1, by rw [e.sh n hn]; exact h.2⟩
  | deferred ds =>
    cases ds with
    | none => exact h
    | some l => cases l <;> exact h
  | _ => exact h

theorem sco.mono {N M : Nat} {o : AObj} (h : sco N o) (hle : N ≤ M) : sco M o := by
  obtain ⟨ob, op, v⟩ := o
  unfold sco at *
  cases ob with
  | cells c0 t f0 => exact fun i hi => scb_mono hle _ (h i hi)
  | map es clock => exact fun e he => ⟨(h e he).1, scb_mono hle _ (h e he).2⟩
  | loop r => exact ⟨Nat.lt_of_lt_of_le h.1 hle, fun i hi => scb_mono hle _ (h.2 i hi)⟩
  | _ => trivial

/-- the world alone turns, its memory stays -/
theorem St.world {P : Program} {ρ : Ren} {H : AHeap} {w w1 : World} (r : Rel P ρ H w) (h : w1.heap = w.heap) (h1 : w1.os = w.os) (h2 : w1.tape = w.tape) (h3 : w1.output = w.output) :
    St P ρ H w ρ H w1 :=
  ⟨Ext.refl _ _, Le.refl _, ⟨r.base, r.glob, r.inj, r.dom, fun n o hn => by rw [h]; exact r.obj n o hn⟩, h1, h2, h3, by rw [h]; exact Nat.le_refl _, fun b _ _ => by rw [h],
    fun n h1 h2 => absurd (r.lt h2) (by omega)⟩

def Ren.at (ρ : Ren) (n b s e : Nat) : Ren := ⟨fun m => if m = n then b else ρ.blk m, fun m => if m = n then s else ρ.sh m, fun m => if m = n then e else ρ.ex m, ρ.op, ρ.op1⟩

@[simp] theorem Ren.at_blk (ρ : Ren) (n b s e : Nat) : (ρ.at n b s e).blk n = b := by simp [Ren.at]
@[simp] theorem Ren.at_sh (ρ : Ren) (n b s e : Nat) : (ρ.at n b s e).sh n = s := by simp [Ren.at]
@[simp] theorem Ren.at_ex (ρ : Ren) (n b s e : Nat) : (ρ.at n b s e).ex n = e := by simp [Ren.at]

theorem Ren.at_ext (ρ : Ren) (n b s e : Nat) : Ext n ρ (ρ.at n b s e) :=
  ⟨fun m h => by simp [Ren.at, Nat.ne_of_lt h], fun m h => by simp [Ren.at, Nat.ne_of_lt h], fun m h => by simp [Ren.at, Nat.ne_of_lt h], fun m _ => by simp [Ren.at]⟩

theorem ne_none {α : Type} {o : Option α} {x : α} (h : o = some x) : o ≠ none := by rw [h]; simp

/-- a new block -/
theorem St.new {P : Program} {ρ : Ren} {H : AHeap} {w : World} (r : Rel P ρ H w) (o : AObj) (o' : Obj) (s e : Nat) (hs : sco H.next o)
    (hf : Fits P (ρ.at H.next w.heap.size s e) H.next o o') : St P ρ H w (ρ.at H.next w.heap.size s e) (H.new o) (w.alloc o') := by
  have ex := Ren.at_ext ρ H.next w.heap.size s e
  have hg : ∀ n, n ≠ H.next → (H.new o).get n = H.get n := fun n hn => by rw [AHeap.get_new, if_neg hn]
  have hne : ∀ {n}, H.get n ≠ none → n ≠ H.next := fun h e => absurd (r.lt h) (by omega)
  have hgn : (H.new o).get H.next = some o := by rw [AHeap.get_new, if_pos rfl]
  refine ⟨ex, ⟨Nat.le_succ _, rfl, fun _ h => h, fun n hb _ => hg n (by have := r.base; omega), fun n hn h => by rw [hg n (by omega)]; exact h⟩, ⟨Nat.le_succ_of_le r.base, ⟨Nat.le_succ_of_le r.glob.1, fun g hgl => ?_⟩, ?_, ?_, ?_⟩, rfl, rfl, rfl, by simp, fun b hb _ => ?_, ?_⟩
  · have := r.glob.1
    rw [ex.blk g (by omega), ex.sh g (by omega)]; exact r.glob.2 g hgl
  · intro m n hm hn he
    by_cases h1 : m = H.next <;> by_cases h2 : n = H.next
    · rw [h1, h2]
    · rw [hg n h2] at hn
      subst h1
      rw [Ren.at_blk, ex.blk n (r.lt hn)] at he
      have := r.blk_lt hn
      omega
    · rw [hg m h1] at hm
      subst h2
      rw [Ren.at_blk, ex.blk m (r.lt hm)] at he
      have := r.blk_lt hm
      omega
    · rw [hg m h1] at hm
      rw [hg n h2] at hn
      rw [ex.blk m (r.lt hm), ex.blk n (r.lt hn)] at he
      exact r.inj m n hm hn he
  · intro n x hx
    by_cases h1 : n = H.next
    · subst h1
      rw [hgn] at hx
      cases hx
      exact ⟨Nat.lt_succ_self _, hs.mono (Nat.le_succ _)⟩
    · rw [hg n h1] at hx
      have := r.dom n x hx
      exact ⟨Nat.lt_succ_of_lt this.1, this.2.mono (Nat.le_succ _)⟩
  · intro n x hx
    by_cases h1 : n = H.next
    · subst h1
      rw [hgn] at hx
      cases hx
      exact ⟨o', by rw [Ren.at_blk]; show (w.heap.push o')[w.heap.size]? = some o'; simp, hf⟩
    · rw [hg n h1] at hx
      obtain ⟨y, hy, hfy⟩ := r.obj n x hx
      have hd := r.dom n x hx
      refine ⟨y, ?_, hfy.ext hd.1 hd.2 ex⟩
      rw [ex.blk n hd.1]
      have := r.blk_lt (ne_none hx)
      simp only [World.alloc]
      rw [Array.getElem?_push, if_neg (by omega)]; exact hy
  · simp only [World.alloc]
    rw [Array.getElem?_push, if_neg (by omega)]
  · intro n hn hgn'
    by_cases h1 : n = H.next
    · subst h1; exact .inl (by rw [Ren.at_blk]; exact Nat.le_refl _)
    · rw [hg n h1] at hgn'
      exact absurd (r.lt hgn') (by omega)

/-- an object is changed in its place -/
theorem St.upd {P : Program} {ρ : Ren} {H : AHeap} {w w1 : World} (r : Rel P ρ H w) {n : Nat} {o : AObj} {o' : Obj} (h0 : H.get n ≠ none) (hs : sco H.next o)
    (hf : Fits P ρ n o o') (hw : w1.heap[ρ.blk n]? = some o') (hz : w1.heap.size = w.heap.size) (hrest : ∀ b, b ≠ ρ.blk n → w1.heap[b]? = w.heap[b]?)
    (h1 : w1.os = w.os) (h2 : w1.tape = w.tape) (h3 : w1.output = w.output) : St P ρ H w ρ (H.upd n (some o)) w1 := by
  have hg : ∀ m, m ≠ n → (H.upd n (some o)).get m = H.get m := fun m hm => by rw [AHeap.get_upd, if_neg hm]
  have hgn : (H.upd n (some o)).get n = some o := by rw [AHeap.get_upd, if_pos rfl]
  have hdom : ∀ m, (H.upd n (some o)).get m ≠ none → H.get m ≠ none := fun m hm => by
    by_cases h : m = n
    · rw [h]; exact h0
    · rw [hg m h] at hm; exact hm
  have hmark : n < H.base → n ∈ (H.upd n (some o)).dirty := fun hb => by simp [AHeap.upd, blt_of hb]
  refine ⟨Ext.refl _ _, ⟨Nat.le_refl _, rfl, fun m hm => ?_, fun m hb hm => hg m (fun e => hm (e ▸ hmark (e ▸ hb))), fun m hm h => ?_⟩, ⟨r.base, r.glob, fun m k hm hk => r.inj m k (hdom m hm) (hdom k hk), ?_, ?_⟩, h1, h2, h3, by omega, fun b hb hc => ?_, fun m hm hg' => absurd (r.lt (hdom m hg')) (by omega)⟩
  · simp only [AHeap.upd]; split
    · exact List.mem_cons_of_mem _ hm
    · exact hm
  · by_cases e : m = n
    · subst e; exact absurd h h0
    · rw [hg m e]; exact h
  · intro m x hx
    by_cases e : m = n
    · subst e
      rw [hgn] at hx
      cases hx
      exact ⟨r.lt h0, hs⟩
    · rw [hg m e] at hx; exact r.dom m x hx
  · intro m x hx
    by_cases e : m = n
    · subst e
      rw [hgn] at hx
      cases hx
      exact ⟨o', hw, hf⟩
    · rw [hg m e] at hx
      obtain ⟨y, hy, hfy⟩ := r.obj m x hx
      refine ⟨y, ?_, hfy⟩
      rw [hrest _ (fun he => e (r.inj m n (ne_none hx) h0 he))]; exact hy
  · by_cases e : b = ρ.blk n
    · exact absurd e.symm (hc n (r.lt h0) (by
        rcases Nat.lt_or_ge n H.base with h | h
        · exact .inr (hmark h)
        · exact .inl h) h0)
    · exact hrest b e

/-- an object is given up -/
theorem St.del {P : Program} {ρ : Ren} {H : AHeap} {w : World} (r : Rel P ρ H w) (n : Nat) : St P ρ H w ρ (H.upd n none) w := by
  have hg : ∀ m, m ≠ n → (H.upd n none).get m = H.get m := fun m hm => by rw [AHeap.get_upd, if_neg hm]
  have hgn : (H.upd n none).get n = none := by rw [AHeap.get_upd, if_pos rfl]
  have hdom : ∀ m x, (H.upd n none).get m = some x → H.get m = some x := fun m x hm => by
    by_cases h : m = n
    · rw [h, hgn] at hm; cases hm
    · rw [hg m h] at hm; exact hm
  have hdom' : ∀ m, (H.upd n none).get m ≠ none → H.get m ≠ none := fun m hm => by
    cases e : (H.upd n none).get m with
    | none => exact absurd e hm
    | some x => exact ne_none (hdom m x e)
  have hmark : n < H.base → n ∈ (H.upd n none).dirty := fun hb => by simp [AHeap.upd, blt_of hb]
  refine ⟨Ext.refl _ _, ⟨Nat.le_refl _, rfl, fun m hm => ?_, fun m hb hm => hg m (fun e => hm (e ▸ hmark (e ▸ hb))), fun m hm h => ?_⟩, ⟨r.base, r.glob, fun m k hm hk => r.inj m k (hdom' m hm) (hdom' k hk), fun m x hx => r.dom m x (hdom m x hx), fun m x hx => r.obj m x (hdom m x hx)⟩, rfl, rfl, rfl, Nat.le_refl _, fun _ _ _ => rfl, fun m hm hg' => absurd (r.lt (hdom' m hg')) (by omega)⟩
  · simp only [AHeap.upd]; split
    · exact List.mem_cons_of_mem _ hm
    · exact hm
  · by_cases e : m = n
    · subst e; exact hgn
    · rw [hg m e]; exact h

/-- an object is given up, and what lay there goes on under a new number -/
theorem St.move {P : Program} {ρ : Ren} {H : AHeap} {w w1 : World} (r : Rel P ρ H w) {n : Nat} {o : AObj} {o' : Obj} (s e : Nat) (h0 : H.get n ≠ none) (hs : sco H.next o)
    (hf : Fits P (ρ.at H.next (ρ.blk n) s e) H.next o o') (hw : w1.heap[ρ.blk n]? = some o') (hz : w1.heap.size = w.heap.size) (hrest : ∀ b, b ≠ ρ.blk n → w1.heap[b]? = w.heap[b]?)
    (h1 : w1.os = w.os) (h2 : w1.tape = w.tape) (h3 : w1.output = w.output) : St P ρ H w (ρ.at H.next (ρ.blk n) s e) ((H.upd n none).new o) w1 := by
  have ex := Ren.at_ext ρ H.next (ρ.blk n) s e
  have hnn := r.lt h0
  have hnext : (H.upd n none).next = H.next := rfl
  have hgn : ((H.upd n none).new o).get H.next = some o := by rw [AHeap.get_new, hnext, if_pos rfl]
  have hg0 : ((H.upd n none).new o).get n = none := by rw [AHeap.get_new, hnext, if_neg (by omega), AHeap.get_upd, if_pos rfl]
  have hg : ∀ m, m ≠ n → m ≠ H.next → ((H.upd n none).new o).get m = H.get m := fun m h h' => by rw [AHeap.get_new, hnext, if_neg h', AHeap.get_upd, if_neg h]
  have hmark : n < H.base → n ∈ ((H.upd n none).new o).dirty := fun hb => by simp [AHeap.new, AHeap.upd, blt_of hb]
  have hown : H.base ≤ n ∨ n ∈ ((H.upd n none).new o).dirty := by
    rcases Nat.lt_or_ge n H.base with h | h
    · exact .inr (hmark h)
    · exact .inl h
  have hdom : ∀ m, m ≠ H.next → ((H.upd n none).new o).get m ≠ none → H.get m ≠ none ∧ m ≠ n := fun m h hm => by
    by_cases e : m = n
    · subst e; exact absurd hg0 hm
    · rw [hg m e h] at hm; exact ⟨hm, e⟩
  refine ⟨ex, ⟨Nat.le_succ _, rfl, fun m hm => ?_, fun m hb hm => hg m (fun e => hm (e ▸ hmark (e ▸ hb))) (by have := r.base; omega), fun m hm h => ?_⟩,
    ⟨Nat.le_succ_of_le r.base, ⟨Nat.le_succ_of_le r.glob.1, fun g hgl => ?_⟩, ?_, ?_, ?_⟩, h1, h2, h3, by omega, fun b hb hc => ?_, ?_⟩
  · simp only [AHeap.new, AHeap.upd]; split
    · exact List.mem_cons_of_mem _ hm
    · exact hm
  · by_cases e : m = n
    · subst e; exact hg0
    · rw [hg m e (by omega)]; exact h
  · have := r.glob.1
    rw [ex.blk g (by omega), ex.sh g (by omega)]; exact r.glob.2 g hgl
  · intro m k hm hk he
    by_cases e1 : m = H.next <;> by_cases e2 : k = H.next
    · rw [e1, e2]
    · obtain ⟨hk', hkn⟩ := hdom k e2 hk
      subst e1
      rw [Ren.at_blk, ex.blk k (r.lt hk')] at he
      exact absurd (r.inj n k h0 hk' he).symm hkn
    · obtain ⟨hm', hmn⟩ := hdom m e1 hm
      subst e2
      rw [Ren.at_blk, ex.blk m (r.lt hm')] at he
      exact absurd (r.inj m n hm' h0 he) hmn
    · obtain ⟨hm', _⟩ := hdom m e1 hm
      obtain ⟨hk', _⟩ := hdom k e2 hk
      rw [ex.blk m (r.lt hm'), ex.blk k (r.lt hk')] at he
      exact r.inj m k hm' hk' he
  · intro m x hx
    by_cases e1 : m = H.next
    · subst e1
      rw [hgn] at hx
      cases hx
      exact ⟨Nat.lt_succ_self _, hs.mono (Nat.le_succ _)⟩
    · have hd := hdom m e1 (ne_none hx)
      rw [hg m hd.2 e1] at hx
      have := r.dom m x hx
      exact ⟨Nat.lt_succ_of_lt this.1, this.2.mono (Nat.le_succ _)⟩
  · intro m x hx
    by_cases e1 : m = H.next
    · subst e1
      rw [hgn] at hx
      cases hx
      exact ⟨o', by rw [Ren.at_blk]; exact hw, hf⟩
    · have hd := hdom m e1 (ne_none hx)
      rw [hg m hd.2 e1] at hx
      obtain ⟨y, hy, hfy⟩ := r.obj m x hx
      have hdm := r.dom m x hx
      refine ⟨y, ?_, hfy.ext hdm.1 hdm.2 ex⟩
      rw [ex.blk m hdm.1, hrest _ (fun he => hd.2 (r.inj m n (ne_none hx) h0 he))]; exact hy
  · by_cases e : b = ρ.blk n
    · exact absurd e.symm (hc n hnn hown h0)
    · exact hrest b e
  · intro m hm hgm
    by_cases e1 : m = H.next
    · subst e1; exact .inr ⟨n, hnn, h0, hown, by rw [Ren.at_blk]⟩
    · exact absurd (r.lt (hdom m e1 hgm).1) (by omega)

end Go.Ax
