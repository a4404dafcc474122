/- Parts of the proof, one behind the other. -/
import Derived.Test.YtpohjcacnkhnkaaDoorM4
import Derived.Test.YtpohjcacnkhnkaaDoorM5
set_option linter.all false

/- The terminal in the abstract heap. -/
namespace Go.Proofs.YtpohjcacnkhnkaaDoor
open Go.Ax
set_option linter.unusedSimpArgs false
set_option maxRecDepth 10000

structure Rp where
  t : Nat
  rb : Nat
  rs : List (Nat × Bool)
  rv : Value
  pv : Value

def rowV (w : Nat) (q : Nat × Bool) : Value := .slice (some ⟨q.1, 0, if q.2 then none else some 0⟩) w w
def Tm.w (x : Tm) : Nat := (x.grid.headD []).length
def Tm.h (x : Tm) : Nat := x.grid.length

def cellsT (p : Rp) (x : Tm) : List Value := [.int .i64 x.row, .int .i64 x.col, .int .i64 x.pen.fore, .int .i64 x.pen.back, .bool x.pen.bold, .bool x.pen.under, .bool x.pen.inv,
  .int .i64 x.srow, .int .i64 x.scol, .int .i64 x.spen.fore, .int .i64 x.spen.back, .bool x.spen.bold, .bool x.spen.under, .bool x.spen.inv,
  .slice (some ⟨p.rb, 0, none⟩) x.h x.h, .bool x.shown, .int .i64 x.top, .int .i64 x.bottom, .int .i64 (x.mode : Int), p.rv, p.pv, .bool x.middle, u8v x.last]

def Rp.blks (p : Rp) : List Nat := p.t :: p.rb :: (p.rs.map (·.1) ++ idsV p.rv ++ idsV p.pv)

structure TmAt (H : AHeap) (p : Rp) (x : Tm) : Prop where
  cell : bk H p.t = some ⟨49, false, cellsT p x⟩
  rows : bk H p.rb = some ⟨42, true, p.rs.map (rowV x.w)⟩
  len : p.rs.length = x.h
  row : ∀ (i : Nat) (q : Nat × Bool) (l : List Ce), p.rs[i]? = some q → x.grid[i]? = some l → bk H q.1 = some ⟨56, q.2, csOf l⟩
  rest : BytesAt H p.rv x.rest
  par : BytesAt H p.pv x.params
  nd : p.blks.Nodup
  lt : ∀ n ∈ p.blks, n < H.next

section
variable {H G H1 H2 : AHeap} {p p1 p2 : Rp} {x y z : Tm}

theorem TmAt.of (g : TmAt H p x) (hn : H.next ≤ G.next) (hg : ∀ n ∈ p.blks, G.get n = H.get n) : TmAt G p x where
  cell := (bk_get (hg _ (by simp [Rp.blks]))).trans g.cell
  rows := (bk_get (hg _ (by simp [Rp.blks]))).trans g.rows
  len := g.len
  row := fun i q l h1 h2 => (bk_get (hg _ (by simp only [Rp.blks, List.mem_cons, List.mem_append, List.mem_map]; exact .inr (.inr (.inl (.inl ⟨q, List.mem_of_getElem? h1, rfl⟩)))))).trans (g.row i q l h1 h2)
  rest := g.rest.of fun n hn => hg n (by simp [Rp.blks, hn])
  par := g.par.of fun n hn => hg n (by simp [Rp.blks, hn])
  nd := g.nd
  lt := fun n hn' => Nat.lt_of_lt_of_le (g.lt n hn') hn

theorem TmAt.rowOf (g : TmAt H p x) {i : Nat} {l : List Ce} (h : x.grid[i]? = some l) : ∃ q, p.rs[i]? = some q ∧ q.1 ∈ p.blks ∧ bk H q.1 = some ⟨56, q.2, csOf l⟩ := by
  have hlt : i < p.rs.length := by
    rw [g.len]
    rcases Nat.lt_or_ge i x.grid.length with h' | h'
    · exact h'
    · rw [List.getElem?_eq_none h'] at h; cases h
  refine ⟨p.rs[i], List.getElem?_eq_getElem hlt, ?_, g.row i _ l (List.getElem?_eq_getElem hlt) h⟩
  simp only [Rp.blks, List.mem_cons, List.mem_append, List.mem_map]
  exact .inr (.inr (.inl (.inl ⟨p.rs[i], List.getElem_mem _, rfl⟩)))

theorem TmAt.ne (g : TmAt H p x) : ∀ n ∈ p.blks, H.get n ≠ none := by
  intro n hn
  simp only [Rp.blks, List.mem_cons, List.mem_append, List.mem_map] at hn
  rcases hn with rfl | rfl | (⟨q, hq, rfl⟩ | hn) | hn
  · exact bk_ne g.cell
  · exact bk_ne g.rows
  · obtain ⟨i, hi, rfl⟩ := List.mem_iff_getElem.1 hq
    have hlt : i < x.grid.length := by rw [show x.grid.length = x.h from rfl, ← g.len]; exact hi
    exact bk_ne (g.row i _ _ (List.getElem?_eq_getElem hi) (List.getElem?_eq_getElem hlt))
  · exact g.rest.ne n hn
  · exact g.par.ne n hn

structure Step (H : AHeap) (p : Rp) (H1 : AHeap) (p1 : Rp) (y : Tm) : Prop where
  at_ : TmAt H1 p1 y
  mod : Mod p.blks H H1
  same : p1.t = p.t
  new : ∀ n ∈ p1.blks, n ∈ p.blks ∨ H.next ≤ n

theorem Step.refl (g : TmAt H p x) : Step H p H p x := ⟨g, Mod.refl, rfl, fun _ h => .inl h⟩
theorem Step.ok (s : Step H p H1 p1 y) (hok : H.base ≤ H.next) : H1.base ≤ H1.next := s.mod.ok hok
theorem Step.trans (hok : H.base ≤ H.next) (a : Step H p H1 p1 y) (b : Step H1 p1 H2 p2 z) : Step H p H2 p2 z where
  at_ := b.at_
  mod := a.mod.step b.mod hok a.new
  same := b.same.trans a.same
  new := fun n hn => (b.new n hn).elim (a.new n) fun h => .inr (Nat.le_trans a.mod.next h)
theorem Step.ext {L : List Bl} (hok : H.base ≤ H.next) (s : Step H p H1 p1 y) : Step H p (Go.Ax.ext H1 L) p1 y where
  at_ := s.at_.of (by rw [ext_next]; omega) fun n hn => ext_get_old (s.at_.lt n hn)
  mod := s.mod.trans (Mod.ext (s.ok hok))
  same := s.same
  new := s.new

theorem TmAt.put (g : TmAt H p x) (m : Mod [p.t] H H1) (h : bk H1 p.t = some ⟨49, false, cellsT p y⟩) (h1 : y.grid = x.grid) (h2 : y.rest = x.rest) (h3 : y.params = x.params) : Step H p H1 p y := by
  have hnd : p.t ∉ p.rb :: (p.rs.map (·.1) ++ idsV p.rv ++ idsV p.pv) := (List.nodup_cons.1 g.nd).1
  have hget : ∀ n ∈ p.rb :: (p.rs.map (·.1) ++ idsV p.rv ++ idsV p.pv), H1.get n = H.get n := fun n hn => m.get n (g.lt n (List.mem_cons_of_mem _ hn)) (fun e => hnd (by simp only [List.mem_singleton] at e; exact e ▸ hn))
  refine ⟨⟨h, ?_, ?_, ?_, ?_, ?_, g.nd, fun n hn => m.lt (g.lt n hn)⟩, m.mono (by intro n hn; simp only [List.mem_singleton] at hn; subst hn; simp [Rp.blks]), rfl, fun _ h => .inl h⟩
  · rw [bk_get (hget _ (by simp)), g.rows, Tm.w, Tm.w, h1]
  · rw [g.len, Tm.h, Tm.h, h1]
  · intro i q l hq hl
    rw [h1] at hl
    rw [bk_get (hget _ ?_)]
    · exact g.row i q l hq hl
    · simp only [List.mem_cons, List.mem_append, List.mem_map]
      exact .inr (.inl (.inl ⟨q, List.mem_of_getElem? hq, rfl⟩))
  · rw [h2]; exact g.rest.of fun n hn => hget n (by simp [hn])
  · rw [h3]; exact g.par.of fun n hn => hget n (by simp [hn])

theorem TmAt.one (g : TmAt H p x) {off : Nat} {vs : List Value} (h : putL (cellsT p x) off vs = cellsT p y) (h1 : y.grid = x.grid) (h2 : y.rest = x.rest) (h3 : y.params = x.params) : Step H p (Go.Ax.ext (uw H p.t off vs) []) p y :=
  g.put (Mod.uw (by simp)) (by rw [ext_nil, bk_uw_eq, g.cell]; exact congrArg (fun l => some (Bl.mk 49 false l)) h) h1 h2 h3
theorem TmAt.two (g : TmAt H p x) {off off2 : Nat} {vs vs2 : List Value} (h : putL (putL (cellsT p x) off vs) off2 vs2 = cellsT p y) (h1 : y.grid = x.grid) (h2 : y.rest = x.rest) (h3 : y.params = x.params) : Step H p (Go.Ax.ext (uw (uw H p.t off vs) p.t off2 vs2) []) p y :=
  g.put ((Mod.uw (by simp)).trans (Mod.uw (by simp))) (by rw [ext_nil, bk_uw_eq, bk_uw_eq, g.cell]; exact congrArg (fun l => some (Bl.mk 49 false l)) h) h1 h2 h3

def Tab (H : AHeap) : Prop := ∃ e1 e2, bk H 0 = some ⟨e1, false, dc fstD⟩ ∧ bk H 1 = some ⟨e2, false, dc accD⟩
end

def Does (f : FuncId) (args : List Value) (H : AHeap) (p : Rp) (v : Value) (y : Tm) : Prop :=
  CallA Tryd.prog f (.pointer (some ⟨p.t, 0, none⟩) :: args) H fun out H1 => out = .ok v ∧ ∃ p1, Step H p H1 p1 y

structure Tm.Sz (x : Tm) : Prop where
  h1 : 1 ≤ x.h
  h2 : x.h ≤ 200
  w1 : 1 ≤ x.w
  w2 : x.w ≤ 300
  ws : ∀ l ∈ x.grid, l.length = x.w
  r1 : 0 ≤ x.row
  r2 : x.row < x.h
  c1 : 0 ≤ x.col
  c2 : x.col ≤ x.w
  sr1 : 0 ≤ x.srow
  sr2 : x.srow < x.h
  sc1 : 0 ≤ x.scol
  sc2 : x.scol ≤ x.w
  t1 : 0 ≤ x.top
  t2 : x.top ≤ x.bottom
  t3 : x.bottom < x.h
  md : x.mode < 5
  hd : ∀ l ∈ x.grid, (l.getD 0 sp).rune ≠ -1

theorem Tm.Sz.head {x : Tm} (s : x.Sz) : x.grid[0]? = some (x.grid.headD []) := by
  have := s.h1
  unfold Tm.h at this
  cases hg : x.grid with
  | nil => rw [hg] at this; simp at this
  | cons a r => rfl

theorem TmAt.first {H : AHeap} {p : Rp} {x : Tm} (g : TmAt H p x) (s : x.Sz) : ∃ q, p.rs[0]? = some q ∧ (p.rs.map (rowV x.w))[0]? = some (rowV x.w q) := by
  obtain ⟨q, hq, _⟩ := g.rowOf s.head
  exact ⟨q, hq, by rw [List.getElem?_map, hq]; rfl⟩

theorem made_c (H : AHeap) (p : Rp) (x : Tm) (g : TmAt H p x) (s : x.Sz) : Pure 17 [.pointer (some ⟨p.t, 0, none⟩)] H (.bool true) := by
  obtain ⟨b, hb⟩ : ∃ b, H.next = b := ⟨_, rfl⟩
  have hT : p.t < b := hb ▸ g.lt p.t (by simp [Rp.blks])
  have h1 := g.cell
  simp only [cellsT] at h1
  have hc : decide ((0 : Int) < (x.h : Int)) = true := decide_eq_true (by have := s.h1; omega)
  refine callS_fn mixed Tryd.func17 rfl Tryd.ntmps17 (Nat.le_of_ble_eq_true rfl) fun wf hsc => ?_
  simp (maxDischargeDepth := 6) only [hb, hT, h1, hc, Tryd.results17, ruW, putL, Nat.reduceLeDiff, xF, ruU, entryE, Nat.reduceLT, Nat.reduceAdd, Nat.reduceMul, Nat.reduceEqDiff]
  exact Fin.pure rfl

theorem width_c (H : AHeap) (p : Rp) (x : Tm) (g : TmAt H p x) (s : x.Sz) : Pure 34 [.pointer (some ⟨p.t, 0, none⟩)] H (.int .i64 (x.w : Int)) := by
  obtain ⟨b, hb⟩ : ∃ b, H.next = b := ⟨_, rfl⟩
  have hT : p.t < b := hb ▸ g.lt p.t (by simp [Rp.blks])
  have hR : p.rb < b := hb ▸ g.lt p.rb (by simp [Rp.blks])
  have h1 := g.cell
  simp only [cellsT] at h1
  have h2 := g.rows
  obtain ⟨q, _, hq⟩ := g.first s
  have hi := rows_ia (len := x.h) (cap := x.h) (n := p.rb) (s := none) (i := 0) (k := 0) rfl s.h1
  refine callS_fn mixed Tryd.func34 rfl Tryd.ntmps34 (Nat.le_of_ble_eq_true rfl) fun wf hsc => ?_
  simp (maxDischargeDepth := 6) only [hb, hT, hR, h1, h2, hi, hq, rowV, Tryd.results34, ruW, putL, Nat.reduceLeDiff, xF, ruU, entryE, Nat.reduceLT, Nat.reduceAdd, Nat.reduceMul, Nat.reduceEqDiff]
  exact Fin.pure rfl

end Go.Proofs.YtpohjcacnkhnkaaDoor

/- What the small methods come to: inside, skip, ignore, count, second, moveTo. -/
namespace Go.Proofs.YtpohjcacnkhnkaaDoor
open Go.Ax
set_option linter.unusedSimpArgs false
set_option maxRecDepth 10000

theorem tm_inside (x : Tm) : x.inside = min x.col ((x.w : Int) - 1) := rfl

theorem inside_c (H : AHeap) (p : Rp) (x : Tm) (g : TmAt H p x) (s : x.Sz) : Pure 25 [.pointer (some ⟨p.t, 0, none⟩)] H (.int .i64 x.inside) := by
  obtain ⟨b, hb⟩ : ∃ b, H.next = b := ⟨_, rfl⟩
  have hT : p.t < b := hb ▸ g.lt p.t (by simp [Rp.blks])
  have h1 := g.cell
  simp only [cellsT] at h1
  have hw : IntKind.i64.wrap ((x.w : Int) - 1) = (x.w : Int) - 1 := wrap_sm (by have := s.w2; omega) (by have := s.w2; omega)
  refine callS_fn mixed Tryd.func25 rfl Tryd.ntmps25 (Nat.le_of_ble_eq_true rfl) fun wf hsc => ?_
  simp (maxDischargeDepth := 6) only [ruW, putL, Nat.reduceLeDiff, xF, ruU, entryE, Nat.reduceLT, Nat.reduceAdd, Nat.reduceMul, Nat.reduceEqDiff]
  refine w_drawB [] [] (by kernel_rfl) rfl rfl fun ops anc hA hG => ?_
  simp (maxDischargeDepth := 6) only [hb, hT, h1, ruD, ruW, putL, Nat.reduceLeDiff, xF, ruU, entryE, Nat.reduceLT, Nat.reduceAdd, Nat.reduceMul, Nat.reduceEqDiff]
  refine genV_quiet (v := .int .i64 (x.w : Int)) p.blks (by simp (maxDischargeDepth := 6) only [ruU, entryE, Nat.reduceLT, Nat.reduceAdd, Nat.reduceMul, Nat.reduceEqDiff]) (by kernel_rfl) (by decide) g.ne (fun K hn hg => ?_) (by simp (maxDischargeDepth := 6) only [ruD, ruW, putL, Nat.reduceLeDiff, xF, ruU, entryE, Nat.reduceLT, Nat.reduceAdd, Nat.reduceMul, Nat.reduceEqDiff]) ?_
  · simp only [ruU, entryE, Nat.reduceLT, Nat.reduceAdd, Nat.reduceMul, Nat.reduceEqDiff]
    exact width_c K p x (g.of (by rw [hn]; exact Nat.le_refl _) hg) s
  simp (maxDischargeDepth := 6) only [hb, hw, Tryd.results25, ruD, ruW, putL, Nat.reduceLeDiff, xF, ruU, entryE, Nat.reduceLT, Nat.reduceAdd, Nat.reduceMul, Nat.reduceEqDiff]
  exact Fin.pureE (by rw [tm_inside]) rfl

theorem skip_c (H : AHeap) (p : Rp) (x : Tm) (c : UInt8) : Pure 20 [.pointer (some ⟨p.t, 0, none⟩), u8v c] H (.int .i64 0) := by
  refine callS_fn mixed Tryd.func20 rfl Tryd.ntmps20 (Nat.le_of_ble_eq_true rfl) fun wf hsc => ?_
  simp (maxDischargeDepth := 6) only [Tryd.results20, ruW, putL, Nat.reduceLeDiff, xF, ruU, entryE, Nat.reduceLT, Nat.reduceAdd, Nat.reduceMul, Nat.reduceEqDiff]
  exact Fin.pure rfl

def intsV (l : List Int) : List Value := l.map fun n => .int .i64 n
theorem intsV_get (l : List Int) (k : Nat) : (intsV l)[k]? = l[k]?.map fun n => .int .i64 n := by simp [intsV]
theorem intsV_length (l : List Int) : (intsV l).length = l.length := by simp [intsV]
theorem intsV_append (l m : List Int) : intsV (l ++ m) = intsV l ++ intsV m := by simp [intsV]
def IntsAt (H : AHeap) (v : Value) (l : List Int) : Prop :=
  (l = [] ∧ ∃ a c, v = .slice a 0 c) ∨ (l ≠ [] ∧ ∃ n pre o, v = .slice (some ⟨n, List.length pre, if o then none else some 0⟩) l.length l.length ∧ bk H n = some ⟨3, o, intsV (pre ++ l)⟩)
theorem IntsAt.sl {H : AHeap} {v : Value} {l : List Int} (h : IntsAt H v l) : ∃ a c, v = .slice a l.length c := by
  rcases h with ⟨rfl, a, c, rfl⟩ | ⟨_, n, pre, o, rfl, _⟩ <;> exact ⟨_, _, rfl⟩
theorem IntsAt.get {H : AHeap} {v : Value} {l : List Int} (h : IntsAt H v l) {k : Nat} {c : Int} (hk : l[k]? = some c) : ∃ n off, aIndexAddr Tryd.prog 22 v (.int .i64 (k : Int)) = some (.pointer (some ⟨n, off, none⟩)) ∧ n ∈ idsV v ∧ H.get n ≠ none ∧ ldB Tryd.prog 3 off (bk H n) = some (.int .i64 c) := by
  have hlt : k < l.length := by
    rcases Nat.lt_or_ge k l.length with h' | h'
    · exact h'
    · rw [List.getElem?_eq_none h'] at hk; cases hk
  rcases h with ⟨rfl, _⟩ | ⟨h, n, pre, o, rfl, hb⟩
  · simp at hlt
  · have h1 : aggT Tryd.prog 3 = some false := by kernel_rfl
    refine ⟨n, pre.length + k, int_ia rfl hlt, by simp [idsV], bk_ne hb, ?_⟩
    rw [hb, ld_one h1, intsV_get, List.getElem?_append_right (by omega), Nat.add_sub_cancel_left, hk]
    rfl
theorem IntsAt.of {H G : AHeap} {v : Value} {l : List Int} (h : IntsAt H v l) (hg : ∀ n ∈ idsV v, G.get n = H.get n) : IntsAt G v l := by
  rcases h with ⟨rfl, a, c, rfl⟩ | ⟨h, n, pre, o, rfl, hb⟩
  · exact .inl ⟨rfl, a, c, rfl⟩
  · exact .inr ⟨h, n, pre, o, rfl, (bk_get (hg n (by simp [idsV]))).trans hb⟩
theorem IntsAt.ne {H : AHeap} {v : Value} {l : List Int} (h : IntsAt H v l) (hl : l ≠ []) : ∀ n ∈ idsV v, H.get n ≠ none := by
  rcases h with ⟨rfl, a, c, rfl⟩ | ⟨h, n, pre, o, rfl, hb⟩
  · exact absurd rfl hl
  · intro m hm
    simp only [idsV, List.mem_singleton] at hm
    subst hm
    exact bk_ne hb

theorem imax (a b : Int) : (if b > a then b else a) = max a b := by omega
theorem imin (a b : Int) : (if b < a then b else a) = min a b := by omega

theorem count_c (H : AHeap) (v : Value) (l : List Int) (h : IntsAt H v l) (hl : l ≠ []) : Pure 65 [v] H (.int .i64 (count l)) := by
  obtain ⟨a, r, rfl⟩ : ∃ a r, l = a :: r := by cases l with | nil => exact absurd rfl hl | cons a r => exact ⟨a, r, rfl⟩
  obtain ⟨n, off, hi, _, hne, hld⟩ := h.get (k := 0) (c := a) rfl
  rw [show ((0 : Nat) : Int) = 0 from rfl] at hi
  refine callS_fn mixed Tryd.func65 rfl Tryd.ntmps65 (Nat.le_of_ble_eq_true rfl) fun wf hsc => ?_
  have hlt : n < H.next := by
    cases hb : bk H n with
    | none => rw [hb] at hld; cases hld
    | some b => exact wf.lt hb
  simp (maxDischargeDepth := 6) only [hi, hlt, hld, Tryd.results65, ruW, putL, Nat.reduceLeDiff, xF, ruU, entryE, Nat.reduceLT, Nat.reduceAdd, Nat.reduceMul, Nat.reduceEqDiff]
  exact Fin.pureE (by simp only [count, List.headD_cons]) rfl

theorem second_c (H : AHeap) (v : Value) (l : List Int) (h : IntsAt H v l) : Pure 66 [v] H (.int .i64 (snd l)) := by
  obtain ⟨a, c, e⟩ := h.sl
  refine callS_fn mixed Tryd.func66 rfl Tryd.ntmps66 (Nat.le_of_ble_eq_true rfl) fun wf hsc => ?_
  by_cases hc : 1 < l.length
  · obtain ⟨n, off, hi, _, hne, hld⟩ := h.get (k := 1) (c := l[1]) (List.getElem?_eq_getElem hc)
    have hlt : n < H.next := by
      cases hb : bk H n with
      | none => rw [hb] at hld; cases hld
      | some b => exact wf.lt hb
    have hd : decide ((1 : Int) < (l.length : Int)) = true := decide_eq_true (by omega)
    rw [show ((1 : Nat) : Int) = 1 from rfl] at hi
    rw [e] at hi ⊢
    simp (maxDischargeDepth := 6) only [hi, hlt, hld, hd, Tryd.results66, ruW, putL, Nat.reduceLeDiff, xF, ruU, entryE, Nat.reduceLT, Nat.reduceAdd, Nat.reduceMul, Nat.reduceEqDiff]
    exact Fin.pureE (by simp only [snd, List.getD, List.getElem?_eq_getElem hc, Option.getD_some]) rfl
  · have hd : decide ((1 : Int) < (l.length : Int)) = false := decide_eq_false (by omega)
    rw [e]
    simp (maxDischargeDepth := 6) only [hd, Tryd.results66, ruW, putL, Nat.reduceLeDiff, xF, ruU, entryE, Nat.reduceLT, Nat.reduceAdd, Nat.reduceMul, Nat.reduceEqDiff]
    exact Fin.pureE (by simp only [snd, List.getD, List.getElem?_eq_none (show l.length ≤ 1 by omega), Option.getD_none]) rfl

theorem ignore_c (H : AHeap) (p : Rp) (x : Tm) (c : UInt8) (g : TmAt H p x) (ok : H.base ≤ H.next) : Does 22 [u8v c] H p (.int .i64 ((x.ignore c).2 : Int)) (x.ignore c).1 := by
  obtain ⟨b, hb⟩ : ∃ b, H.next = b := ⟨_, rfl⟩
  have hT : p.t < b := hb ▸ g.lt p.t (by simp [Rp.blks])
  have h1 := g.cell
  simp only [cellsT] at h1
  obtain ⟨d1, hd1⟩ : ∃ d, decide ((c.toNat : Int) = 7) = d := ⟨_, rfl⟩
  obtain ⟨d2, hd2⟩ : ∃ d, decide ((c.toNat : Int) = 92) = d := ⟨_, rfl⟩
  obtain ⟨d3, hd3⟩ : ∃ d, decide ((x.last.toNat : Int) = 27) = d := ⟨_, rfl⟩
  have e1 : c = 7 ↔ d1 = true := by rw [← hd1, decide_eq_true_iff, ← UInt8.toNat_inj]; simp; omega
  have e2 : c = 92 ↔ d2 = true := by rw [← hd2, decide_eq_true_iff, ← UInt8.toNat_inj]; simp; omega
  have e3 : x.last = 27 ↔ d3 = true := by rw [← hd3, decide_eq_true_iff, ← UInt8.toNat_inj]; simp; omega
  refine callE_fn mixed Tryd.func22 rfl Tryd.ntmps22 (Nat.le_of_ble_eq_true rfl) ?_
  have key : x.ignore c = cond (d1 || (d2 && d3)) (x, 0) ({ x with last := c }, 4) := by
    simp only [Tm.ignore, e1, e2, e3]
    cases d1 <;> cases d2 <;> cases d3 <;> rfl
  rw [key]
  cases d1 <;> cases d2 <;> cases d3 <;> simp (maxDischargeDepth := 6) only [hb, hT, h1, hd1, hd2, hd3, Bool.or_false, Bool.or_true, Bool.and_false, Bool.and_true, cond_true, cond_false, Tryd.results22, ruW, putL, Nat.reduceLeDiff, xF, ruU, entryE, Nat.reduceLT, Nat.reduceAdd, Nat.reduceMul, Nat.reduceEqDiff] <;> first
    | exact ⟨trivial, p, Step.refl g⟩
    | exact ⟨trivial, p, g.one (y := { x with last := c }) rfl rfl rfl rfl⟩
    | exact ⟨rfl, p, Step.refl g⟩
    | exact ⟨rfl, p, g.one (y := { x with last := c }) rfl rfl rfl rfl⟩

theorem moveTo_c (H : AHeap) (p : Rp) (x : Tm) (r c : Int) (g : TmAt H p x) (s : x.Sz) (ok : H.base ≤ H.next) : Does 64 [.int .i64 r, .int .i64 c] H p (.tuple #[]) (x.moveTo r c) := by
  obtain ⟨b, hb⟩ : ∃ b, H.next = b := ⟨_, rfl⟩
  have hT : p.t < b := hb ▸ g.lt p.t (by simp [Rp.blks])
  have h1 := g.cell
  simp only [cellsT] at h1
  have s1 := s.h2
  have s2 := s.w2
  have hw : IntKind.i64.wrap ((x.w : Int) - 1) = (x.w : Int) - 1 := wrap_sm (by omega) (by omega)
  have hh : IntKind.i64.wrap ((x.h : Int) - 1) = (x.h : Int) - 1 := wrap_sm (by omega) (by omega)
  refine callE_fn mixed Tryd.func64 rfl Tryd.ntmps64 (Nat.le_of_ble_eq_true rfl) ?_
  simp (maxDischargeDepth := 6) only [ruW, putL, Nat.reduceLeDiff, xF, ruU, entryE, Nat.reduceLT, Nat.reduceAdd, Nat.reduceMul, Nat.reduceEqDiff]
  refine w_drawB [(20, 6), (20, 13), (24, 6), (24, 13), (24, 20)] [] (by kernel_rfl) (by kernel_rfl) rfl fun ops anc hA hG => ?_
  simp only [all2_cons] at hA
  simp (maxDischargeDepth := 6) only [hb, hT, h1, hA, ruD, ruW, putL, Nat.reduceLeDiff, xF, ruU, entryE, Nat.reduceLT, Nat.reduceAdd, Nat.reduceMul, Nat.reduceEqDiff]
  refine genV_quiet (v := .int .i64 (x.w : Int)) p.blks (by simp (maxDischargeDepth := 6) only [ruU, entryE, Nat.reduceLT, Nat.reduceAdd, Nat.reduceMul, Nat.reduceEqDiff]) (by kernel_rfl) (by decide) g.ne (fun K hn hg => ?_) (by simp (maxDischargeDepth := 6) only [ruD, ruW, putL, Nat.reduceLeDiff, xF, ruU, entryE, Nat.reduceLT, Nat.reduceAdd, Nat.reduceMul, Nat.reduceEqDiff]) ?_
  · simp only [ruU, entryE, Nat.reduceLT, Nat.reduceAdd, Nat.reduceMul, Nat.reduceEqDiff]
    exact width_c K p x (g.of (by rw [hn]; exact Nat.le_refl _) hg) s
  simp (maxDischargeDepth := 6) only [hb, hT, h1, hA, hw, hh, Tryd.results64, ruD, ruW, putL, Nat.reduceLeDiff, xF, ruU, entryE, Nat.reduceLT, Nat.reduceAdd, Nat.reduceMul, Nat.reduceEqDiff]
  exact ⟨p, g.two (y := x.moveTo r c) rfl rfl rfl rfl⟩

end Go.Proofs.YtpohjcacnkhnkaaDoor

/- A method that is called last in a region that draws its order; a row of the grid that is written. -/
namespace Go.Proofs.YtpohjcacnkhnkaaDoor
open Go.Ax
set_option linter.unusedSimpArgs false
set_option maxRecDepth 10000

theorem Step.merge {H H1 g : AHeap} {p p1 : Rp} {x y : Tm} (g0 : TmAt H p x) (s : Step (H.restrict p.blks) p g p1 y) (m : Mod p.blks H H1) (h1 : ∀ n ∈ p.blks, H1.get n = g.get n) (h2 : ∀ n, H.next ≤ n → n < g.next → H1.get n = g.get n) (h3 : H1.next = g.next) : Step H p H1 p1 y := by
  have hn := restrict_next H p.blks
  have hnew : ∀ n ∈ p1.blks, n ∈ p.blks ∨ H.next ≤ n := fun n hn' => (s.new n hn').imp id (fun h => by rw [hn.1] at h; exact h)
  refine ⟨s.at_.of (by rw [h3]; exact Nat.le_refl _) fun n hn' => ?_, m, s.same, hnew⟩
  rcases hnew n hn' with h | h
  · exact h1 n h
  · exact h2 n h (s.at_.lt n hn')

section
variable {N : Nat} {E : Env} {ds : List Deferred} {ops : Array Oper} {anc : List Nat} {d : Nat} {ty : TypeId} {pos : String} {after : Array Edge} {i : Nat} {fps : List Fp} {Q : AAct → AHeap → Prop} {H : AHeap}
theorem genV_last {f : FuncId} {args : List Operand} {ts : Array TypeId} {v : Value} {as' : List Value} {p : Rp} {x y : Tm} (g : TmAt H p x) (ok : H.base ≤ H.next) (ha : args.all (opOk Tryd.prog N) = true) (hb : hasBody Tryd.prog f = true) (hd : d < N)
    (hargs : args.map (opv E) = .pointer (some ⟨p.t, 0, none⟩) :: as')
    (hm : ∀ r ∈ fps, (anc.getD i 0).testBit r.i = true ∨ (r.hi ≤ r.lo ∧ (∀ n ∈ r.W, n ∉ p.blks) ∧ (∀ n ∈ r.F, n ∉ p.blks)))
    (hC : ∀ G, TmAt G p x → G.base ≤ G.next → Does f as' G p v y) (h : ∀ H' p1, Step H p H' p1 y → Q (mkA N (upd E d v) ds) H') :
    genV Tryd.prog ops anc ⟨some d, .call ⟨.value (.func f), ⟨args⟩, ts⟩, ty, pos, after, none⟩ [] i fps (mkA N E ds) H Q := by
  have hrn := restrict_next H p.blks
  obtain ⟨_, gg, hc, rfl, p1, st⟩ := hC (H.restrict p.blks) (g.of (by rw [hrn.1]; exact Nat.le_refl _) fun m hm => by rw [restrict_get, if_pos hm]) (by rw [hrn.1, hrn.2.1]; exact Nat.le_refl _)
  refine genV_mod (W := p.blks) p.blks ok ha hb g.ne g.lt (fun _ h => h) (v := v) (g := gg) (by rw [hargs]; exact hc) st.mod hm ?_
  intro H1 D m1 hF hN hx _
  rw [wd_nil, put_some N E ds d v hd]
  exact h H1 p1 (Step.merge g st m1 hF hN hx)
end

section
variable {H H1 : AHeap} {p : Rp} {x : Tm}
theorem TmAt.rowIn (g : TmAt H p x) {k : Nat} {q : Nat × Bool} (hq : p.rs[k]? = some q) : q.1 ∈ p.blks ∧ q.1 ≠ p.t ∧ q.1 ≠ p.rb := by
  have hm : q.1 ∈ p.rs.map (·.1) := List.mem_map.2 ⟨q, List.mem_of_getElem? hq, rfl⟩
  have hnd := List.nodup_cons.1 g.nd
  have hnd2 := List.nodup_cons.1 hnd.2
  refine ⟨by simp only [Rp.blks, List.mem_cons, List.mem_append]; exact .inr (.inr (.inl (.inl hm))), ?_, ?_⟩
  · intro e
    exact hnd.1 (e ▸ (by simp only [List.mem_cons, List.mem_append]; exact .inr (.inl (.inl hm))))
  · intro e
    exact hnd2.1 (e ▸ (by simp only [List.mem_append]; exact .inl (.inl hm)))
theorem TmAt.putRow (g : TmAt H p x) {k : Nat} {q : Nat × Bool} {l l' : List Ce} (hq : p.rs[k]? = some q) (hl : x.grid[k]? = some l) (m : Mod [q.1] H H1) (h : bk H1 q.1 = some ⟨56, q.2, csOf l'⟩) (hlen : l'.length = l.length) : Step H p H1 p { x with grid := x.grid.set k l' } := by
  obtain ⟨q1, q2, q3⟩ := g.rowIn hq
  have hget : ∀ n, n < H.next → n ≠ q.1 → H1.get n = H.get n := fun n hn hne => m.get n hn (by simp only [List.mem_singleton]; exact hne)
  have hk : k < x.grid.length := by
    rcases Nat.lt_or_ge k x.grid.length with h' | h'
    · exact h'
    · rw [List.getElem?_eq_none h'] at hl; cases hl
  have hw : Tm.w { x with grid := x.grid.set k l' } = x.w := by
    simp only [Tm.w]
    cases hg : x.grid with
    | nil => rw [hg] at hk; simp at hk
    | cons a r =>
      cases k with
      | zero =>
        rw [hg] at hl
        simp only [List.getElem?_cons_zero, Option.some.injEq] at hl
        subst hl
        simp [hlen]
      | succ k => simp
  have hh : Tm.h { x with grid := x.grid.set k l' } = x.h := by simp [Tm.h]
  have hnd := g.nd
  simp only [Rp.blks] at hnd
  have hb0 : ∀ n ∈ p.blks, n < H.next := g.lt
  have hnd3 : (p.rs.map (·.1) ++ idsV p.rv ++ idsV p.pv).Nodup := (List.nodup_cons.1 (List.nodup_cons.1 hnd).2).2
  have hqm : q.1 ∈ p.rs.map (·.1) := List.mem_map.2 ⟨q, List.mem_of_getElem? hq, rfl⟩
  have hrv : ∀ n ∈ idsV p.rv, n ≠ q.1 := by
    intro n hn e
    rw [List.append_assoc] at hnd3
    exact (List.nodup_append.1 hnd3).2.2 q.1 hqm n (by simp [hn]) e.symm
  have hpv : ∀ n ∈ idsV p.pv, n ≠ q.1 := by
    intro n hn e
    rw [List.append_assoc] at hnd3
    exact (List.nodup_append.1 hnd3).2.2 q.1 hqm n (by simp [hn]) e.symm
  refine ⟨⟨?_, ?_, ?_, ?_, ?_, ?_, g.nd, fun n hn => m.lt (g.lt n hn)⟩, m.mono (by intro n hn; simp only [List.mem_singleton] at hn; subst hn; exact q1), rfl, fun _ h => .inl h⟩
  · rw [bk_get (hget _ (hb0 _ (by simp [Rp.blks])) q2.symm), g.cell]
    simp only [cellsT, hh]
  · rw [bk_get (hget _ (hb0 _ (by simp [Rp.blks])) q3.symm), g.rows, hw]
  · rw [g.len, hh]
  · intro i q' l2 hq' hl2
    simp only [List.getElem?_set] at hl2
    by_cases hik : k = i
    · subst hik
      rw [hq] at hq'
      cases hq'
      rw [if_pos rfl, if_pos hk] at hl2
      cases hl2
      exact h
    · rw [if_neg hik] at hl2
      have hne : q'.1 ≠ q.1 := by
        intro e
        have hnd4 : (p.rs.map (·.1)).Nodup := (List.nodup_append.1 (List.nodup_append.1 hnd3).1).1
        have hi : i < p.rs.length := by
          rcases Nat.lt_or_ge i p.rs.length with h' | h'
          · exact h'
          · rw [List.getElem?_eq_none h'] at hq'; cases hq'
        have hk2 : k < p.rs.length := by
          rcases Nat.lt_or_ge k p.rs.length with h' | h'
          · exact h'
          · rw [List.getElem?_eq_none h'] at hq; cases hq
        have e1 : (p.rs.map (·.1))[i]'(by simpa using hi) = q'.1 := by
          rw [List.getElem?_eq_getElem hi] at hq'
          simp only [Option.some.injEq] at hq'
          simp [hq']
        have e2 : (p.rs.map (·.1))[k]'(by simpa using hk2) = q.1 := by
          rw [List.getElem?_eq_getElem hk2] at hq
          simp only [Option.some.injEq] at hq
          simp [hq]
        have hp := List.pairwise_iff_getElem.1 hnd4
        rcases Nat.lt_trichotomy i k with h' | h' | h'
        · exact hp i k (by simpa using hi) (by simpa using hk2) h' (e1.trans (e.trans e2.symm))
        · exact hik h'.symm
        · exact hp k i (by simpa using hk2) (by simpa using hi) h' (e2.trans (e.symm.trans e1.symm))
      have hin := (g.rowIn hq').1
      rw [bk_get (hget _ (hb0 _ hin) hne)]
      exact g.row i q' l2 hq' hl2
  · exact g.rest.of fun n hn => hget n (hb0 n (by simp [Rp.blks, hn])) (hrv n hn)
  · exact g.par.of fun n hn => hget n (hb0 n (by simp [Rp.blks, hn])) (hpv n hn)
end

end Go.Proofs.YtpohjcacnkhnkaaDoor

/- The cursor's movements. -/
namespace Go.Proofs.YtpohjcacnkhnkaaDoor
open Go.Ax
set_option linter.unusedSimpArgs false
set_option maxRecDepth 10000

structure Pars (H : AHeap) (v : Value) (l : List Int) : Prop where
  at_ : IntsAt H v l
  ne : l ≠ []
  rg : ∀ n ∈ l, 0 ≤ n ∧ n ≤ 9999
  len : l.length ≤ 100
  lt : ∀ n ∈ idsV v, n < H.next
theorem Pars.of {H G : AHeap} {v : Value} {l : List Int} (h : Pars H v l) (hn : H.next ≤ G.next) (hg : ∀ n ∈ idsV v, G.get n = H.get n) : Pars G v l := ⟨h.at_.of hg, h.ne, h.rg, h.len, fun n hn' => Nat.lt_of_lt_of_le (h.lt n hn') hn⟩
theorem Pars.hne {H : AHeap} {v : Value} {l : List Int} (h : Pars H v l) : ∀ n ∈ idsV v, H.get n ≠ none := h.at_.ne h.ne
theorem Pars.head {H : AHeap} {v : Value} {l : List Int} (h : Pars H v l) : 0 ≤ l.headD 0 ∧ l.headD 0 ≤ 9999 := by
  cases l with
  | nil => exact absurd rfl h.ne
  | cons a r => exact h.rg a (by simp)
theorem Pars.count {H : AHeap} {v : Value} {l : List Int} (h : Pars H v l) : 1 ≤ count l ∧ count l ≤ 9999 := by
  have := h.head
  simp only [YtpohjcacnkhnkaaDoor.count]
  omega
theorem Pars.snd {H : AHeap} {v : Value} {l : List Int} (h : Pars H v l) : 0 ≤ snd l ∧ snd l ≤ 9999 := by
  simp only [YtpohjcacnkhnkaaDoor.snd]
  by_cases hc : 1 < l.length
  · have := h.rg l[1] (List.getElem_mem _)
    simp only [List.getD, List.getElem?_eq_getElem hc, Option.getD_some]
    exact this
  · simp [List.getD, List.getElem?_eq_none (show l.length ≤ 1 by omega)]
theorem inside_rg {x : Tm} (s : x.Sz) : 0 ≤ x.inside ∧ x.inside < x.w := by
  have h1 := s.w1
  have h2 := s.c1
  rw [tm_inside]
  omega

theorem up_c (H : AHeap) (p : Rp) (x : Tm) (v : Value) (l : List Int) (g : TmAt H p x) (s : x.Sz) (ok : H.base ≤ H.next) (hp : Pars H v l) : Does 50 [v] H p (.tuple #[]) (x.moveTo (x.row - count l) (x.col)) := by
  obtain ⟨b, hb⟩ : ∃ b, H.next = b := ⟨_, rfl⟩
  have hT : p.t < b := hb ▸ g.lt p.t (by simp [Rp.blks])
  have h1 := g.cell
  simp only [cellsT] at h1
  have s1 := s.h2
  have s2 := s.w2
  have s3 := s.r1
  have s4 := s.r2
  have s5 := inside_rg s
  have s6 := hp.count
  have s7 := hp.snd
  have hw : IntKind.i64.wrap (x.row - count l) = x.row - count l := wrap_sm (by omega) (by omega)
  refine callE_fn mixed Tryd.func50 rfl Tryd.ntmps50 (Nat.le_of_ble_eq_true rfl) ?_
  simp (maxDischargeDepth := 6) only [ruW, putL, Nat.reduceLeDiff, xF, ruU, entryE, Nat.reduceLT, Nat.reduceAdd, Nat.reduceMul, Nat.reduceEqDiff]
  refine w_drawB [(14, 5), (14, 7), (14, 13)] [] (by kernel_rfl) (by kernel_rfl) rfl fun ops anc hA hG => ?_
  simp only [all2_cons] at hA
  simp (maxDischargeDepth := 6) only [hb, hT, h1, hA, ruD, ruW, putL, Nat.reduceLeDiff, xF, ruU, entryE, Nat.reduceLT, Nat.reduceAdd, Nat.reduceMul, Nat.reduceEqDiff]
  refine genV_quiet (v := .int .i64 (count l)) (idsV v) (by simp (maxDischargeDepth := 6) only [ruU, entryE, Nat.reduceLT, Nat.reduceAdd, Nat.reduceMul, Nat.reduceEqDiff]) (by kernel_rfl) (by decide) hp.hne (fun K hn hg => ?_) (by simp (maxDischargeDepth := 6) only [ruD, ruW, putL, Nat.reduceLeDiff, xF, ruU, entryE, Nat.reduceLT, Nat.reduceAdd, Nat.reduceMul, Nat.reduceEqDiff]) ?_
  · simp only [ruU, entryE, Nat.reduceLT, Nat.reduceAdd, Nat.reduceMul, Nat.reduceEqDiff]
    exact count_c K v l (hp.at_.of hg) hp.ne
  simp (maxDischargeDepth := 6) only [hb, hT, h1, hA, hw, ruD, ruW, putL, Nat.reduceLeDiff, xF, ruU, entryE, Nat.reduceLT, Nat.reduceAdd, Nat.reduceMul, Nat.reduceEqDiff]
  refine genV_last (as' := [.int .i64 (x.row - count l), .int .i64 (x.col)]) g ok (by simp only [ruU, entryE, Nat.reduceLT, Nat.reduceAdd, Nat.reduceMul, Nat.reduceEqDiff]) (by kernel_rfl) (by decide) (by simp only [ruU, entryE, Nat.reduceLT, Nat.reduceAdd, Nat.reduceMul, Nat.reduceEqDiff]) (by simp only [all2_cons, all2_nil, hA, true_or, and_true]) (fun G gG okG => moveTo_c G p x _ _ gG s okG) fun H1 p1 st => ?_
  rw [show H1 = ext H1 [] from rfl]
  simp (maxDischargeDepth := 6) only [Tryd.results50, ruD, ruW, putL, Nat.reduceLeDiff, xF, ruU, entryE, Nat.reduceLT, Nat.reduceAdd, Nat.reduceMul, Nat.reduceEqDiff]
  exact ⟨p1, st⟩

theorem down_c (H : AHeap) (p : Rp) (x : Tm) (v : Value) (l : List Int) (g : TmAt H p x) (s : x.Sz) (ok : H.base ≤ H.next) (hp : Pars H v l) : Does 51 [v] H p (.tuple #[]) (x.moveTo (x.row + count l) (x.col)) := by
  obtain ⟨b, hb⟩ : ∃ b, H.next = b := ⟨_, rfl⟩
  have hT : p.t < b := hb ▸ g.lt p.t (by simp [Rp.blks])
  have h1 := g.cell
  simp only [cellsT] at h1
  have s1 := s.h2
  have s2 := s.w2
  have s3 := s.r1
  have s4 := s.r2
  have s5 := inside_rg s
  have s6 := hp.count
  have s7 := hp.snd
  have hw : IntKind.i64.wrap (x.row + count l) = x.row + count l := wrap_sm (by omega) (by omega)
  refine callE_fn mixed Tryd.func51 rfl Tryd.ntmps51 (Nat.le_of_ble_eq_true rfl) ?_
  simp (maxDischargeDepth := 6) only [ruW, putL, Nat.reduceLeDiff, xF, ruU, entryE, Nat.reduceLT, Nat.reduceAdd, Nat.reduceMul, Nat.reduceEqDiff]
  refine w_drawB [(14, 5), (14, 7), (14, 13)] [] (by kernel_rfl) (by kernel_rfl) rfl fun ops anc hA hG => ?_
  simp only [all2_cons] at hA
  simp (maxDischargeDepth := 6) only [hb, hT, h1, hA, ruD, ruW, putL, Nat.reduceLeDiff, xF, ruU, entryE, Nat.reduceLT, Nat.reduceAdd, Nat.reduceMul, Nat.reduceEqDiff]
  refine genV_quiet (v := .int .i64 (count l)) (idsV v) (by simp (maxDischargeDepth := 6) only [ruU, entryE, Nat.reduceLT, Nat.reduceAdd, Nat.reduceMul, Nat.reduceEqDiff]) (by kernel_rfl) (by decide) hp.hne (fun K hn hg => ?_) (by simp (maxDischargeDepth := 6) only [ruD, ruW, putL, Nat.reduceLeDiff, xF, ruU, entryE, Nat.reduceLT, Nat.reduceAdd, Nat.reduceMul, Nat.reduceEqDiff]) ?_
  · simp only [ruU, entryE, Nat.reduceLT, Nat.reduceAdd, Nat.reduceMul, Nat.reduceEqDiff]
    exact count_c K v l (hp.at_.of hg) hp.ne
  simp (maxDischargeDepth := 6) only [hb, hT, h1, hA, hw, ruD, ruW, putL, Nat.reduceLeDiff, xF, ruU, entryE, Nat.reduceLT, Nat.reduceAdd, Nat.reduceMul, Nat.reduceEqDiff]
  refine genV_last (as' := [.int .i64 (x.row + count l), .int .i64 (x.col)]) g ok (by simp only [ruU, entryE, Nat.reduceLT, Nat.reduceAdd, Nat.reduceMul, Nat.reduceEqDiff]) (by kernel_rfl) (by decide) (by simp only [ruU, entryE, Nat.reduceLT, Nat.reduceAdd, Nat.reduceMul, Nat.reduceEqDiff]) (by simp only [all2_cons, all2_nil, hA, true_or, and_true]) (fun G gG okG => moveTo_c G p x _ _ gG s okG) fun H1 p1 st => ?_
  rw [show H1 = ext H1 [] from rfl]
  simp (maxDischargeDepth := 6) only [Tryd.results51, ruD, ruW, putL, Nat.reduceLeDiff, xF, ruU, entryE, Nat.reduceLT, Nat.reduceAdd, Nat.reduceMul, Nat.reduceEqDiff]
  exact ⟨p1, st⟩

theorem right_c (H : AHeap) (p : Rp) (x : Tm) (v : Value) (l : List Int) (g : TmAt H p x) (s : x.Sz) (ok : H.base ≤ H.next) (hp : Pars H v l) : Does 52 [v] H p (.tuple #[]) (x.moveTo (x.row) (x.inside + count l)) := by
  obtain ⟨b, hb⟩ : ∃ b, H.next = b := ⟨_, rfl⟩
  have hT : p.t < b := hb ▸ g.lt p.t (by simp [Rp.blks])
  have h1 := g.cell
  simp only [cellsT] at h1
  have s1 := s.h2
  have s2 := s.w2
  have s3 := s.r1
  have s4 := s.r2
  have s5 := inside_rg s
  have s6 := hp.count
  have s7 := hp.snd
  have hw : IntKind.i64.wrap (x.inside + count l) = x.inside + count l := wrap_sm (by omega) (by omega)
  refine callE_fn mixed Tryd.func52 rfl Tryd.ntmps52 (Nat.le_of_ble_eq_true rfl) ?_
  simp (maxDischargeDepth := 6) only [ruW, putL, Nat.reduceLeDiff, xF, ruU, entryE, Nat.reduceLT, Nat.reduceAdd, Nat.reduceMul, Nat.reduceEqDiff]
  refine w_drawB [(11, 5), (11, 7), (11, 9)] [] (by kernel_rfl) (by kernel_rfl) rfl fun ops anc hA hG => ?_
  simp only [all2_cons] at hA
  simp (maxDischargeDepth := 6) only [hb, hT, h1, hA, ruD, ruW, putL, Nat.reduceLeDiff, xF, ruU, entryE, Nat.reduceLT, Nat.reduceAdd, Nat.reduceMul, Nat.reduceEqDiff]
  refine genV_quiet (v := .int .i64 x.inside) p.blks (by simp (maxDischargeDepth := 6) only [ruU, entryE, Nat.reduceLT, Nat.reduceAdd, Nat.reduceMul, Nat.reduceEqDiff]) (by kernel_rfl) (by decide) g.ne (fun K hn hg => ?_) (by simp (maxDischargeDepth := 6) only [ruD, ruW, putL, Nat.reduceLeDiff, xF, ruU, entryE, Nat.reduceLT, Nat.reduceAdd, Nat.reduceMul, Nat.reduceEqDiff]) ?_
  · simp only [ruU, entryE, Nat.reduceLT, Nat.reduceAdd, Nat.reduceMul, Nat.reduceEqDiff]
    exact inside_c K p x (g.of (by rw [hn]; exact Nat.le_refl _) hg) s
  simp (maxDischargeDepth := 6) only [hb, hT, h1, hA, hw, ruD, ruW, putL, Nat.reduceLeDiff, xF, ruU, entryE, Nat.reduceLT, Nat.reduceAdd, Nat.reduceMul, Nat.reduceEqDiff]
  refine genV_quiet (v := .int .i64 (count l)) (idsV v) (by simp (maxDischargeDepth := 6) only [ruU, entryE, Nat.reduceLT, Nat.reduceAdd, Nat.reduceMul, Nat.reduceEqDiff]) (by kernel_rfl) (by decide) hp.hne (fun K hn hg => ?_) (by simp (maxDischargeDepth := 6) only [ruD, ruW, putL, Nat.reduceLeDiff, xF, ruU, entryE, Nat.reduceLT, Nat.reduceAdd, Nat.reduceMul, Nat.reduceEqDiff]) ?_
  · simp only [ruU, entryE, Nat.reduceLT, Nat.reduceAdd, Nat.reduceMul, Nat.reduceEqDiff]
    exact count_c K v l (hp.at_.of hg) hp.ne
  simp (maxDischargeDepth := 6) only [hb, hT, h1, hA, hw, ruD, ruW, putL, Nat.reduceLeDiff, xF, ruU, entryE, Nat.reduceLT, Nat.reduceAdd, Nat.reduceMul, Nat.reduceEqDiff]
  refine genV_last (as' := [.int .i64 (x.row), .int .i64 (x.inside + count l)]) g ok (by simp only [ruU, entryE, Nat.reduceLT, Nat.reduceAdd, Nat.reduceMul, Nat.reduceEqDiff]) (by kernel_rfl) (by decide) (by simp only [ruU, entryE, Nat.reduceLT, Nat.reduceAdd, Nat.reduceMul, Nat.reduceEqDiff]) (by simp only [all2_cons, all2_nil, hA, true_or, and_true]) (fun G gG okG => moveTo_c G p x _ _ gG s okG) fun H1 p1 st => ?_
  rw [show H1 = ext H1 [] from rfl]
  simp (maxDischargeDepth := 6) only [Tryd.results52, ruD, ruW, putL, Nat.reduceLeDiff, xF, ruU, entryE, Nat.reduceLT, Nat.reduceAdd, Nat.reduceMul, Nat.reduceEqDiff]
  exact ⟨p1, st⟩

theorem left_c (H : AHeap) (p : Rp) (x : Tm) (v : Value) (l : List Int) (g : TmAt H p x) (s : x.Sz) (ok : H.base ≤ H.next) (hp : Pars H v l) : Does 53 [v] H p (.tuple #[]) (x.moveTo (x.row) (x.inside - count l)) := by
  obtain ⟨b, hb⟩ : ∃ b, H.next = b := ⟨_, rfl⟩
  have hT : p.t < b := hb ▸ g.lt p.t (by simp [Rp.blks])
  have h1 := g.cell
  simp only [cellsT] at h1
  have s1 := s.h2
  have s2 := s.w2
  have s3 := s.r1
  have s4 := s.r2
  have s5 := inside_rg s
  have s6 := hp.count
  have s7 := hp.snd
  have hw : IntKind.i64.wrap (x.inside - count l) = x.inside - count l := wrap_sm (by omega) (by omega)
  refine callE_fn mixed Tryd.func53 rfl Tryd.ntmps53 (Nat.le_of_ble_eq_true rfl) ?_
  simp (maxDischargeDepth := 6) only [ruW, putL, Nat.reduceLeDiff, xF, ruU, entryE, Nat.reduceLT, Nat.reduceAdd, Nat.reduceMul, Nat.reduceEqDiff]
  refine w_drawB [(11, 5), (11, 7), (11, 9)] [] (by kernel_rfl) (by kernel_rfl) rfl fun ops anc hA hG => ?_
  simp only [all2_cons] at hA
  simp (maxDischargeDepth := 6) only [hb, hT, h1, hA, ruD, ruW, putL, Nat.reduceLeDiff, xF, ruU, entryE, Nat.reduceLT, Nat.reduceAdd, Nat.reduceMul, Nat.reduceEqDiff]
  refine genV_quiet (v := .int .i64 x.inside) p.blks (by simp (maxDischargeDepth := 6) only [ruU, entryE, Nat.reduceLT, Nat.reduceAdd, Nat.reduceMul, Nat.reduceEqDiff]) (by kernel_rfl) (by decide) g.ne (fun K hn hg => ?_) (by simp (maxDischargeDepth := 6) only [ruD, ruW, putL, Nat.reduceLeDiff, xF, ruU, entryE, Nat.reduceLT, Nat.reduceAdd, Nat.reduceMul, Nat.reduceEqDiff]) ?_
  · simp only [ruU, entryE, Nat.reduceLT, Nat.reduceAdd, Nat.reduceMul, Nat.reduceEqDiff]
    exact inside_c K p x (g.of (by rw [hn]; exact Nat.le_refl _) hg) s
  simp (maxDischargeDepth := 6) only [hb, hT, h1, hA, hw, ruD, ruW, putL, Nat.reduceLeDiff, xF, ruU, entryE, Nat.reduceLT, Nat.reduceAdd, Nat.reduceMul, Nat.reduceEqDiff]
  refine genV_quiet (v := .int .i64 (count l)) (idsV v) (by simp (maxDischargeDepth := 6) only [ruU, entryE, Nat.reduceLT, Nat.reduceAdd, Nat.reduceMul, Nat.reduceEqDiff]) (by kernel_rfl) (by decide) hp.hne (fun K hn hg => ?_) (by simp (maxDischargeDepth := 6) only [ruD, ruW, putL, Nat.reduceLeDiff, xF, ruU, entryE, Nat.reduceLT, Nat.reduceAdd, Nat.reduceMul, Nat.reduceEqDiff]) ?_
  · simp only [ruU, entryE, Nat.reduceLT, Nat.reduceAdd, Nat.reduceMul, Nat.reduceEqDiff]
    exact count_c K v l (hp.at_.of hg) hp.ne
  simp (maxDischargeDepth := 6) only [hb, hT, h1, hA, hw, ruD, ruW, putL, Nat.reduceLeDiff, xF, ruU, entryE, Nat.reduceLT, Nat.reduceAdd, Nat.reduceMul, Nat.reduceEqDiff]
  refine genV_last (as' := [.int .i64 (x.row), .int .i64 (x.inside - count l)]) g ok (by simp only [ruU, entryE, Nat.reduceLT, Nat.reduceAdd, Nat.reduceMul, Nat.reduceEqDiff]) (by kernel_rfl) (by decide) (by simp only [ruU, entryE, Nat.reduceLT, Nat.reduceAdd, Nat.reduceMul, Nat.reduceEqDiff]) (by simp only [all2_cons, all2_nil, hA, true_or, and_true]) (fun G gG okG => moveTo_c G p x _ _ gG s okG) fun H1 p1 st => ?_
  rw [show H1 = ext H1 [] from rfl]
  simp (maxDischargeDepth := 6) only [Tryd.results53, ruD, ruW, putL, Nat.reduceLeDiff, xF, ruU, entryE, Nat.reduceLT, Nat.reduceAdd, Nat.reduceMul, Nat.reduceEqDiff]
  exact ⟨p1, st⟩

theorem toCol_c (H : AHeap) (p : Rp) (x : Tm) (v : Value) (l : List Int) (g : TmAt H p x) (s : x.Sz) (ok : H.base ≤ H.next) (hp : Pars H v l) : Does 54 [v] H p (.tuple #[]) (x.moveTo (x.row) (count l - 1)) := by
  obtain ⟨b, hb⟩ : ∃ b, H.next = b := ⟨_, rfl⟩
  have hT : p.t < b := hb ▸ g.lt p.t (by simp [Rp.blks])
  have h1 := g.cell
  simp only [cellsT] at h1
  have s1 := s.h2
  have s2 := s.w2
  have s3 := s.r1
  have s4 := s.r2
  have s5 := inside_rg s
  have s6 := hp.count
  have s7 := hp.snd
  have hw : IntKind.i64.wrap (count l - 1) = count l - 1 := wrap_sm (by omega) (by omega)
  refine callE_fn mixed Tryd.func54 rfl Tryd.ntmps54 (Nat.le_of_ble_eq_true rfl) ?_
  simp (maxDischargeDepth := 6) only [ruW, putL, Nat.reduceLeDiff, xF, ruU, entryE, Nat.reduceLT, Nat.reduceAdd, Nat.reduceMul, Nat.reduceEqDiff]
  refine w_drawB [(9, 5), (9, 7)] [] (by kernel_rfl) (by kernel_rfl) rfl fun ops anc hA hG => ?_
  simp only [all2_cons] at hA
  simp (maxDischargeDepth := 6) only [hb, hT, h1, hA, ruD, ruW, putL, Nat.reduceLeDiff, xF, ruU, entryE, Nat.reduceLT, Nat.reduceAdd, Nat.reduceMul, Nat.reduceEqDiff]
  refine genV_quiet (v := .int .i64 (count l)) (idsV v) (by simp (maxDischargeDepth := 6) only [ruU, entryE, Nat.reduceLT, Nat.reduceAdd, Nat.reduceMul, Nat.reduceEqDiff]) (by kernel_rfl) (by decide) hp.hne (fun K hn hg => ?_) (by simp (maxDischargeDepth := 6) only [ruD, ruW, putL, Nat.reduceLeDiff, xF, ruU, entryE, Nat.reduceLT, Nat.reduceAdd, Nat.reduceMul, Nat.reduceEqDiff]) ?_
  · simp only [ruU, entryE, Nat.reduceLT, Nat.reduceAdd, Nat.reduceMul, Nat.reduceEqDiff]
    exact count_c K v l (hp.at_.of hg) hp.ne
  simp (maxDischargeDepth := 6) only [hb, hT, h1, hA, hw, ruD, ruW, putL, Nat.reduceLeDiff, xF, ruU, entryE, Nat.reduceLT, Nat.reduceAdd, Nat.reduceMul, Nat.reduceEqDiff]
  refine genV_last (as' := [.int .i64 (x.row), .int .i64 (count l - 1)]) g ok (by simp only [ruU, entryE, Nat.reduceLT, Nat.reduceAdd, Nat.reduceMul, Nat.reduceEqDiff]) (by kernel_rfl) (by decide) (by simp only [ruU, entryE, Nat.reduceLT, Nat.reduceAdd, Nat.reduceMul, Nat.reduceEqDiff]) (by simp only [all2_cons, all2_nil, hA, true_or, and_true]) (fun G gG okG => moveTo_c G p x _ _ gG s okG) fun H1 p1 st => ?_
  rw [show H1 = ext H1 [] from rfl]
  simp (maxDischargeDepth := 6) only [Tryd.results54, ruD, ruW, putL, Nat.reduceLeDiff, xF, ruU, entryE, Nat.reduceLT, Nat.reduceAdd, Nat.reduceMul, Nat.reduceEqDiff]
  exact ⟨p1, st⟩

theorem toRow_c (H : AHeap) (p : Rp) (x : Tm) (v : Value) (l : List Int) (g : TmAt H p x) (s : x.Sz) (ok : H.base ≤ H.next) (hp : Pars H v l) : Does 55 [v] H p (.tuple #[]) (x.moveTo (count l - 1) (x.col)) := by
  obtain ⟨b, hb⟩ : ∃ b, H.next = b := ⟨_, rfl⟩
  have hT : p.t < b := hb ▸ g.lt p.t (by simp [Rp.blks])
  have h1 := g.cell
  simp only [cellsT] at h1
  have s1 := s.h2
  have s2 := s.w2
  have s3 := s.r1
  have s4 := s.r2
  have s5 := inside_rg s
  have s6 := hp.count
  have s7 := hp.snd
  have hw : IntKind.i64.wrap (count l - 1) = count l - 1 := wrap_sm (by omega) (by omega)
  refine callE_fn mixed Tryd.func55 rfl Tryd.ntmps55 (Nat.le_of_ble_eq_true rfl) ?_
  simp (maxDischargeDepth := 6) only [ruW, putL, Nat.reduceLeDiff, xF, ruU, entryE, Nat.reduceLT, Nat.reduceAdd, Nat.reduceMul, Nat.reduceEqDiff]
  refine w_drawB [(9, 2), (9, 8)] [] (by kernel_rfl) (by kernel_rfl) rfl fun ops anc hA hG => ?_
  simp only [all2_cons] at hA
  simp (maxDischargeDepth := 6) only [hb, hT, h1, hA, ruD, ruW, putL, Nat.reduceLeDiff, xF, ruU, entryE, Nat.reduceLT, Nat.reduceAdd, Nat.reduceMul, Nat.reduceEqDiff]
  refine genV_quiet (v := .int .i64 (count l)) (idsV v) (by simp (maxDischargeDepth := 6) only [ruU, entryE, Nat.reduceLT, Nat.reduceAdd, Nat.reduceMul, Nat.reduceEqDiff]) (by kernel_rfl) (by decide) hp.hne (fun K hn hg => ?_) (by simp (maxDischargeDepth := 6) only [ruD, ruW, putL, Nat.reduceLeDiff, xF, ruU, entryE, Nat.reduceLT, Nat.reduceAdd, Nat.reduceMul, Nat.reduceEqDiff]) ?_
  · simp only [ruU, entryE, Nat.reduceLT, Nat.reduceAdd, Nat.reduceMul, Nat.reduceEqDiff]
    exact count_c K v l (hp.at_.of hg) hp.ne
  simp (maxDischargeDepth := 6) only [hb, hT, h1, hA, hw, ruD, ruW, putL, Nat.reduceLeDiff, xF, ruU, entryE, Nat.reduceLT, Nat.reduceAdd, Nat.reduceMul, Nat.reduceEqDiff]
  refine genV_last (as' := [.int .i64 (count l - 1), .int .i64 (x.col)]) g ok (by simp only [ruU, entryE, Nat.reduceLT, Nat.reduceAdd, Nat.reduceMul, Nat.reduceEqDiff]) (by kernel_rfl) (by decide) (by simp only [ruU, entryE, Nat.reduceLT, Nat.reduceAdd, Nat.reduceMul, Nat.reduceEqDiff]) (by simp only [all2_cons, all2_nil, hA, true_or, and_true]) (fun G gG okG => moveTo_c G p x _ _ gG s okG) fun H1 p1 st => ?_
  rw [show H1 = ext H1 [] from rfl]
  simp (maxDischargeDepth := 6) only [Tryd.results55, ruD, ruW, putL, Nat.reduceLeDiff, xF, ruU, entryE, Nat.reduceLT, Nat.reduceAdd, Nat.reduceMul, Nat.reduceEqDiff]
  exact ⟨p1, st⟩

theorem toBoth_c (H : AHeap) (p : Rp) (x : Tm) (v : Value) (l : List Int) (g : TmAt H p x) (s : x.Sz) (ok : H.base ≤ H.next) (hp : Pars H v l) : Does 56 [v] H p (.tuple #[]) (x.moveTo (count l - 1) (max 1 (snd l) - 1)) := by
  have s6 := hp.count
  have s7 := hp.snd
  have hw : IntKind.i64.wrap (count l - 1) = count l - 1 := wrap_sm (by omega) (by omega)
  have hw2 : IntKind.i64.wrap (max 1 (snd l) - 1) = max 1 (snd l) - 1 := wrap_sm (by omega) (by omega)
  refine callE_fn mixed Tryd.func56 rfl Tryd.ntmps56 (Nat.le_of_ble_eq_true rfl) ?_
  simp (maxDischargeDepth := 6) only [ruW, putL, Nat.reduceLeDiff, xF, ruU, entryE, Nat.reduceLT, Nat.reduceAdd, Nat.reduceMul, Nat.reduceEqDiff]
  refine (count_c (ext H []) v l hp.at_ hp.ne).to ?_
  simp (maxDischargeDepth := 6) only [hw, ruW, putL, Nat.reduceLeDiff, xF, ruU, entryE, Nat.reduceLT, Nat.reduceAdd, Nat.reduceMul, Nat.reduceEqDiff]
  refine (second_c (ext H []) v l hp.at_).to ?_
  simp (maxDischargeDepth := 6) only [hw2, ruW, putL, Nat.reduceLeDiff, xF, ruU, entryE, Nat.reduceLT, Nat.reduceAdd, Nat.reduceMul, Nat.reduceEqDiff]
  refine (moveTo_c (ext H []) p x _ _ g s ok).mono ?_
  rintro _ H1 ⟨rfl, p1, st⟩
  rw [show H1 = ext H1 [] from rfl]
  simp (maxDischargeDepth := 6) only [Tryd.results56, ruW, putL, Nat.reduceLeDiff, xF, ruU, entryE, Nat.reduceLT, Nat.reduceAdd, Nat.reduceMul, Nat.reduceEqDiff]
  exact ⟨trivial, p1, st⟩

end Go.Proofs.YtpohjcacnkhnkaaDoor

/- What blank does to a row. -/
namespace Go.Proofs.YtpohjcacnkhnkaaDoor
open Go.Ax
set_option linter.unusedSimpArgs false
set_option maxRecDepth 10000

def fillL (l : List Ce) (a i : Nat) : List Ce := l.take a ++ List.replicate (i - a) sp ++ l.drop i
theorem fillL_len (l : List Ce) (a i : Nat) (h : a ≤ i) (h2 : i ≤ l.length) : (fillL l a i).length = l.length := by
  simp only [fillL, List.length_append, List.length_take, List.length_replicate, List.length_drop]; omega
theorem fillL_start (l : List Ce) (a : Nat) : fillL l a a = l := by simp [fillL]
theorem fillL_set (l : List Ce) (a i : Nat) (h : a ≤ i) (h2 : i < l.length) : (fillL l a i).set i sp = fillL l a (i + 1) := by
  have h3 : (l.take a ++ List.replicate (i - a) sp).length = i := by simp; omega
  rw [fillL, List.set_append_right _ _ (by omega), h3, Nat.sub_self, List.drop_eq_getElem_cons h2, List.set_cons_zero, fillL, show i + 1 - a = i - a + 1 by omega, List.replicate_succ']
  simp

def halfA (l : List Ce) (a b : Nat) : List Ce := if a < b ∧ (l.getD a sp).rune = -1 then l.set (a - 1) sp else l
def halfB (l : List Ce) (a b : Nat) : List Ce := if a < b ∧ b < l.length ∧ (l.getD b sp).rune = -1 then l.set b sp else l
theorem halfA_len (l : List Ce) (a b : Nat) : (halfA l a b).length = l.length := by unfold halfA; split <;> simp
theorem halfB_len (l : List Ce) (a b : Nat) : (halfB l a b).length = l.length := by unfold halfB; split <;> simp
theorem blankL_eq (l : List Ce) (a b : Nat) (h : a ≤ b) : blankL l a b = fillL (halfB (halfA l a b) a b) a b := by
  simp only [blankL, fillL, halfA, halfB]
  rw [Nat.max_eq_right h]
  rfl
theorem blankL_len (l : List Ce) (a b : Nat) (h : a ≤ b) (h2 : b ≤ l.length) : (blankL l a b).length = l.length := by
  rw [blankL_eq l a b h, fillL_len _ _ _ h (by rw [halfB_len, halfA_len]; exact h2), halfB_len, halfA_len]

theorem sp_val : (Value.agg ⟨[.int .i64 32, .int .i64 0, .int .i64 0, .bool false, .bool false, .bool false]⟩ : Value) = sp.val := rfl
theorem sp_cells : [.int .i64 32, .int .i64 0, .int .i64 0, .bool false, .bool false, .bool false] = sp.cells := rfl

theorem stB_cell {c : Ce} {N k : Nat} {e : TypeId} {o : Bool} {l : List Ce} (h : k < l.length) : stB Tryd.prog 56 N (k * 6) c.val (some ⟨e, o, csOf l⟩) = some ⟨e, o, csOf (l.set k c)⟩ := by
  have hv : c.val.cells.toList = c.cells := rfl
  rw [stB_ok (by rw [hv]; exact sz56) (by rw [hv, csOf_length]; simp only [Ce.cells, List.length_cons, List.length_nil]; omega) (by rw [hv]; rfl) (by rw [hv]; rfl), hv, csOf_set l k c h]
theorem stB_sp {N k : Nat} {e : TypeId} {o : Bool} {l : List Ce} (h : k < l.length) : stB Tryd.prog 56 N (k * 6) (.agg ⟨[.int .i64 32, .int .i64 0, .int .i64 0, .bool false, .bool false, .bool false]⟩) (some ⟨e, o, csOf l⟩) = some ⟨e, o, csOf (l.set k sp)⟩ := stB_cell (c := sp) h
theorem bk_cell {X : AHeap} {n k : Nat} {e : TypeId} {o : Bool} {l : List Ce} {c : Ce} (hX : bk X n = some ⟨e, o, csOf l⟩) (h : k < l.length) : bk (ext (uw X n (k * 6) c.cells) []) n = some ⟨e, o, csOf (l.set k c)⟩ := by
  rw [ext_nil, bk_uw_eq, hX, Option.map_some, putB_eq, csOf_set l k c h]

theorem tm_blank (x : Tm) (k a b : Nat) : x.blank k a b = { x with grid := x.grid.set k (blankL (x.grid.getD k []) a b) } := rfl

theorem blank_c (H : AHeap) (p : Rp) (x : Tm) (k a b : Nat) (l : List Ce) (g : TmAt H p x) (s : x.Sz) (ok : H.base ≤ H.next) (hl : x.grid[k]? = some l) (hab : a ≤ b) (hbw : b ≤ x.w) (hr : a < b → (l.getD a sp).rune = -1 → 0 < a) :
    Does 49 [.int .i64 (k : Int), .int .i64 (a : Int), .int .i64 (b : Int)] H p (.tuple #[]) (x.blank k a b) := by
  obtain ⟨n, hn⟩ : ∃ n, H.next = n := ⟨_, rfl⟩
  have hT : p.t < n := hn ▸ g.lt p.t (by simp [Rp.blks])
  have hR : p.rb < n := hn ▸ g.lt p.rb (by simp [Rp.blks])
  have h1 := g.cell
  simp only [cellsT] at h1
  have h2 := g.rows
  obtain ⟨q, hq, hqm, hqb⟩ := g.rowOf hl
  have hQ : q.1 < n := hn ▸ g.lt q.1 hqm
  have hlw : l.length = x.w := s.ws l (List.mem_of_getElem? hl)
  have s1 := s.h2
  have s2 := s.w2
  have hk : k < x.h := by
    rcases Nat.lt_or_ge k x.grid.length with h' | h'
    · exact h'
    · rw [List.getElem?_eq_none h'] at hl; cases hl
  have hqr : (p.rs.map (rowV x.w))[k]? = some (rowV x.w q) := by rw [List.getElem?_map, hq]; rfl
  have hi := rows_ia (len := x.h) (cap := x.h) (n := p.rb) (s := none) (i := (k : Int)) (k := k) rfl hk
  obtain ⟨d1, hd1⟩ : ∃ d, decide ((a : Int) < (b : Int)) = d := ⟨_, rfl⟩
  have e1 : a < b ↔ d1 = true := by rw [← hd1, decide_eq_true_iff]; omega
  refine callE_fn mixed Tryd.func49 rfl Tryd.ntmps49 (Nat.le_of_ble_eq_true rfl) ?_
  refine w_meet (fun E' H' => Mod [q.1] H H' ∧ bk H' q.1 = some ⟨56, q.2, csOf l⟩ ∧ E' 0 = .pointer (some ⟨p.t, 0, none⟩) ∧ E' 1 = .int .i64 (k : Int) ∧ E' 2 = .int .i64 (a : Int) ∧ E' 3 = .int .i64 (b : Int) ∧ E' 8 = rowV x.w q) ?_ ?_
  · simp (maxDischargeDepth := 6) only [hn, hT, hR, h1, h2, hi, hqr, rowV, ruW, putL, Nat.reduceLeDiff, xF, ruU, entryE, Nat.reduceLT, Nat.reduceAdd, Nat.reduceMul, Nat.reduceEqDiff]
    refine joinR_normal ⟨Mod.refl, hqb, ?_, ?_, ?_, ?_, ?_⟩ <;> simp only [ruU, entryE, Nat.reduceLT, Nat.reduceAdd, Nat.reduceMul, Nat.reduceEqDiff]
  rintro E X ⟨mX, hX, g0, g1, g2, g3, g8⟩
  refine w_meet (fun E' H' => Mod [q.1] H H' ∧ bk H' q.1 = some ⟨56, q.2, csOf (halfA l a b)⟩ ∧ E' 0 = .pointer (some ⟨p.t, 0, none⟩) ∧ E' 1 = .int .i64 (k : Int) ∧ E' 2 = .int .i64 (a : Int) ∧ E' 3 = .int .i64 (b : Int) ∧ E' 8 = rowV x.w q) ?_ ?_
  · obtain ⟨m, hm⟩ : ∃ m, X.next = m := ⟨_, rfl⟩
    have hQm : q.1 < m := hm ▸ mX.lt (hn ▸ hQ)
    have okX := mX.ok ok
    rw [show X = ext X [] from rfl]
    cases d1 with
    | false =>
      have hA : halfA l a b = l := by unfold halfA; rw [if_neg (fun h => by have := e1.1 h.1; simp at this)]
      simp (maxDischargeDepth := 6) only [g0, g1, g2, g3, g8, hd1, rowV, ruW, putL, Nat.reduceLeDiff, xF, ruU, entryE, Nat.reduceLT, Nat.reduceAdd, Nat.reduceMul, Nat.reduceEqDiff]
      refine joinR_normal ⟨mX, by rw [hA]; exact hX, ?_, ?_, ?_, ?_, ?_⟩ <;> simp only [g0, g1, g2, g3, g8, rowV, ruU, entryE, Nat.reduceLT, Nat.reduceAdd, Nat.reduceMul, Nat.reduceEqDiff]
    | true =>
      have hlt : a < b := e1.2 rfl
      have hal : a < l.length := by omega
      obtain ⟨c, hc⟩ : ∃ c, l[a]? = some c := ⟨_, List.getElem?_eq_getElem hal⟩
      have hcr : l.getD a sp = c := by rw [List.getD, hc]; rfl
      have hia := row_ia (len := x.w) (cap := x.w) (n := q.1) (s := if q.2 = true then none else some 0) (i := (a : Int)) (k := a) rfl (by omega)
      have hld := csOf_rune hc
      obtain ⟨d2, hd2⟩ : ∃ d, decide (c.rune = -1) = d := ⟨_, rfl⟩
      have e2 : c.rune = -1 ↔ d2 = true := by rw [← hd2, decide_eq_true_iff]
      cases d2 with
      | false =>
        have hA : halfA l a b = l := by unfold halfA; rw [if_neg (fun h => by have := e2.1 (hcr ▸ h.2); simp at this)]
        simp (maxDischargeDepth := 6) only [g0, g1, g2, g3, g8, hd1, hd2, hm, hQm, hX, hia, hld, rowV, ruW, putL, Nat.reduceLeDiff, xF, ruU, entryE, Nat.reduceLT, Nat.reduceAdd, Nat.reduceMul, Nat.reduceEqDiff]
        refine joinR_normal ⟨mX, by rw [hA]; exact hX, ?_, ?_, ?_, ?_, ?_⟩ <;> simp only [g0, g1, g2, g3, g8, rowV, ruU, entryE, Nat.reduceLT, Nat.reduceAdd, Nat.reduceMul, Nat.reduceEqDiff]
      | true =>
        have hpos : 0 < a := hr hlt (by rw [hcr]; exact e2.2 rfl)
        have hA : halfA l a b = l.set (a - 1) sp := by unfold halfA; rw [if_pos ⟨hlt, by rw [hcr]; exact e2.2 rfl⟩]
        have hw1 : IntKind.i64.wrap ((a : Int) - 1) = (a : Int) - 1 := wrap_sm (by omega) (by omega)
        have hia2 := row_ia (len := x.w) (cap := x.w) (n := q.1) (s := if q.2 = true then none else some 0) (i := (a : Int) - 1) (k := a - 1) (by omega) (by omega)
        have hst : ∀ N, stB Tryd.prog 56 N ((a - 1) * 6) (.agg ⟨[.int .i64 32, .int .i64 0, .int .i64 0, .bool false, .bool false, .bool false]⟩) (some ⟨56, q.2, csOf l⟩) = some ⟨56, q.2, csOf (l.set (a - 1) sp)⟩ := fun N => stB_sp (by omega)
        simp (maxDischargeDepth := 6) only [g0, g1, g2, g3, g8, hd1, hd2, hm, hQm, hX, hia, hia2, hld, hw1, hst, rowV, ruW, putL, Nat.reduceLeDiff, xF, ruU, entryE, Nat.reduceLT, Nat.reduceAdd, Nat.reduceMul, Nat.reduceEqDiff]
        refine joinR_normal ⟨mX.trans (Mod.uw (by simp)), by rw [hA]; exact bk_cell (c := sp) hX (by omega), ?_, ?_, ?_, ?_, ?_⟩ <;> simp only [g0, g1, g2, g3, g8, rowV, ruU, entryE, Nat.reduceLT, Nat.reduceAdd, Nat.reduceMul, Nat.reduceEqDiff]
  generalize hl2 : halfA l a b = l2
  have hl2w : l2.length = x.w := by rw [← hl2, halfA_len, hlw]
  clear hX mX g0 g1 g2 g3 g8 X E
  rintro E X ⟨mX, hX, g0, g1, g2, g3, g8⟩
  refine w_meet (fun E' H' => Mod [q.1] H H' ∧ bk H' q.1 = some ⟨56, q.2, csOf (halfB l2 a b)⟩ ∧ E' 0 = .pointer (some ⟨p.t, 0, none⟩) ∧ E' 1 = .int .i64 (k : Int) ∧ E' 2 = .int .i64 (a : Int) ∧ E' 3 = .int .i64 (b : Int) ∧ E' 8 = rowV x.w q) ?_ ?_
  · obtain ⟨m, hm⟩ : ∃ m, X.next = m := ⟨_, rfl⟩
    have hQm : q.1 < m := hm ▸ mX.lt (hn ▸ hQ)
    have okX := mX.ok ok
    rw [show X = ext X [] from rfl]
    cases d1 with
    | false =>
      have hA : halfB l2 a b = l2 := by unfold halfB; rw [if_neg (fun h => by have := e1.1 h.1; simp at this)]
      simp (maxDischargeDepth := 6) only [g0, g1, g2, g3, g8, hd1, rowV, ruW, putL, Nat.reduceLeDiff, xF, ruU, entryE, Nat.reduceLT, Nat.reduceAdd, Nat.reduceMul, Nat.reduceEqDiff]
      refine joinR_normal ⟨mX, by rw [hA]; exact hX, ?_, ?_, ?_, ?_, ?_⟩ <;> simp only [g0, g1, g2, g3, g8, rowV, ruU, entryE, Nat.reduceLT, Nat.reduceAdd, Nat.reduceMul, Nat.reduceEqDiff]
    | true =>
      have hlt : a < b := e1.2 rfl
      by_cases hbl : b < x.w
      · obtain ⟨c, hc⟩ : ∃ c, l2[b]? = some c := ⟨_, List.getElem?_eq_getElem (by omega)⟩
        have hcr : l2.getD b sp = c := by rw [List.getD, hc]; rfl
        have hd3 : decide ((b : Int) < (x.w : Int)) = true := decide_eq_true (by omega)
        have hia := row_ia (len := x.w) (cap := x.w) (n := q.1) (s := if q.2 = true then none else some 0) (i := (b : Int)) (k := b) rfl (by omega)
        have hld := csOf_rune hc
        obtain ⟨d2, hd2⟩ : ∃ d, decide (c.rune = -1) = d := ⟨_, rfl⟩
        have e2 : c.rune = -1 ↔ d2 = true := by rw [← hd2, decide_eq_true_iff]
        cases d2 with
        | false =>
          have hA : halfB l2 a b = l2 := by unfold halfB; rw [if_neg (fun h => by have := e2.1 (hcr ▸ h.2.2); simp at this)]
          simp (maxDischargeDepth := 6) only [g0, g1, g2, g3, g8, hd1, hd2, hd3, hm, hQm, hX, hia, hld, rowV, ruW, putL, Nat.reduceLeDiff, xF, ruU, entryE, Nat.reduceLT, Nat.reduceAdd, Nat.reduceMul, Nat.reduceEqDiff]
          refine joinR_normal ⟨mX, by rw [hA]; exact hX, ?_, ?_, ?_, ?_, ?_⟩ <;> simp only [g0, g1, g2, g3, g8, rowV, ruU, entryE, Nat.reduceLT, Nat.reduceAdd, Nat.reduceMul, Nat.reduceEqDiff]
        | true =>
          have hA : halfB l2 a b = l2.set b sp := by unfold halfB; rw [if_pos ⟨hlt, by omega, by rw [hcr]; exact e2.2 rfl⟩]
          have hst : ∀ N, stB Tryd.prog 56 N (b * 6) (.agg ⟨[.int .i64 32, .int .i64 0, .int .i64 0, .bool false, .bool false, .bool false]⟩) (some ⟨56, q.2, csOf l2⟩) = some ⟨56, q.2, csOf (l2.set b sp)⟩ := fun N => stB_sp (by omega)
          simp (maxDischargeDepth := 6) only [g0, g1, g2, g3, g8, hd1, hd2, hd3, hm, hQm, hX, hia, hld, hst, rowV, ruW, putL, Nat.reduceLeDiff, xF, ruU, entryE, Nat.reduceLT, Nat.reduceAdd, Nat.reduceMul, Nat.reduceEqDiff]
          refine joinR_normal ⟨mX.trans (Mod.uw (by simp)), by rw [hA]; exact bk_cell (c := sp) hX (by omega), ?_, ?_, ?_, ?_, ?_⟩ <;> simp only [g0, g1, g2, g3, g8, rowV, ruU, entryE, Nat.reduceLT, Nat.reduceAdd, Nat.reduceMul, Nat.reduceEqDiff]
      · have hA : halfB l2 a b = l2 := by unfold halfB; rw [if_neg (fun h => by have := h.2.1; omega)]
        have hd3 : decide ((b : Int) < (x.w : Int)) = false := decide_eq_false (by omega)
        simp (maxDischargeDepth := 6) only [g0, g1, g2, g3, g8, hd1, hd3, hm, hQm, rowV, ruW, putL, Nat.reduceLeDiff, xF, ruU, entryE, Nat.reduceLT, Nat.reduceAdd, Nat.reduceMul, Nat.reduceEqDiff]
        refine joinR_normal ⟨mX, by rw [hA]; exact hX, ?_, ?_, ?_, ?_, ?_⟩ <;> simp only [g0, g1, g2, g3, g8, rowV, ruU, entryE, Nat.reduceLT, Nat.reduceAdd, Nat.reduceMul, Nat.reduceEqDiff]
  generalize hl3 : halfB l2 a b = l3
  have hl3w : l3.length = x.w := by rw [← hl3, halfB_len, hl2w]
  clear hX mX g0 g1 g2 g3 g8 X E
  rintro E X ⟨mX, hX, g0, g1, g2, g3, g8⟩
  simp (maxDischargeDepth := 6) only [g2, ruW, putL, Nat.reduceLeDiff, xF, ruU, entryE, Nat.reduceLT, Nat.reduceAdd, Nat.reduceMul, Nat.reduceEqDiff]
  refine w_env fun E hE => ?_
  have f2 : E 2 = .int .i64 (a : Int) := by rw [hE]; simp only [g2, ruU, entryE, Nat.reduceLT, Nat.reduceAdd, Nat.reduceMul, Nat.reduceEqDiff]
  have f3 : E 3 = .int .i64 (b : Int) := by rw [hE]; simp only [g3, ruU, entryE, Nat.reduceLT, Nat.reduceAdd, Nat.reduceMul, Nat.reduceEqDiff]
  have f8 : E 8 = rowV x.w q := by rw [hE]; simp only [g8, ruU, entryE, Nat.reduceLT, Nat.reduceAdd, Nat.reduceMul, Nat.reduceEqDiff]
  have f9 : E 9 = .int .i64 (a : Int) := by rw [hE]; simp only [g2, ruU, entryE, Nat.reduceLT, Nat.reduceAdd, Nat.reduceMul, Nat.reduceEqDiff]
  clear hE g0 g1 g2 g3 g8
  refine w_loop (fun (i : Nat) E' H' => Mod [q.1] H H' ∧ a ≤ i ∧ i ≤ b ∧ bk H' q.1 = some ⟨56, q.2, csOf (fillL l3 a i)⟩ ∧ E' 2 = .int .i64 (a : Int) ∧ E' 3 = .int .i64 (b : Int) ∧ E' 8 = rowV x.w q ∧ E' 9 = .int .i64 (i : Int)) (fun i => b - i) a
    ⟨mX, Nat.le_refl _, hab, by rw [fillL_start]; exact hX, f2, f3, f8, f9⟩ ?_
  clear hX mX f2 f3 f8 f9 X E
  rintro i E X ⟨mX, i1, i2, hX, f2, f3, f8, f9⟩
  obtain ⟨m, hm⟩ : ∃ m, X.next = m := ⟨_, rfl⟩
  have hQm : q.1 < m := hm ▸ mX.lt (hn ▸ hQ)
  have okX := mX.ok ok
  rw [show X = ext X [] from rfl]
  by_cases hib : i = b
  · have hd : decide ((i : Int) < (b : Int)) = false := decide_eq_false (by omega)
    simp (maxDischargeDepth := 6) only [f2, f3, f8, f9, hd, Tryd.results49, ruW, putL, Nat.reduceLeDiff, xF, ruU, entryE, Nat.reduceLT, Nat.reduceAdd, Nat.reduceMul, Nat.reduceEqDiff]
    refine ⟨trivial, p, ?_⟩
    have := g.putRow (H1 := ext X []) hq hl mX (l' := blankL l a b) (by rw [blankL_eq l a b hab, hl2, hl3, ← hib]; exact hX) (blankL_len l a b hab (by omega))
    rw [tm_blank, List.getD, hl]
    exact this
  · have hd : decide ((i : Int) < (b : Int)) = true := decide_eq_true (by omega)
    have hil : i < l3.length := by omega
    have hfl := fillL_len l3 a i i1 (by omega)
    have hia := row_ia (len := x.w) (cap := x.w) (n := q.1) (s := if q.2 = true then none else some 0) (i := (i : Int)) (k := i) rfl (by omega)
    have hst : ∀ N, stB Tryd.prog 56 N (i * 6) (.agg ⟨[.int .i64 32, .int .i64 0, .int .i64 0, .bool false, .bool false, .bool false]⟩) (some ⟨56, q.2, csOf (fillL l3 a i)⟩) = some ⟨56, q.2, csOf ((fillL l3 a i).set i sp)⟩ := fun N => stB_sp (by omega)
    simp (maxDischargeDepth := 6) only [f2, f3, f8, f9, hd, hm, hQm, hX, hia, hst, wrap_succ (show i < 1000000 by omega), rowV, ruW, putL, Nat.reduceLeDiff, xF, ruU, entryE, Nat.reduceLT, Nat.reduceAdd, Nat.reduceMul, Nat.reduceEqDiff]
    refine loopC_next ⟨i + 1, by omega, mX.trans (Mod.uw (by simp)), by omega, by omega, by rw [← fillL_set l3 a i i1 hil]; exact bk_cell (c := sp) hX (by omega), ?_, ?_, ?_, ?_⟩ <;> simp only [f2, f3, f8, f9, rowV, ruU, entryE, Nat.reduceLT, Nat.reduceAdd, Nat.reduceMul, Nat.reduceEqDiff]

end Go.Proofs.YtpohjcacnkhnkaaDoor

/- Sizes and places are kept by what writes into the grid. -/
namespace Go.Proofs.YtpohjcacnkhnkaaDoor
open Go.Ax
set_option linter.unusedSimpArgs false

theorem set_hd (l : List Ce) (k : Nat) (c : Ce) (hc : c.rune ≠ -1 ∨ k ≠ 0) (h : (l.getD 0 sp).rune ≠ -1) : ((l.set k c).getD 0 sp).rune ≠ -1 := by
  cases l with
  | nil => simpa using h
  | cons a r =>
    cases k with
    | zero =>
      rcases hc with hc | hc
      · simpa using hc
      · exact absurd rfl hc
    | succ k => simpa using h
theorem sp_rune : sp.rune ≠ -1 := by decide
theorem halfA_hd (l : List Ce) (a b : Nat) (h : (l.getD 0 sp).rune ≠ -1) : ((halfA l a b).getD 0 sp).rune ≠ -1 := by
  unfold halfA
  split
  · exact set_hd l _ _ (.inl sp_rune) h
  · exact h
theorem halfB_hd (l : List Ce) (a b : Nat) (h : (l.getD 0 sp).rune ≠ -1) : ((halfB l a b).getD 0 sp).rune ≠ -1 := by
  unfold halfB
  split
  · exact set_hd l _ _ (.inl sp_rune) h
  · exact h
theorem fillL_hd (l : List Ce) (a b : Nat) (h1 : a ≤ b) (h2 : b ≤ l.length) (h : (l.getD 0 sp).rune ≠ -1) : ((fillL l a b).getD 0 sp).rune ≠ -1 := by
  unfold fillL
  cases a with
  | zero =>
    cases b with
    | zero => simpa using h
    | succ b => simp [List.replicate_succ, sp_rune]
  | succ a =>
    cases l with
    | nil => simp at h2; omega
    | cons c r => simpa using h
theorem blankL_hd (l : List Ce) (a b : Nat) (h1 : a ≤ b) (h2 : b ≤ l.length) (h : (l.getD 0 sp).rune ≠ -1) : ((blankL l a b).getD 0 sp).rune ≠ -1 := by
  rw [blankL_eq l a b h1]
  exact fillL_hd _ a b h1 (by rw [halfB_len, halfA_len]; exact h2) (halfB_hd _ a b (halfA_hd _ a b h))

def Tm.setRow (x : Tm) (k : Nat) (l : List Ce) : Tm := { x with grid := x.grid.set k l }
theorem setRow_h (x : Tm) (k : Nat) (l : List Ce) : (x.setRow k l).h = x.h := by simp [Tm.setRow, Tm.h]
theorem setRow_w {x : Tm} (s : x.Sz) (k : Nat) (l : List Ce) (h : l.length = x.w) : (x.setRow k l).w = x.w := by
  have h1 := s.h1
  simp only [Tm.setRow, Tm.w, Tm.h] at *
  cases hg : x.grid with
  | nil => rw [hg] at h1; simp at h1
  | cons a r =>
    rw [hg] at h
    cases k with
    | zero => simpa using h
    | succ k => simp
theorem Tm.Sz.setRow {x : Tm} (s : x.Sz) {k : Nat} {l : List Ce} (h : l.length = x.w) (hd : (l.getD 0 sp).rune ≠ -1) : (x.setRow k l).Sz := by
  have e1 := setRow_h x k l
  have e2 := setRow_w s k l h
  have hm : ∀ r ∈ (x.setRow k l).grid, r = l ∨ r ∈ x.grid := fun r hr => by
    have := List.mem_or_eq_of_mem_set hr
    exact this.symm
  exact ⟨by rw [e1]; exact s.h1, by rw [e1]; exact s.h2, by rw [e2]; exact s.w1, by rw [e2]; exact s.w2, fun r hr => by
      rw [e2]
      rcases hm r hr with rfl | h'
      · exact h
      · exact s.ws r h', s.r1, by rw [e1]; exact s.r2, s.c1, by rw [e2]; exact s.c2, s.sr1, by rw [e1]; exact s.sr2, s.sc1, by rw [e2]; exact s.sc2, s.t1, s.t2, by rw [e1]; exact s.t3, s.md, fun r hr => by
      rcases hm r hr with rfl | h'
      · exact hd
      · exact s.hd r h'⟩

theorem Tm.Sz.rowAt {x : Tm} (s : x.Sz) {k : Nat} (hk : k < x.h) : ∃ l, x.grid[k]? = some l ∧ x.grid.getD k [] = l ∧ l.length = x.w ∧ (l.getD 0 sp).rune ≠ -1 := by
  have hlt : k < x.grid.length := hk
  refine ⟨x.grid[k], List.getElem?_eq_getElem hlt, by simp [List.getD, List.getElem?_eq_getElem hlt], s.ws _ (List.getElem_mem _), s.hd _ (List.getElem_mem _)⟩
theorem Tm.Sz.blank {x : Tm} (s : x.Sz) {k a b : Nat} (hk : k < x.h) (h1 : a ≤ b) (h2 : b ≤ x.w) : (x.blank k a b).Sz := by
  obtain ⟨l, _, e, hl, hd⟩ := s.rowAt hk
  rw [tm_blank, e]
  exact s.setRow (by rw [blankL_len l a b h1 (by omega), hl]) (blankL_hd l a b h1 (by omega) hd)
theorem blank_hw {x : Tm} (s : x.Sz) {k a b : Nat} (hk : k < x.h) (h1 : a ≤ b) (h2 : b ≤ x.w) : (x.blank k a b).h = x.h ∧ (x.blank k a b).w = x.w := by
  obtain ⟨l, _, e, hl, hd⟩ := s.rowAt hk
  rw [tm_blank, e]
  exact ⟨setRow_h x k _, setRow_w s k _ (by rw [blankL_len l a b h1 (by omega), hl])⟩
theorem Tm.Sz.move {x : Tm} (s : x.Sz) (r c : Int) (r1 : 0 ≤ r) (r2 : r < x.h) (c1 : 0 ≤ c) (c2 : c ≤ x.w) : Tm.Sz { x with row := r, col := c } :=
  ⟨s.h1, s.h2, s.w1, s.w2, s.ws, r1, r2, c1, c2, s.sr1, s.sr2, s.sc1, s.sc2, s.t1, s.t2, s.t3, s.md, s.hd⟩
theorem Tm.Sz.moveTo {x : Tm} (s : x.Sz) (r c : Int) : (x.moveTo r c).Sz := by
  have h1 := s.h1
  have w1 := s.w1
  refine s.move _ _ ?_ ?_ ?_ ?_ <;> simp only [Tm.height, Tm.width, Tm.h, Tm.w] at * <;> omega

theorem blank_g {H : AHeap} {p : Rp} {x : Tm} {k a b : Nat} (g : TmAt H p x) (s : x.Sz) (ok : H.base ≤ H.next) (hk : k < x.h) (hab : a ≤ b) (hbw : b ≤ x.w) : Does 49 [.int .i64 (k : Int), .int .i64 (a : Int), .int .i64 (b : Int)] H p (.tuple #[]) (x.blank k a b) := by
  obtain ⟨l, e1, _, _, hd⟩ := s.rowAt hk
  refine blank_c H p x k a b l g s ok e1 hab hbw fun _ h => ?_
  cases a with
  | zero => exact absurd h hd
  | succ a => omega

end Go.Proofs.YtpohjcacnkhnkaaDoor
