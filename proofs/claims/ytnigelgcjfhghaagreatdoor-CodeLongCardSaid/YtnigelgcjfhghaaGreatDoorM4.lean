/- Parts of the proof, one behind the other. -/
import Derived.Test.YtnigelgcjfhghaaGreatDoorM3
import Derived.Laws.StructEq
import Derived.Test.YtnigelgcjfhghaaGreatDoorProg
import Derived.KernelRfl
import Derived.Below
set_option linter.all false

/- Walks over abstract heaps: a heap that is not known with a row of new blocks behind it. -/
namespace Go.Ax

theorem lset_same {α : Type} (d v w : α) : ∀ (l : List α) (i : Nat), lset d (lset d l i v) i w = lset d l i w
  | [], 0 => rfl
  | [], i + 1 => by simp only [lset, lset_same d v w [] i]
  | _ :: _, 0 => rfl
  | x :: r, i + 1 => by simp only [lset, lset_same d v w r i]

theorem lset_comm {α : Type} (d v w : α) : ∀ (l : List α) (i j : Nat), i ≠ j → lset d (lset d l i v) j w = lset d (lset d l j w) i v
  | [], 0, 0, h => absurd rfl h
  | [], 0, _ + 1, _ => rfl
  | [], _ + 1, 0, _ => rfl
  | [], i + 1, j + 1, h => by simp only [lset, lset_comm d v w [] i j (by omega)]
  | _ :: _, 0, 0, h => absurd rfl h
  | _ :: _, 0, _ + 1, _ => rfl
  | _ :: _, _ + 1, 0, _ => rfl
  | x :: r, i + 1, j + 1, h => by simp only [lset, lset_comm d v w r i j (by omega)]

theorem rootPut_same (R : List (List (List (Option AObj)))) (n : Nat) (o o' : Option AObj) : rootPut (rootPut R n o) n o' = rootPut R n o' := by
  simp only [rootPut, lset_getD, if_true, lset_same]

theorem rootPut_comm (R : List (List (List (Option AObj)))) {n m : Nat} (o o' : Option AObj) (h : n ≠ m) : rootPut (rootPut R n o) m o' = rootPut (rootPut R m o') n o := by
  simp only [rootPut, lset_getD]
  by_cases h1 : m / 256 = n / 256
  · rw [if_pos h1, if_pos h1.symm]
    simp only [lset_getD]
    by_cases h2 : m / 16 % 16 = n / 16 % 16
    · rw [if_pos h2, if_pos h2.symm, h1, h2, lset_same, lset_same, lset_same, lset_same, lset_comm none o o' _ _ _ (by omega)]
    · rw [if_neg h2, if_neg (fun e => h2 e.symm), h1, lset_same, lset_same, lset_comm _ _ _ _ _ _ (fun e => h2 e.symm)]
  · rw [if_neg h1, if_neg (fun e => h1 e.symm), lset_comm _ _ _ _ _ _ (fun e => h1 e.symm)]

theorem RV.set_same (v : RV) (i : Nat) (x y : Value) : (v.set i x).set i y = v.set i y := by
  simp only [RV.set_eq, lset_getD, if_true, lset_same]

theorem RV.set_comm (v : RV) {i j : Nat} (x y : Value) (h : i ≠ j) : (v.set i x).set j y = (v.set j y).set i x := by
  simp only [RV.set_eq, lset_getD]
  by_cases h1 : j / 16 = i / 16
  · rw [if_pos h1, if_pos h1.symm, h1, lset_same, lset_same, lset_comm _ _ _ _ _ _ (by omega)]
  · rw [if_neg h1, if_neg (fun e => h1 e.symm), lset_comm _ _ _ _ _ _ (fun e => h1 e.symm)]

theorem RV.sets_set (l : List Value) : ∀ (v : RV) (i j : Nat) (y : Value), j < i → (v.sets i l).set j y = (v.set j y).sets i l := by
  induction l with
  | nil => intros; rfl
  | cons x r ih =>
    intro v i j y h
    simp only [RV.sets]
    rw [ih _ _ _ _ (by omega), RV.set_comm _ _ _ (by omega)]

def putL : List Value → Nat → List Value → List Value
  | [], _, _ => []
  | x :: r, 0, [] => x :: r
  | _ :: r, 0, y :: ys => y :: putL r 0 ys
  | x :: r, k + 1, vs => x :: putL r k vs

theorem putL_nil (l : List Value) : putL l 0 [] = l := by cases l <;> rfl

theorem putL_length : ∀ (l : List Value) (off : Nat) (vs : List Value), (putL l off vs).length = l.length
  | [], _, _ => rfl
  | _ :: _, 0, [] => rfl
  | _ :: r, 0, y :: ys => by simp only [putL, List.length_cons, putL_length r 0 ys]
  | x :: r, k + 1, vs => by simp only [putL, List.length_cons, putL_length r k vs]

theorem putL_splice : ∀ (l : List Value) (off : Nat) (vs : List Value), off + vs.length ≤ l.length → putL l off vs = splice l off vs
  | [], off, vs, h => by
    simp only [List.length_nil] at h
    have h1 : off = 0 := by omega
    have h2 : vs = [] := List.length_eq_zero_iff.1 (by omega)
    subst h1 h2; rfl
  | x :: r, 0, [], _ => by simp [putL, splice]
  | x :: r, 0, y :: ys, h => by
    have := putL_splice r 0 ys (by simp only [List.length_cons] at h; omega)
    simp only [splice, List.take_zero, List.nil_append, Nat.zero_add] at this
    simp [putL, splice, this]
  | x :: r, k + 1, vs, h => by
    have := putL_splice r k vs (by simp only [List.length_cons] at h; omega)
    rw [putL, this]
    simp [splice, Nat.add_right_comm k 1 vs.length]

theorem RV.sets_put : ∀ (l : List Value) (v : RV) (k off : Nat) (vs : List Value), off + vs.length ≤ l.length → (v.sets k l).sets (k + off) vs = v.sets k (putL l off vs)
  | [], v, k, off, vs, h => by
    have h2 : vs = [] := List.length_eq_zero_iff.1 (by simp only [List.length_nil] at h; omega)
    subst h2
    rfl
  | x :: r, v, k, 0, [], _ => rfl
  | x :: r, v, k, 0, y :: ys, h => by
    have ih := RV.sets_put r (v.set k y) (k + 1) 0 ys (by simp only [List.length_cons] at h; omega)
    simp only [RV.sets, putL, Nat.add_zero] at ih ⊢
    rw [RV.sets_set _ _ _ _ _ (Nat.lt_succ_self k), RV.set_same]
    exact ih
  | x :: r, v, k, off + 1, vs, h => by
    have ih := RV.sets_put r (v.set k x) (k + 1) off vs (by simp only [List.length_cons] at h; omega)
    simp only [RV.sets, putL]
    rw [show k + (off + 1) = k + 1 + off by omega]
    exact ih

theorem RV.sets_n (l : List Value) : ∀ (t : List (List Value)) (n m i : Nat), ({ RV.sets ⟨t, n⟩ i l with n := m } : RV) = RV.sets ⟨t, m⟩ i l := by
  induction l with
  | nil => intros; rfl
  | cons x r ih => intro t n m i; simp only [RV.sets, RV.set_eq]; exact ih _ n m _

theorem RV.ofList_sets (l : List Value) (off : Nat) (vs : List Value) (h : off + vs.length ≤ l.length) : (RV.ofList l).sets off vs = RV.ofList (putL l off vs) := by
  rw [RV.ofList_eq, RV.ofList_eq]
  rw [RV.sets_n, RV.sets_n, putL_length]
  have := RV.sets_put l ⟨[], l.length⟩ 0 off vs h
  rw [Nat.zero_add] at this
  exact this

theorem RV.gets_ofList (l : List Value) : (RV.ofList l).gets 0 l.length = l := by
  apply List.ext_getElem?
  intro i
  rw [RV.gets_eq]
  by_cases hi : i < l.length
  · simp [hi, RV.get_ofList, List.getD]
  · rw [List.getElem?_eq_none (by simpa using hi), List.getElem?_eq_none (by omega)]

structure Bl where
  e : TypeId
  o : Bool
  l : List Value

def Bl.obj (b : Bl) : AObj := ⟨.cells #[] b.e, b.o, RV.ofList b.l⟩

def ext (H : AHeap) : List Bl → AHeap
  | [] => H
  | b :: r => ext (nw H b.e b.l b.o) r

section
variable {P : Program} {H : AHeap} {L : List Bl}

theorem ext_nil : ext H [] = H := rfl

theorem ext_next : ∀ {L : List Bl} {H : AHeap}, (ext H L).next = H.next + L.length
  | [], _ => rfl
  | b :: r, H => by rw [ext, ext_next, nw_next, List.length_cons]; omega
theorem ext_base : ∀ {L : List Bl} {H : AHeap}, (ext H L).base = H.base
  | [], _ => rfl
  | b :: r, H => by rw [ext, ext_base, nw_base]
theorem ext_dirty : ∀ {L : List Bl} {H : AHeap}, (ext H L).dirty = H.dirty
  | [], _ => rfl
  | b :: r, H => by rw [ext, ext_dirty, nw_dirty]

theorem ext_get_old : ∀ {L : List Bl} {H : AHeap} {n : Nat}, n < H.next → (ext H L).get n = H.get n
  | [], _, _, _ => rfl
  | b :: r, H, n, h => by rw [ext, ext_get_old (by rw [nw_next]; omega), nw_get _ _ _ (by omega)]

theorem ext_get_new : ∀ {L : List Bl} {H : AHeap} {i : Nat}, i < L.length → (ext H L).get (H.next + i) = L[i]?.map Bl.obj
  | [], _, _, h => absurd h (by simp)
  | b :: r, H, 0, _ => by
    rw [ext, ext_get_old (by rw [nw_next]; omega), nw, AHeap.get_new, if_pos (by omega)]
    rfl
  | b :: r, H, i + 1, h => by
    have := ext_get_new (L := r) (H := nw H b.e b.l b.o) (i := i) (by simpa using h)
    rw [nw_next] at this
    rw [ext, show H.next + (i + 1) = H.next + 1 + i by omega, this]
    simp

theorem ext_get_far : ∀ {L : List Bl} {H : AHeap} {n : Nat}, H.next + L.length ≤ n → (ext H L).get n = H.get n
  | [], _, _, _ => rfl
  | b :: r, H, n, h => by
    rw [List.length_cons] at h
    rw [ext, ext_get_far (by rw [nw_next]; omega), nw_get _ _ _ (by omega)]

theorem ext_snoc : ∀ {L : List Bl} {H : AHeap} (e : TypeId) (l : List Value) (o : Bool), nw (ext H L) e l o = ext H (L ++ [⟨e, o, l⟩])
  | [], _, _, _, _ => rfl
  | b :: r, H, e, l, o => by rw [ext, ext_snoc, List.cons_append, ext]

theorem ext_append : ∀ {L M : List Bl} {H : AHeap}, ext (ext H L) M = ext H (L ++ M)
  | [], _, _ => rfl
  | b :: r, M, H => by rw [ext, ext_append, List.cons_append, ext]

theorem upd_new {n : Nat} {o : Option AObj} {x : AObj} (h : n < H.next) : (H.new x).upd n o = (H.upd n o).new x := by
  simp only [AHeap.upd_eq, AHeap.new_eq]
  rw [rootPut_comm _ _ _ (Nat.ne_of_gt h)]

theorem ext_upd_old : ∀ {L : List Bl} {H : AHeap} {n : Nat} {o : Option AObj}, n < H.next → (ext H L).upd n o = ext (H.upd n o) L
  | [], _, _, _, _ => rfl
  | b :: r, H, n, o, h => by
    rw [ext, ext_upd_old (by rw [nw_next]; omega), ext]
    congr 1
    exact upd_new h

theorem new_upd {o x : AObj} (h : H.base ≤ H.next) : (H.new x).upd H.next (some o) = H.new o := by
  have : Nat.blt H.next H.base = false := by
    cases hb : Nat.blt H.next H.base with
    | false => rfl
    | true => have := blt_lt hb; omega
  simp only [AHeap.upd_eq, AHeap.new_eq, rootPut_same, this, Bool.false_eq_true, if_false]

theorem ext_upd_new : ∀ {L : List Bl} {H : AHeap} {i : Nat} {b : Bl}, H.base ≤ H.next → i < L.length → (ext H L).upd (H.next + i) (some b.obj) = ext H (L.set i b)
  | [], _, _, _, _, h => absurd h (by simp)
  | c :: r, H, 0, b, hb, _ => by
    rw [ext, ext_upd_old (by rw [nw_next]; omega), List.set_cons_zero, ext]
    congr 1
    exact new_upd hb
  | c :: r, H, i + 1, b, hb, h => by
    have := ext_upd_new (L := r) (H := nw H c.e c.l c.o) (i := i) (b := b) (by rw [nw_next, nw_base]; omega) (by simpa using h)
    rw [nw_next] at this
    rw [ext, show H.next + (i + 1) = H.next + 1 + i by omega, this, List.set_cons_succ, ext]

def bk (H : AHeap) (n : Nat) : Option Bl := (cellsAt H n).map fun x => ⟨x.2.1, x.2.2, x.1.gets 0 x.1.n⟩

theorem bk_get {H G : AHeap} {n : Nat} (h : H.get n = G.get n) : bk H n = bk G n := by simp only [bk, cellsAt, h]
theorem bk_ne {n : Nat} {b : Bl} (h : bk H n = some b) : H.get n ≠ none := by
  intro hg
  simp [bk, cellsAt, hg] at h

theorem bk_blk {n : Nat} {b : Bl} (h : bk H n = some b) : Blk H n b.e b.o b.l := by
  unfold bk at h
  cases hc : cellsAt H n with
  | none => rw [hc] at h; cases h
  | some x =>
    rw [hc] at h
    obtain ⟨rv, e, o⟩ := x
    cases h
    exact ⟨rv, hc, by simp, fun i hi => by rw [RV.length_gets] at hi; rw [RV.gets_getD _ _ _ _ hi, Nat.zero_add]⟩

theorem blk_bk {n : Nat} {e : TypeId} {o : Bool} {l : List Value} (h : Blk H n e o l) : bk H n = some ⟨e, o, l⟩ := by
  obtain ⟨rv, hc, hn, hg⟩ := h
  simp only [bk, hc, Option.map_some]
  rw [hn, Blk.gets hn hg 0 l.length (by omega)]
  simp

theorem bk_old {n : Nat} (h : n < H.next) : bk (ext H L) n = bk H n := bk_get (ext_get_old h)
theorem bk_new {b i : Nat} (h : H.next = b) : bk (ext H L) (b + i) = if i < L.length then L[i]? else bk H (b + i) := by
  subst h
  by_cases hi : i < L.length
  · rw [if_pos hi]
    simp only [bk, cellsAt, ext_get_new hi]
    rw [List.getElem?_eq_getElem hi]
    simp only [Option.map_some, Bl.obj, RV.n_ofList, RV.gets_ofList]
  · rw [if_neg hi]
    exact bk_get (ext_get_far (by omega))

def qk (H : AHeap) (n : Nat) : Option Bl :=
  match H.get n with
  | some ⟨.cells _ e (_ + 1, _), o, v⟩ => some ⟨e, o, v.gets 0 v.n⟩
  | _ => none
def orr : Option Bl → Option Bl → Option Bl
  | some b, _ => some b
  | none, x => x
theorem orr_some {b : Bl} {x : Option Bl} : orr (some b) x = some b := rfl
abbrev rk (H : AHeap) (n : Nat) : Option Bl := orr (bk H n) (qk H n)
theorem qk_get {H G : AHeap} {n : Nat} (h : H.get n = G.get n) : qk H n = qk G n := by simp only [qk, h]
theorem rk_get {H G : AHeap} {n : Nat} (h : H.get n = G.get n) : rk H n = rk G n := by simp only [rk, bk_get h, qk_get h]
theorem rk_of {n : Nat} {b : Bl} (h : bk H n = some b) : rk H n = some b := by simp only [rk, h, orr]
theorem rk_eq {n : Nat} : rk H n = (cellsR H n).map fun x => ⟨x.2.1, x.2.2, x.1.gets 0 x.1.n⟩ := by
  unfold rk bk qk cellsAt cellsR
  cases H.get n with
  | none => rfl
  | some o =>
    obtain ⟨ob, op, v⟩ := o
    cases ob with
    | cells c e f =>
      obtain ⟨k, g⟩ := f
      cases k <;> rfl
    | _ => rfl
theorem rk_ne {n : Nat} {b : Bl} (h : rk H n = some b) : H.get n ≠ none := by
  intro hg
  rw [rk_eq] at h
  simp [cellsR, hg] at h
theorem rk_blk {n : Nat} {b : Bl} (h : rk H n = some b) : ∃ rv, cellsR H n = some (rv, b.e, b.o) ∧ rv.n = b.l.length ∧ ∀ i, i < b.l.length → rv.get i = b.l.getD i undef := by
  rw [rk_eq] at h
  cases hc : cellsR H n with
  | none => rw [hc] at h; cases h
  | some x =>
    rw [hc] at h
    obtain ⟨rv, e, o⟩ := x
    cases h
    exact ⟨rv, rfl, by simp, fun i hi => by rw [RV.length_gets] at hi; rw [RV.gets_getD _ _ _ _ hi, Nat.zero_add]⟩
theorem qk_old {n : Nat} (h : n < H.next) : qk (ext H L) n = qk H n := qk_get (ext_get_old h)
theorem rk_old {n : Nat} (h : n < H.next) : rk (ext H L) n = rk H n := rk_get (ext_get_old h)

def ldB (P : Program) (t : TypeId) (off : Nat) : Option Bl → Option Value
  | none => none
  | some b => (match aggT P t with
    | some true => (szOf P t).bind fun sz => if off + sz ≤ b.l.length then some (.agg ⟨(b.l.drop off).take sz⟩) else none
    | some false => b.l[off]?
    | none => none)

theorem load_bk {t : TypeId} {n off : Nat} : aLoad P H t (.pointer (some ⟨n, off, none⟩)) = ldB P t off (orr (bk H n) (qk H n)) := by
  show _ = ldB P t off (rk H n)
  cases hb : rk H n with
  | none =>
    have : cellsR H n = none := by
      rw [rk_eq] at hb
      simpa using hb
    simp only [aLoad, this, ldB, Option.bind_eq_bind, Option.bind_none]
  | some b =>
    have hblk := rk_blk hb
    simp only [ldB]
    obtain ⟨rv, h1, h2, h3⟩ := hblk
    simp only [aLoad, h1, Option.bind_eq_bind, Option.bind_some]
    cases aggT P t with
    | none => rfl
    | some x =>
      cases x with
      | false =>
        simp only [Option.bind_some]
        by_cases h : off < b.l.length
        · rw [if_pos (blt_of (by omega)), h3 off h]
          simp [List.getD, h]
        · rw [if_neg (fun e => h (by have := blt_lt e; omega)), List.getElem?_eq_none (by omega)]
      | true =>
        simp only [Option.bind_some]
        cases szOf P t with
        | none => rfl
        | some sz =>
          simp only [Option.bind_some]
          by_cases h : off + sz ≤ b.l.length
          · rw [if_pos (by rw [Nat.ble_eq]; omega), if_pos h, Blk.gets h2 h3 off sz h]
          · rw [if_neg (by rw [Nat.ble_eq]; omega), if_neg h]

theorem ld_one {t e : TypeId} {o : Bool} {l : List Value} {off : Nat} (h : aggT P t = some false) : ldB P t off (some ⟨e, o, l⟩) = l[off]? := by simp only [ldB, h]
theorem ld_agg {t e : TypeId} {o : Bool} {l : List Value} {off : Nat} (h : aggT P t = some true) : ldB P t off (some ⟨e, o, l⟩) = (szOf P t).bind fun sz => if off + sz ≤ l.length then some (.agg ((l.drop off).take sz).toArray) else none := by simp only [ldB, h]

structure WF (P : Program) (H : AHeap) : Prop where
  base : H.base ≤ H.next
  glob : P.globals.size ≤ H.next
  dom : ∀ n o, H.get n = some o → n < H.next ∧ sco H.next o

theorem WF.lt (w : WF P H) {n : Nat} {b : Bl} (h : bk H n = some b) : n < H.next := by
  cases hg : H.get n with
  | none => exact absurd hg (bk_ne h)
  | some o => exact (w.dom n o hg).1

theorem WF.sc (w : WF P H) {n : Nat} {b : Bl} (h : bk H n = some b) {v : Value} (hv : v ∈ b.l) : scb H.next v = true := by
  unfold bk at h
  cases hc : cellsAt H n with
  | none => rw [hc] at h; cases h
  | some x =>
    rw [hc] at h
    obtain ⟨rv, e, o⟩ := x
    cases h
    unfold cellsAt at hc
    split at hc
    · rename_i hg
      cases hc
      have := (w.dom n _ hg).2
      simp only [sco] at this
      simp only [RV.gets_eq, List.mem_map, List.mem_range, Nat.zero_add] at hv
      obtain ⟨i, hi, rfl⟩ := hv
      exact this i hi
    · cases hc

theorem new_ext {e : TypeId} {l : List Value} {o : Bool} (h : scbL (H.next + L.length) l = true) : aNew (ext H L) e l o = some (ext H (L ++ [⟨e, o, l⟩])) := by
  rw [aNew_nw (by rw [ext_next]; exact h), ext_snoc]

theorem write_new {b i off : Nat} {vs : List Value} {e : TypeId} {o : Bool} {l : List Value} (hH : H.next = b) (hb : H.base ≤ H.next) (hi : L[i]? = some ⟨e, o, l⟩) (hoff : off + vs.length ≤ l.length) (h1 : vs.all one = true) (h2 : scbL (b + L.length) vs = true) :
    aWrite (ext H L) (b + i) off vs = some (ext H (L.set i ⟨e, o, putL l off vs⟩)) := by
  subst hH
  have hlt : i < L.length := by
    rcases Nat.lt_or_ge i L.length with h | h
    · exact h
    · rw [List.getElem?_eq_none h] at hi; cases hi
  have hg : cellsAt (ext H L) (H.next + i) = some (RV.ofList l, e, o) := by
    simp only [cellsAt, ext_get_new hlt, hi, Option.map_some, Bl.obj]
  have hble : Nat.ble (off + vs.length) (RV.ofList l).n = true := by rw [Nat.ble_eq]; exact hoff
  simp only [aWrite, hg, Option.bind_eq_bind, Option.bind_some, hble, h1, ext_next, h2, Bool.and_self, if_true]
  rw [RV.ofList_sets l off vs hoff]
  exact congrArg some (ext_upd_new (b := ⟨e, o, putL l off vs⟩) hb hlt)

def uw (H : AHeap) (n off : Nat) (vs : List Value) : AHeap :=
  match cellsAt H n with
  | some (rv, e, o) => H.upd n (some ⟨.cells #[] e, o, rv.sets off vs⟩)
  | none => H

theorem uw_next {n off : Nat} {vs : List Value} : (uw H n off vs).next = H.next := by unfold uw; split <;> rfl
theorem uw_base {n off : Nat} {vs : List Value} : (uw H n off vs).base = H.base := by unfold uw; split <;> rfl
theorem uw_dirty {n off : Nat} {vs : List Value} {m : Nat} (h : m ∈ (uw H n off vs).dirty) : m ∈ H.dirty ∨ (m = n ∧ n < H.base) := by
  unfold uw at h
  split at h
  · simp only [AHeap.upd_eq] at h
    split at h
    · rename_i hb
      rcases List.mem_cons.1 h with h | h
      · exact .inr ⟨h, blt_lt hb⟩
      · exact .inl h
    · exact .inl h
  · exact .inl h
theorem uw_get {n off : Nat} {vs : List Value} {m : Nat} (h : m ≠ n) : (uw H n off vs).get m = H.get m := by
  unfold uw
  split
  · rw [AHeap.get_upd, if_neg h]
  · rfl
theorem bk_uw_ne {n m off : Nat} {vs : List Value} (h : m ≠ n) : bk (uw H n off vs) m = bk H m := bk_get (uw_get h)

def putB (off : Nat) (vs : List Value) (b : Bl) : Bl := ⟨b.e, b.o, putL b.l off vs⟩
theorem putB_eq {off : Nat} {vs : List Value} {e : TypeId} {o : Bool} {l : List Value} : putB off vs ⟨e, o, l⟩ = ⟨e, o, putL l off vs⟩ := rfl

theorem putL_get : ∀ (l : List Value) (off : Nat) (vs : List Value) (j : Nat), j < l.length → (putL l off vs)[j]? = if off ≤ j ∧ j < off + vs.length then vs[j - off]? else l[j]?
  | [], _, _, j, h => absurd h (by simp)
  | x :: r, 0, [], j, _ => by simp only [putL, List.length_nil, Nat.add_zero]; rw [if_neg (by omega)]
  | x :: r, 0, y :: ys, 0, _ => by simp [putL]
  | x :: r, 0, y :: ys, j + 1, h => by
    have := putL_get r 0 ys j (by simpa using h)
    simp only [putL, List.getElem?_cons_succ, List.length_cons, Nat.zero_add, Nat.zero_le, true_and, Nat.add_lt_add_iff_right, Nat.sub_zero] at this ⊢
    exact this
  | x :: r, k + 1, vs, 0, _ => by simp [putL]
  | x :: r, k + 1, vs, j + 1, h => by
    have := putL_get r k vs j (by simpa using h)
    simp only [putL, List.getElem?_cons_succ, Nat.add_le_add_iff_right, Nat.add_right_comm k 1, Nat.add_lt_add_iff_right, Nat.add_sub_add_right]
    exact this

theorem bk_uw_eq {n off : Nat} {vs : List Value} : bk (uw H n off vs) n = (bk H n).map (putB off vs) := by
  unfold bk
  cases hc : cellsAt H n with
  | none => simp [uw, hc]
  | some x =>
    obtain ⟨rv, e, o⟩ := x
    have h1 : uw H n off vs = H.upd n (some ⟨.cells #[] e, o, rv.sets off vs⟩) := by simp only [uw, hc]
    have h2 : cellsAt (uw H n off vs) n = some (rv.sets off vs, e, o) := by rw [h1]; simp [cellsAt, AHeap.get_upd]
    rw [h2]
    simp only [Option.map_some, putB, RV.n_sets]
    congr 2
    apply List.ext_getElem?
    intro j
    by_cases hj : j < rv.n
    · rw [putL_get _ _ _ _ (by simpa using hj), RV.gets_eq, RV.gets_eq]
      simp only [List.getElem?_map, List.getElem?_range hj, Option.map_some, Nat.zero_add, RV.get_sets]
      split
      · rename_i hh
        rw [List.getElem?_eq_getElem (by omega)]
        simp [List.getD, List.getElem?_eq_getElem (show j - off < vs.length by omega)]
      · rfl
    · rw [List.getElem?_eq_none (by simpa using hj), List.getElem?_eq_none (by rw [putL_length]; simpa using hj)]

theorem bk_uw {n off : Nat} {vs : List Value} {e : TypeId} {o : Bool} {l : List Value} (h : bk H n = some ⟨e, o, l⟩) (hoff : off + vs.length ≤ l.length) : bk (uw H n off vs) n = some ⟨e, o, putL l off vs⟩ := by
  obtain ⟨rv, hc, hn, hg⟩ := bk_blk h
  have : Blk (uw H n off vs) n e o (splice l off vs) := by
    simp only at hc hn hg
    refine ⟨rv.sets off vs, ?_, ?_, fun i hi => ?_⟩
    · have : uw H n off vs = H.upd n (some ⟨.cells #[] e, o, rv.sets off vs⟩) := by simp only [uw, hc]
      rw [this]
      simp [cellsAt, AHeap.get_upd]
    · rw [RV.n_sets, hn, splice_length hoff]
    · rw [splice_length hoff] at hi
      rw [RV.get_sets, splice_get hoff]
      split
      · rfl
      · exact hg i hi
  rw [putL_splice l off vs hoff]
  exact blk_bk this

theorem write_old {n off : Nat} {vs : List Value} {b : Bl} (hn : n < H.next) (h : bk H n = some b) (hoff : off + vs.length ≤ b.l.length) (h1 : vs.all one = true) (h3 : scbL (H.next + L.length) vs = true) :
    aWrite (ext H L) n off vs = some (ext (uw H n off vs) L) := by
  obtain ⟨rv, hc, hn2, _⟩ := bk_blk h
  have hc' : cellsAt (ext H L) n = some (rv, b.e, b.o) := by
    rw [← hc]; simp only [cellsAt, ext_get_old hn]
  have hb : Nat.ble (off + vs.length) rv.n = true := by rw [Nat.ble_eq]; omega
  simp only [aWrite, hc', Option.bind_eq_bind, Option.bind_some, hb, h1, ext_next, h3, Bool.and_self, if_true]
  rw [ext_upd_old hn]
  simp only [uw, hc]

def stB (P : Program) (t : TypeId) (N off : Nat) (v : Value) : Option Bl → Option Bl
  | some ⟨e, o, l⟩ => if szOf P t = some v.cells.toList.length ∧ off + v.cells.toList.length ≤ l.length ∧ v.cells.toList.all one = true ∧ scbL N v.cells.toList = true then some ⟨e, o, putL l off v.cells.toList⟩ else none
  | none => none
theorem stB_ok {t e : TypeId} {o : Bool} {l : List Value} {N off : Nat} {v : Value} (h1 : szOf P t = some v.cells.toList.length) (h2 : off + v.cells.toList.length ≤ l.length) (h3 : v.cells.toList.all one = true) (h4 : scbL N v.cells.toList = true) :
    stB P t N off v (some ⟨e, o, l⟩) = some ⟨e, o, putL l off v.cells.toList⟩ := by simp only [stB, h1, h2, h3, h4, and_self, if_true]

theorem write_none {n off : Nat} {vs : List Value} {rv : RV} {e : TypeId} {o : Bool} (hc : cellsAt H n = some (rv, e, o)) (h : ¬ (off + vs.length ≤ rv.n ∧ vs.all one = true ∧ scbL H.next vs = true)) : aWrite H n off vs = none := by
  simp only [aWrite, hc, Option.bind_eq_bind, Option.bind_some]
  rw [if_neg]
  intro hh
  simp only [Bool.and_eq_true, Nat.ble_eq] at hh
  exact h ⟨hh.1.1, hh.1.2, hh.2⟩

theorem store_new {t : TypeId} {b i off : Nat} {v : Value} (hH : H.next = b) (hb : H.base ≤ H.next) (hi : i < L.length) :
    aStore P (ext H L) t (.pointer (some ⟨b + i, off, none⟩)) v = (stB P t (b + L.length) off v L[i]?).map fun x => ext H (L.set i x) := by
  obtain ⟨⟨e, o, l⟩, hL⟩ : ∃ x, L[i]? = some x := ⟨_, List.getElem?_eq_getElem hi⟩
  rw [hL]
  simp only [stB]
  split
  · rename_i hc
    simp only [aStore, hc.1, Option.bind_eq_bind, Option.bind_some, if_true, Option.map_some]
    exact write_new hH hb hL hc.2.1 hc.2.2.1 hc.2.2.2
  · rename_i hc
    simp only [aStore, Option.bind_eq_bind, Option.map_none]
    cases hsz : szOf P t with
    | none => rfl
    | some sz =>
      simp only [Option.bind_some]
      split
      · rename_i hl
        subst hH
        refine write_none (rv := RV.ofList l) (e := e) (o := o) (by simp only [cellsAt, ext_get_new hi, hL, Option.map_some, Bl.obj]) ?_
        rw [ext_next]
        exact fun hh => hc ⟨by rw [hsz, hl], hh.1, hh.2.1, hh.2.2⟩
      · rfl

theorem store_old {t : TypeId} {n off : Nat} {v : Value} (hn : n < H.next) :
    aStore P (ext H L) t (.pointer (some ⟨n, off, none⟩)) v = (stB P t (H.next + L.length) off v (bk H n)).map fun _ => ext (uw H n off v.cells.toList) L := by
  cases hbk : bk H n with
  | none =>
    have : cellsAt H n = none := by unfold bk at hbk; simpa using hbk
    have hc' : cellsAt (ext H L) n = none := by rw [← this]; simp only [cellsAt, ext_get_old hn]
    simp only [aStore, stB, Option.bind_eq_bind, Option.map_none]
    cases szOf P t with
    | none => rfl
    | some sz => simp only [Option.bind_some, aWrite, hc', Option.bind_eq_bind, Option.bind_none, ite_self]
  | some bl =>
    obtain ⟨e, o, l⟩ := bl
    simp only [stB]
    split
    · rename_i hc
      simp only [aStore, hc.1, Option.bind_eq_bind, Option.bind_some, if_true, Option.map_some]
      exact write_old hn hbk hc.2.1 hc.2.2.1 hc.2.2.2
    · rename_i hc
      simp only [aStore, Option.bind_eq_bind, Option.map_none]
      cases hsz : szOf P t with
      | none => rfl
      | some sz =>
        simp only [Option.bind_some]
        split
        · rename_i hl
          obtain ⟨rv, hc2, hn2, _⟩ := bk_blk hbk
          refine write_none (rv := rv) (e := e) (o := o) (by rw [← hc2]; simp only [cellsAt, ext_get_old hn]) ?_
          rw [ext_next, hn2]
          exact fun hh => hc ⟨by rw [hsz, hl], hh.1, hh.2.1, hh.2.2⟩
        · rfl

end
end Go.Ax

/- Walks over abstract heaps: new blocks of a call that are dropped, kept or numbered anew. -/
namespace Go.Ax

def rnF (σ : Nat → Nat) : Fn → Fn
  | .yield l => .yield (σ l)
  | f => f

mutual
def rnV (σ : Nat → Nat) : Value → Value
  | .pointer (some a) => .pointer (some ⟨σ a.block, a.off, a.spot⟩)
  | .slice (some a) len cap => .slice (some ⟨σ a.block, a.off, a.spot⟩) len cap
  | .map (some r) => .map (some (σ r))
  | .func f a b => .func (rnF σ f) (rnA σ a) (rnA σ b)
  | .iface t v => .iface t (rnV σ v)
  | .agg cs => .agg (rnA σ cs)
  | .tuple cs => .tuple (rnA σ cs)
  | .bool b => .bool b
  | .int k n => .int k n
  | .float k b => .float k b
  | .complex k a b => .complex k a b
  | .string s => .string s
  | .pointer none => .pointer none
  | .slice none len cap => .slice none len cap
  | .map none => .map none
  | .chan none => .chan none
  | .chan (some k) => .chan (some (σ k))
  | .nilFunc => .nilFunc
  | .nilIface => .nilIface
def rnA (σ : Nat → Nat) : Array Value → Array Value
  | ⟨l⟩ => ⟨rnL σ l⟩
def rnL (σ : Nat → Nat) : List Value → List Value
  | [] => []
  | v :: r => rnV σ v :: rnL σ r
end

theorem rnL_eq (σ : Nat → Nat) : ∀ l, rnL σ l = l.map (rnV σ)
  | [] => rfl
  | v :: r => by rw [rnL, rnL_eq σ r]; rfl

def Ren.comp (ρ : Ren) (σ : Nat → Nat) : Ren := ⟨fun n => ρ.blk (σ n), fun n => ρ.sh (σ n), fun n => ρ.ex (σ n), fun n => ρ.op (σ n), fun n => ρ.op1 (σ n)⟩

theorem comp_fn (ρ : Ren) (σ : Nat → Nat) (f : Fn) : ρ.fn (rnF σ f) = (ρ.comp σ).fn f := by cases f <;> rfl

mutual
theorem comp_val (ρ : Ren) (σ : Nat → Nat) : ∀ v, ρ.val (rnV σ v) = (ρ.comp σ).val v
  | .bool _ => by rw [rnV, Ren.val, Ren.val]
  | .int _ _ => by rw [rnV, Ren.val, Ren.val]
  | .float _ _ => by rw [rnV, Ren.val, Ren.val]
  | .complex _ _ _ => by rw [rnV, Ren.val, Ren.val]
  | .string _ => by rw [rnV, Ren.val, Ren.val]
  | .pointer none => by rw [rnV, Ren.val, Ren.val]
  | .pointer (some a) => by rw [rnV, Ren.val, Ren.val]; rfl
  | .slice none _ _ => by rw [rnV, Ren.val, Ren.val]
  | .slice (some a) _ _ => by rw [rnV, Ren.val, Ren.val]; rfl
  | .map none => by rw [rnV, Ren.val, Ren.val]
  | .map (some r) => by rw [rnV, Ren.val, Ren.val]; rfl
  | .chan none => by rw [rnV, Ren.val, Ren.val]
  | .chan (some k) => by rw [rnV, Ren.val, Ren.val]; rfl
  | .func f a b => by rw [rnV, Ren.val, Ren.val, comp_valA ρ σ a, comp_valA ρ σ b, comp_fn]
  | .nilFunc => by rw [rnV, Ren.val, Ren.val]
  | .iface t v => by rw [rnV, Ren.val, Ren.val, comp_val ρ σ v]
  | .nilIface => by rw [rnV, Ren.val, Ren.val]
  | .agg cs => by rw [rnV, Ren.val, Ren.val, comp_valA ρ σ cs]
  | .tuple cs => by rw [rnV, Ren.val, Ren.val, comp_valA ρ σ cs]
theorem comp_valA (ρ : Ren) (σ : Nat → Nat) : ∀ c, ρ.valA (rnA σ c) = (ρ.comp σ).valA c
  | ⟨l⟩ => by rw [rnA, Ren.valA, Ren.valA, comp_valL ρ σ l]
theorem comp_valL (ρ : Ren) (σ : Nat → Nat) : ∀ l, ρ.valL (rnL σ l) = (ρ.comp σ).valL l
  | [] => rfl
  | v :: r => by rw [rnL, Ren.valL, Ren.valL, comp_val ρ σ v, comp_valL ρ σ r]
end

mutual
theorem rnV_low {σ : Nat → Nat} {N : Nat} (h : ∀ n, n < N → σ n = n) : ∀ v, scb N v = true → rnV σ v = v
  | .bool _, _ => by rw [rnV]
  | .int _ _, _ => by rw [rnV]
  | .float _ _, _ => by rw [rnV]
  | .complex _ _ _, _ => by rw [rnV]
  | .string _, _ => by rw [rnV]
  | .pointer none, _ => by rw [rnV]
  | .pointer (some a), hs => by
    have h' := blt_lt (by simpa [scb] using hs)
    simp only [rnV, h _ h']
  | .slice none _ _, _ => by rw [rnV]
  | .slice (some a) _ _, hs => by
    have h' := blt_lt (by simpa [scb] using hs)
    simp only [rnV, h _ h']
  | .map none, _ => by rw [rnV]
  | .map (some r), hs => by
    have h' := blt_lt (by simpa [scb] using hs)
    simp only [rnV, h _ h']
  | .chan none, _ => by rw [rnV]
  | .chan (some k), hs => by
    have h' := blt_lt (by simpa [scb] using hs)
    simp only [rnV, h _ h']
  | .func f a b, hs => by
    cases f with
    | yield l =>
      simp only [scb, Bool.and_eq_true] at hs
      simp only [rnV, rnF, h _ (blt_lt hs.1.1), rnA_low h a hs.1.2, rnA_low h b hs.2]
    | _ =>
      simp only [scb, Bool.and_eq_true] at hs
      simp only [rnV, rnF, rnA_low h a hs.1, rnA_low h b hs.2]
  | .nilFunc, _ => by rw [rnV]
  | .iface t v, hs => by rw [rnV, rnV_low h v (by simpa [scb] using hs)]
  | .nilIface, _ => by rw [rnV]
  | .agg cs, hs => by rw [rnV, rnA_low h cs (by simpa [scb] using hs)]
  | .tuple cs, hs => by rw [rnV, rnA_low h cs (by simpa [scb] using hs)]
theorem rnA_low {σ : Nat → Nat} {N : Nat} (h : ∀ n, n < N → σ n = n) : ∀ c, scbA N c = true → rnA σ c = c
  | ⟨l⟩, hs => by rw [rnA, rnL_low h l (by simpa [scbA] using hs)]
theorem rnL_low {σ : Nat → Nat} {N : Nat} (h : ∀ n, n < N → σ n = n) : ∀ l, scbL N l = true → rnL σ l = l
  | [], _ => rfl
  | v :: r, hs => by
    simp only [scbL, Bool.and_eq_true] at hs
    rw [rnL, rnV_low h v hs.1, rnL_low h r hs.2]
end

def CellsRn (σ : Nat → Nat) (o1 o2 : AObj) : Prop :=
  (∃ c e k z c' z', o1.obj = .cells c e (k, z) ∧ o2.obj = .cells c' e (k, z')) ∧ o1.opn = o2.opn ∧ o1.rv.n = o2.rv.n ∧ ∀ i, i < o2.rv.n → o1.rv.get i = rnV σ (o2.rv.get i)

theorem fits_rn {P : Program} {ρ : Ren} {σ : Nat → Nat} {n : Nat} {o1 o2 : AObj} {o' : Obj} (h : Fits P ρ (σ n) o1 o') (hc : CellsRn σ o1 o2) : Fits P (ρ.comp σ) n o2 o' := by
  obtain ⟨⟨c, e, k, z, c', z', h1, h2⟩, h3, h4, h5⟩ := hc
  unfold Fits at h ⊢
  rw [h1] at h
  rw [h2]
  obtain ⟨d, fz, hd, hv, ha, hb⟩ := h
  refine ⟨d, fz, hd, fun i hi => ?_, ?_, ?_⟩
  · have := hv i (by omega)
    rw [h5 i hi, comp_val] at this
    exact this
  · rw [h3, h4] at ha
    exact ha
  · rw [h3, h4] at hb
    exact hb

theorem frz_rn {σ : Nat → Nat} {o1 o2 : AObj} (hc : CellsRn σ o1 o2) : frz o2 = frz o1 := by
  obtain ⟨⟨c, e, k, z, c', z', h1, h2⟩, h3, _⟩ := hc
  obtain ⟨a, b, d⟩ := o1
  obtain ⟨a', b', d'⟩ := o2
  simp only at h1 h2 h3
  subst h1 h2 h3
  cases k <;> cases b <;> rfl

section
variable {P : Program} {H H1 H2 : AHeap} {f : FuncId} {args : List Value}

structure Rn (σ : Nat → Nat) (H H1 H2 : AHeap) : Prop where
  low : ∀ n, n < H.next → σ n = n
  next : H.next ≤ H2.next
  base : H2.base = H.base
  dirty : ∀ n, n ∈ H.dirty → n ∈ H2.dirty
  dirt1 : ∀ n, n ∈ H1.dirty → n ∈ H2.dirty
  get : ∀ n o2, H2.get n = some o2 → (n < H.next ∧ H.get n = some o2 ∧ H1.get n = some o2) ∨
    (n < H2.next ∧ sco H2.next o2 ∧ (n < H.base → n ∈ H2.dirty) ∧ (n < H.next → H.get n ≠ none) ∧ (H.next ≤ n → H.next ≤ σ n) ∧ ∃ o1, H1.get (σ n) = some o1 ∧ CellsRn σ o1 o2)
  keep : ∀ n, n < H.base → H2.get n = none → H.get n = none ∨ n ∈ H2.dirty
  inj : ∀ m n, H2.get m ≠ none → H2.get n ≠ none → σ m = σ n → m = n
  ro : ∀ n, Fz (H.get n) → (n ∈ H2.dirty → n ∈ H.dirty ∨ n ∈ H1.dirty) ∧ (H1.get n = H.get n → H2.get n = H.get n)

theorem sco_mono {N M : Nat} (h : N ≤ M) {o : AObj} (hs : sco N o) : sco M o := by
  unfold sco at *
  split at hs
  · exact fun i hi => scb_mono h _ (hs i hi)
  · exact fun e he => ⟨(hs e he).1, scb_mono h _ (hs e he).2⟩
  · exact ⟨by omega, fun i hi => scb_mono h _ (hs.2 i hi)⟩
  · trivial

theorem Rel.wf {ρ : Ren} {w : World} (r : Rel P ρ H w) : WF P H := ⟨r.base, r.glob.1, r.dom⟩

theorem Rn.st {σ : Nat → Nat} {ρ ρ1 : Ren} {w w1 : World} (c : Rn σ H H1 H2) (r : Rel P ρ H w) (s : St P ρ H w ρ1 H1 w1) : St P ρ H w (ρ1.comp σ) H2 w1 := by
  have ext1 : Ext H.next ρ1 (ρ1.comp σ) := ⟨fun n hn => by simp only [Ren.comp, c.low n hn], fun n hn => by simp only [Ren.comp, c.low n hn], fun n hn => by simp only [Ren.comp, c.low n hn], fun n hn => by simp only [Ren.comp, c.low n hn]⟩
  have g1 : ∀ n, H2.get n ≠ none → H1.get (σ n) ≠ none := by
    intro n hn
    cases h2 : H2.get n with
    | none => exact absurd h2 hn
    | some o2 =>
      rcases c.get n o2 h2 with ⟨hlt, _, h1⟩ | ⟨_, _, _, _, _, o1, h1, _⟩
      · rw [c.low n hlt, h1]; simp
      · rw [h1]; simp
  refine ⟨s.ext.trans ext1 (Nat.le_refl _), ⟨c.next, c.base, c.dirty, fun n hb hd => ?_, fun n hn hg => ?_⟩, ⟨?_, ?_, ?_, ?_, ?_⟩, s.os, s.tape, s.output, s.size, ?_, ?_, fun n hz => ?_⟩
  · cases h2 : H2.get n with
    | none =>
      rcases c.keep n hb h2 with h | h
      · rw [h]
      · exact absurd h hd
    | some o2 =>
      rcases c.get n o2 h2 with ⟨_, h, _⟩ | ⟨_, _, h, _⟩
      · rw [h]
      · exact absurd (h hb) hd
  · cases h2 : H2.get n with
    | none => rfl
    | some o2 =>
      rcases c.get n o2 h2 with ⟨_, h, _⟩ | ⟨_, _, _, h, _⟩
      · rw [hg] at h; cases h
      · exact absurd hg (h hn)
  · have := r.base; have := c.next; rw [c.base]; omega
  · refine ⟨Nat.le_trans r.glob.1 c.next, fun g hg => ?_⟩
    have hlt : g < H.next := Nat.lt_of_lt_of_le hg r.glob.1
    have := s.rel.glob.2 g hg
    simp only [Ren.comp, c.low g hlt]
    exact this
  · intro m n hm hn he
    have back : ∀ m, H2.get m ≠ none → Fz (H1.get (σ m)) → Fz (H2.get m) := fun m hm hz => by
      cases h2 : H2.get m with
      | none => exact absurd h2 hm
      | some o2 =>
        obtain ⟨o, ho, hf⟩ := hz
        rcases c.get m o2 h2 with ⟨hlt, _, h1⟩ | ⟨_, _, _, _, _, o1, h1, hc⟩
        · rw [c.low m hlt, h1] at ho
          cases ho
          exact ⟨_, rfl, hf⟩
        · rw [h1] at ho
          cases ho
          exact ⟨_, rfl, (frz_rn hc).trans hf⟩
    exact (s.rel.inj _ _ (g1 m hm) (g1 n hn) he).imp (c.inj m n hm hn) fun ⟨a, b⟩ => ⟨back m hm a, back n hn b⟩
  · intro n o2 h2
    rcases c.get n o2 h2 with ⟨hlt, h, _⟩ | ⟨h1, h2', _⟩
    · exact ⟨Nat.lt_of_lt_of_le hlt c.next, sco_mono c.next (r.dom n o2 h).2⟩
    · exact ⟨h1, h2'⟩
  · intro n o2 h2
    rcases c.get n o2 h2 with ⟨hlt, h, h1⟩ | ⟨_, _, _, _, _, o1, h1, hc⟩
    · obtain ⟨o', ho, hf⟩ := s.rel.obj n o2 h1
      exact ⟨o', by simp only [Ren.comp, c.low n hlt]; exact ho, hf.ext hlt (r.dom n o2 h).2 ext1⟩
    · obtain ⟨o', ho, hf⟩ := s.rel.obj (σ n) o1 h1
      exact ⟨o', ho, fits_rn hf hc⟩
  · intro b hb hh
    exact s.old b hb fun n hn hd hg => hh n hn (hd.imp id (c.dirt1 n)) hg
  · intro n hn hg
    have hσ : H.next ≤ σ n := by
      cases h2 : H2.get n with
      | none => exact absurd h2 hg
      | some o2 =>
        rcases c.get n o2 h2 with ⟨hlt, _⟩ | ⟨_, _, _, _, h, _⟩
        · omega
        · exact h hn
    rcases s.fresh (σ n) hσ (g1 n hg) with h | ⟨m, h1, h2, h3, h4⟩
    · exact .inl h
    · exact .inr ⟨m, h1, h2, h3.imp id (c.dirt1 m), h4⟩
  · obtain ⟨a, b⟩ := c.ro n hz
    obtain ⟨a', b'⟩ := s.ro n hz
    exact ⟨fun h => (a h).elim id a', b b'⟩

theorem CallS.rn {σ : Nat → Nat} {v : Value} (h : CallS P f args H (.ok (rnV σ v)) H1) (c : WF P H → Rn σ H H1 H2) (hv : scb H2.next v = true) : CallS P f args H (.ok v) H2 := by
  intro ρ w r hsc F n R hF hR
  refine h ρ w r hsc F n R hF fun ρ1 w1 s _ => ?_
  have := hR (ρ1.comp σ) w1 ((c r.wf).st r s) hv
  rw [comp_val]
  exact this

theorem Rn.drop {L : List Bl} (w : WF P H) : Rn id H (ext H L) H where
  low := fun _ _ => rfl
  next := Nat.le_refl _
  base := rfl
  dirty := fun _ h => h
  dirt1 := fun n h => by rw [ext_dirty] at h; exact h
  get := fun n o2 h => .inl ⟨(w.dom n o2 h).1, h, by rw [ext_get_old (w.dom n o2 h).1, h]⟩
  keep := fun n _ h => .inl h
  inj := fun m n _ _ h => h
  ro := fun n _ => ⟨.inl, fun _ => rfl⟩

theorem rnV_id {N : Nat} {v : Value} (h : scb N v = true) : rnV id v = v := rnV_low (fun _ _ => rfl) v h

theorem CallS.drop {L : List Bl} {v : Value} (h : CallS P f args H (.ok v) (ext H L)) (hv : scb H.next v = true) : CallS P f args H (.ok v) H := by
  refine CallS.rn (σ := id) (H1 := ext H L) ?_ Rn.drop hv
  rw [rnV_id hv]; exact h

def kp (N : Nat) (ks : List Nat) (n : Nat) : Nat := if n < N then n else N + ks.getD (n - N) 0

theorem Rn.kept {L L2 : List Bl} {ks : List Nat} (w : WF P H) (hlen : ks.length = L2.length) (hnd : ks.Nodup)
    (hk : ∀ i b2, L2[i]? = some b2 → ∃ b1, L[ks.getD i 0]? = some b1 ∧ b1.e = b2.e ∧ b1.o = b2.o ∧ b1.l = b2.l.map (rnV (kp H.next ks))) (hs : ∀ b2 ∈ L2, scbL (H.next + L2.length) b2.l = true) : Rn (kp H.next ks) H (ext H L) (ext H L2) := by
  have hnew : ∀ n o2, H.next ≤ n → (ext H L2).get n = some o2 → ∃ i b2, n = H.next + i ∧ L2[i]? = some b2 ∧ o2 = b2.obj := by
    intro n o2 hn h
    obtain ⟨i, rfl⟩ : ∃ i, n = H.next + i := ⟨n - H.next, by omega⟩
    by_cases hi : i < L2.length
    · rw [ext_get_new hi, List.getElem?_eq_getElem hi] at h
      simp only [Option.map_some, Option.some.injEq] at h
      exact ⟨i, L2[i], rfl, List.getElem?_eq_getElem hi, h.symm⟩
    · rw [ext_get_far (by omega)] at h
      have := (w.dom _ _ h).1
      omega
  have hkp : ∀ i, kp H.next ks (H.next + i) = H.next + ks.getD i 0 := by
    intro i
    unfold kp
    rw [if_neg (by omega), Nat.add_sub_cancel_left]
  refine ⟨fun n hn => by unfold kp; rw [if_pos hn], by rw [ext_next]; omega, by rw [ext_base], fun n h => by rw [ext_dirty]; exact h, fun n h => by rw [ext_dirty] at h ⊢; exact h, ?_, ?_, ?_, fun n hz => ⟨fun h => .inl (by rw [ext_dirty] at h; exact h), fun _ => ext_get_old (by
    obtain ⟨o, ho, _⟩ := hz
    exact (w.dom n o ho).1)⟩⟩
  · intro n o2 h
    rcases Nat.lt_or_ge n H.next with hn | hn
    · rw [ext_get_old hn] at h
      exact .inl ⟨hn, h, by rw [ext_get_old hn, h]⟩
    · obtain ⟨i, b2, rfl, hb2, rfl⟩ := hnew n o2 hn h
      have hi : i < L2.length := by
        rcases Nat.lt_or_ge i L2.length with h | h
        · exact h
        · rw [List.getElem?_eq_none h] at hb2; cases hb2
      obtain ⟨b1, h1, h2, h3, h4⟩ := hk i b2 hb2
      have hlt : ks.getD i 0 < L.length := by
        rcases Nat.lt_or_ge (ks.getD i 0) L.length with h | h
        · exact h
        · rw [List.getElem?_eq_none h] at h1; cases h1
      refine .inr ⟨by rw [ext_next]; omega, ?_, fun hb => absurd w.base (by omega), fun h => absurd h (by omega), fun _ => by rw [hkp]; omega, b1.obj, ?_, ?_⟩
      · simp only [Bl.obj, sco, RV.n_ofList]
        intro j hj
        rw [RV.get_ofList, ext_next]
        have := hs b2 (List.mem_of_getElem? hb2)
        have hall : ∀ (l : List Value), scbL (H.next + L2.length) l = true → ∀ j, j < l.length → scb (H.next + L2.length) (l.getD j undef) = true := by
          intro l
          induction l with
          | nil => intro _ j hj; simp at hj
          | cons x r ih =>
            intro hl j hj
            simp only [scbL, Bool.and_eq_true] at hl
            cases j with
            | zero => simpa using hl.1
            | succ j =>
              have := ih hl.2 j (by simpa using hj)
              simpa using this
        exact hall _ this j hj
      · rw [hkp, ext_get_new hlt, h1]; rfl
      · refine ⟨⟨#[], b1.e, 0, 0, #[], 0, rfl, by rw [h2]; rfl⟩, h3, ?_, ?_⟩
        · simp only [Bl.obj, RV.n_ofList, h4, List.length_map]
        · intro j hj
          simp only [Bl.obj, RV.n_ofList] at hj
          simp only [Bl.obj, RV.get_ofList, h4, List.getD, List.getElem?_map, List.getElem?_eq_getElem hj, Option.map_some, Option.getD_some]
  · intro n hb h
    have hn : n < H.next := Nat.lt_of_lt_of_le hb w.base
    rw [ext_get_old hn] at h
    exact .inl h
  · have cls : ∀ n, (ext H L2).get n ≠ none → n < H.next ∨ ∃ i, n = H.next + i ∧ i < L2.length := by
      intro n hn
      rcases Nat.lt_or_ge n H.next with h | h
      · exact .inl h
      · cases hg : (ext H L2).get n with
        | none => exact absurd hg hn
        | some o2 =>
          obtain ⟨i, b2, rfl, hb2, _⟩ := hnew n o2 h hg
          refine .inr ⟨i, rfl, ?_⟩
          rcases Nat.lt_or_ge i L2.length with h | h
          · exact h
          · rw [List.getElem?_eq_none h] at hb2; cases hb2
    intro m n hm hn he
    rcases cls m hm with h1 | ⟨i, rfl, hi⟩ <;> rcases cls n hn with h2 | ⟨j, rfl, hj⟩
    · unfold kp at he; rw [if_pos h1, if_pos h2] at he; exact he
    · rw [hkp] at he; unfold kp at he; rw [if_pos h1] at he; omega
    · rw [hkp] at he; unfold kp at he; rw [if_pos h2] at he; omega
    · rw [hkp, hkp] at he
      have hij : ks.getD i 0 = ks.getD j 0 := by omega
      simp only [List.getD, List.getElem?_eq_getElem (show i < ks.length by omega), List.getElem?_eq_getElem (show j < ks.length by omega), Option.getD_some] at hij
      have hp := List.pairwise_iff_getElem.1 hnd
      rcases Nat.lt_trichotomy i j with h | h | h
      · exact absurd hij (hp i j (by omega) (by omega) h)
      · rw [h]
      · exact absurd hij.symm (hp j i (by omega) (by omega) h)

theorem CallS.keep {L L2 : List Bl} (ks : List Nat) {v : Value} (h : CallS P f args H (.ok (rnV (kp H.next ks) v)) (ext H L)) (hlen : ks.length = L2.length) (hnd : ks.Nodup)
    (hk : ∀ i b2, L2[i]? = some b2 → ∃ b1, L[ks.getD i 0]? = some b1 ∧ b1.e = b2.e ∧ b1.o = b2.o ∧ b1.l = b2.l.map (rnV (kp H.next ks))) (hs : ∀ b2 ∈ L2, scbL (H.next + L2.length) b2.l = true) (hv : scb (H.next + L2.length) v = true) :
    CallS P f args H (.ok v) (ext H L2) :=
  CallS.rn h (fun w => Rn.kept w hlen hnd hk hs) (by rw [ext_next]; exact hv)

theorem CallS.keep1 {L : List Bl} {k : Nat} {b : Bl} {v v1 : Value} (h : CallS P f args H (.ok v1) (ext H L)) (hv1 : v1 = rnV (kp H.next [k]) v) (hk : L[k]? = some b) (hs : scbL H.next b.l = true) (hv : scb (H.next + 1) v = true) :
    CallS P f args H (.ok v) (ext H [b]) := by
  subst hv1
  refine CallS.keep [k] h rfl (by simp) (fun i b2 hi => ?_) (fun b2 hb => ?_) hv
  · match i, hi with
    | 0, hi =>
      simp only [List.getElem?_cons_zero, Option.some.injEq] at hi
      subst hi
      refine ⟨b, by simpa using hk, rfl, rfl, ?_⟩
      rw [← rnL_eq, rnL_low (N := H.next) (fun n hn => by unfold kp; rw [if_pos hn]) _ hs]
    | i + 1, hi => simp at hi
  · simp only [List.mem_singleton] at hb
    subst hb
    exact scbL_mono (by simp) _ hs

def Fin (P : Program) (f : FuncId) (args : List Value) (H : AHeap) (v : Value) (H2 : AHeap) : Out → AHeap → Prop := fun out H1 => CallS P f args H out H1 → CallS P f args H (.ok v) H2

theorem Fin.same {v : Value} : Fin P f args H v H2 (.ok v) H2 := fun h => h
theorem Fin.pure {L : List Bl} {v : Value} (hv : scb H.next v = true) : Fin P f args H v H (.ok v) (ext H L) := fun h => h.drop hv
theorem Fin.pureE {L : List Bl} {v v1 : Value} (he : v1 = v) (hv : scb H.next v = true) : Fin P f args H v H (.ok v1) (ext H L) := by rw [he]; exact Fin.pure hv
theorem Fin.one {L : List Bl} {b : Bl} {v v1 : Value} (k : Nat) (hv1 : v1 = rnV (kp H.next [k]) v) (hk : L[k]? = some b) (hs : scbL H.next b.l = true) (hv : scb (H.next + 1) v = true) : Fin P f args H v (ext H [b]) (.ok v1) (ext H L) := fun h => h.keep1 hv1 hk hs hv

theorem callS_fn (hmix : P.follows .mixedOrders = true) {fn : Func} {c : Code} {N : Nat} {v : Value} (hfn : P.funcs[f]? = some fn) (hc : fn.body = some c) (hN : fn.ntmps = N) (hle : args.length ≤ N)
    (h : WF P H → scbL H.next args = true → wpA P none c (endA P fn (Fin P f args H v H2)) (mkA N (entryE env0 0 args) []) (ext H [])) : CallS P f args H (.ok v) H2 := by
  intro ρ w r hsc
  obtain ⟨out, H1, h1, h2⟩ := callA_fn hmix hfn hc hN hle (h r.wf hsc)
  exact h2 h1 ρ w r hsc

theorem callE_fn (hmix : P.follows .mixedOrders = true) {fn : Func} {c : Code} {N : Nat} {R : Out → AHeap → Prop} (hfn : P.funcs[f]? = some fn) (hc : fn.body = some c) (hN : fn.ntmps = N) (hle : args.length ≤ N)
    (h : wpA P none c (endA P fn R) (mkA N (entryE env0 0 args) []) (ext H [])) : CallA P f args H R := callA_fn hmix hfn hc hN hle h

theorem CallS.to {v : Value} {R : Out → AHeap → Prop} (h : CallS P f args H (.ok v) H1) (k : R (.ok v) H1) : CallA P f args H R := ⟨_, _, h, k⟩

end
end Go.Ax

/- Walks over abstract heaps: rules for rewriting on heaps with new blocks. -/
namespace Go.Ax
section
variable {P : Program} {ro : Option Nat} {H : AHeap} {L : List Bl} {N : Nat} {E : Env} {ds : List Deferred}

def leaveO (R : Out → AHeap → Prop) (H : AHeap) : Option (List Value) → Prop
  | some vs => R (.ok (tup vs)) H
  | none => False
theorem leaveO_some {R : Out → AHeap → Prop} {vs : List Value} : leaveO R H (some vs) = R (.ok (tup vs)) H := by simp only [leaveO]
theorem lv_nil {fn : Func} {a : AAct} {R : Out → AHeap → Prop} : leaveA P fn a [] .returning H R = leaveO R H (resVal P H a fn.results.toList) := by
  simp only [leaveA]
  cases resVal P H a fn.results.toList with
  | none => simp [leaveO]
  | some vs => simp [leaveO]
theorem rs_nil : resVal P H (mkA N E ds) [] = some [] := by simp only [resVal]
theorem rs_tmp {t : Nat} {rs : List ResultVar} (ht : t < N) : resVal P H (mkA N E ds) (.tmp t :: rs) = (resVal P H (mkA N E ds) rs).map (E t :: ·) := by
  simp only [resVal, Option.bind_eq_bind, tmp_mk N E ds t ht]
  cases resVal P H (mkA N E ds) rs <;> rfl
theorem rs_cell {t : Nat} {u : TypeId} {rs : List ResultVar} (ht : t < N) : resVal P H (mkA N E ds) (.cell t u :: rs) = (aLoad P H u (E t)).bind fun v => (resVal P H (mkA N E ds) rs).map (v :: ·) := by
  simp only [resVal, Option.bind_eq_bind, tmp_mk N E ds t ht]
  cases aLoad P H u (E t) with
  | none => rfl
  | some v => cases resVal P H (mkA N E ds) rs <;> rfl
theorem tup_nil : tup [] = .tuple ⟨[]⟩ := by simp only [tup]
theorem tup_one {v : Value} : tup [v] = v := by simp only [tup]
theorem tup_two {v u : Value} {r : List Value} : tup (v :: u :: r) = .tuple ⟨v :: u :: r⟩ := by simp only [tup]

theorem cells_int {k : IntKind} {n : Int} : (Value.int k n).cells.toList = [.int k n] := by simp only [Value.cells]
theorem cells_bool {b : Bool} : (Value.bool b).cells.toList = [.bool b] := by simp only [Value.cells]
theorem cells_ptr {a : Option Addr} : (Value.pointer a).cells.toList = [.pointer a] := by simp only [Value.cells]
theorem cells_slice {a : Option Addr} {n c : Nat} : (Value.slice a n c).cells.toList = [.slice a n c] := by simp only [Value.cells]
theorem cells_iface {t : TypeId} {v : Value} : (Value.iface t v).cells.toList = [.iface t v] := by simp only [Value.cells]
theorem cells_niliface : (Value.nilIface).cells.toList = [.nilIface] := by simp only [Value.cells]
theorem cells_string {s : ByteArray} : (Value.string s).cells.toList = [.string s] := by simp only [Value.cells]
theorem cells_func {f : Fn} {a b : Array Value} : (Value.func f a b).cells.toList = [.func f a b] := by simp only [Value.cells]
theorem cells_nilfunc : (Value.nilFunc).cells.toList = [.nilFunc] := by simp only [Value.cells]
theorem cells_agg {l : List Value} : (Value.agg ⟨l⟩).cells.toList = l := by simp only [Value.cells]
theorem cells_sg {v : Value} (h : one v = true) : v.cells.toList = [v] := by cases v <;> first | rfl | cases h
theorem allOne_nil : ([] : List Value).all one = true := by simp only [List.all_nil]
theorem allOne_cons {v : Value} {l : List Value} : (v :: l).all one = (one v && l.all one) := by simp only [List.all_cons]
theorem one_int {k : IntKind} {n : Int} : one (.int k n) = true := by simp only [one]
theorem one_bool {b : Bool} : one (.bool b) = true := by simp only [one]
theorem one_ptr {a : Option Addr} : one (.pointer a) = true := by simp only [one]
theorem one_slice {a : Option Addr} {n c : Nat} : one (.slice a n c) = true := by simp only [one]
theorem one_iface {t : TypeId} {v : Value} : one (.iface t v) = true := by simp only [one]
theorem one_niliface : one .nilIface = true := by simp only [one]
theorem one_string {s : ByteArray} : one (.string s) = true := by simp only [one]
theorem one_func {f : Fn} {a b : Array Value} : one (.func f a b) = true := by simp only [one]
theorem one_nilfunc : one .nilFunc = true := by simp only [one]
theorem sc_nil {M : Nat} : scbL M [] = true := by simp only [scbL]
theorem sc_cons {M : Nat} {v : Value} {l : List Value} : scbL M (v :: l) = (scb M v && scbL M l) := by simp only [scbL]
theorem sc_int {M : Nat} {k : IntKind} {n : Int} : scb M (.int k n) = true := by simp only [scb]
theorem sc_bool {M : Nat} {b : Bool} : scb M (.bool b) = true := by simp only [scb]
theorem sc_string {M : Nat} {s : ByteArray} : scb M (.string s) = true := by simp only [scb]
theorem sc_nilptr {M : Nat} : scb M (.pointer none) = true := by simp only [scb]
theorem sc_nilslice {M n c : Nat} : scb M (.slice none n c) = true := by simp only [scb]
theorem sc_niliface {M : Nat} : scb M .nilIface = true := by simp only [scb]
theorem sc_nilfunc {M : Nat} : scb M .nilFunc = true := by simp only [scb]
theorem sc_iface {M : Nat} {t : TypeId} {v : Value} : scb M (.iface t v) = scb M v := by simp only [scb]
theorem sc_agg {M : Nat} {l : List Value} : scb M (.agg ⟨l⟩) = scbL M l := by simp only [scb, scbA]
theorem sc_tuple {M : Nat} {l : List Value} : scb M (.tuple ⟨l⟩) = scbL M l := by simp only [scb, scbA]
theorem sc_func {M : Nat} {f : FuncId} {a b : List Value} : scb M (.func (.func f) ⟨a⟩ ⟨b⟩) = (scbL M a && scbL M b) := by simp only [scb, scbA]
theorem sc_yield {M n : Nat} (h : n < M) : scb M (.func (.yield n) ⟨[]⟩ ⟨[]⟩) = true := by simp only [scb, scbA, scbL, blt_of h, Bool.and_self]
theorem sc_ptr {M n off : Nat} {s : Option Nat} (h : n < M) : scb M (.pointer (some ⟨n, off, s⟩)) = true := by simp only [scb, blt_of h]
theorem sc_slice {M n off l c : Nat} {s : Option Nat} (h : n < M) : scb M (.slice (some ⟨n, off, s⟩) l c) = true := by simp only [scb, blt_of h]
theorem sc_add {b k : Nat} {v : Value} (h : scb b v = true) : scb (b + k) v = true := scb_mono (Nat.le_add_right _ _) v h
theorem sc_addL {b k : Nat} {l : List Value} (h : scbL b l = true) : scbL (b + k) l = true := scbL_mono (Nat.le_add_right _ _) l h

theorem lt_new {b i k : Nat} : (b + i < b + k) = (i < k) := by simp
theorem lt_old {n b k : Nat} (h : n < b) : (n < b + k) = True := by simp; omega
theorem ne_new {b i k : Nat} : (b + i = b + k) = (i = k) := by simp
theorem ne_old {n b k : Nat} (h : n < b) : (n = b + k) = False := by simp; omega
theorem ne_old' {n b k : Nat} (h : n < b) : (b + k = n) = False := by simp; omega
theorem add_add {b i k : Nat} : b + i + k = b + (i + k) := Nat.add_assoc b i k

theorem bk_at {b i : Nat} (h : H.next = b) (hi : i < L.length) : bk (ext H L) (b + i) = L[i]? := by rw [bk_new h, if_pos hi]
theorem ld_aggOk {t e : TypeId} {o : Bool} {l : List Value} {off sz : Nat} (h : aggT P t = some true) (hs : szOf P t = some sz) : ldB P t off (some ⟨e, o, l⟩) = if off + sz ≤ l.length then some (.agg ⟨(l.drop off).take sz⟩) else none := by
  simp only [ldB, h, hs, Option.bind_some]
theorem new_nw {e : TypeId} {l : List Value} {o : Bool} : nw (ext H L) e l o = ext H (L ++ [⟨e, o, l⟩]) := ext_snoc e l o

theorem meets_cons {anc : Nat} {F W O : List Nat} {r0 : Fp} {fps : List Fp} : (∀ r ∈ r0 :: fps, Meets anc F W O r) = (Meets anc F W O r0 ∧ ∀ r ∈ fps, Meets anc F W O r) := by simp
theorem meets_eq {anc j n : Nat} {F W O F' W' : List Nat} : Meets anc F W O ⟨j, F', W', n, n⟩ = (anc.testBit j = true ∨ ((∀ n ∈ W', n ∉ F) ∧ (∀ n ∈ F', n ∉ W))) := by simp [Meets]
theorem meets_newer {anc j lo hi : Nat} {F W O F' W' : List Nat} : Meets anc F W O ⟨j, F', W', lo, hi⟩ = (anc.testBit j = true ∨ ((∀ n ∈ W', n ∉ F) ∧ (∀ n ∈ F', n ∉ W) ∧ (lo < hi → (∀ n ∈ F, n < lo ∨ hi ≤ n) ∧ (∀ n ∈ O, n < lo ∨ hi ≤ n)))) := by simp only [Meets]
theorem ids_new {b i : Nat} (h : H.next = b) (hi : i < L.length) : idsAt (ext H L) (b + i) = (match L[i]? with
    | some x => idsL x.l
    | none => []) := by
  subst h
  simp only [idsAt, ext_get_new hi, List.getElem?_eq_getElem hi, Option.map_some, Bl.obj, idsO, RV.n_ofList, RV.gets_ofList]

theorem w_drawB {Q : Exit → AAct → AHeap → Prop} {id : Nat} {l : List Oper} {a : AAct} (bits gs : List (Nat × Nat)) (hst : staticOk ⟨l⟩ = true) (hb : (bits.all fun p => ((ancs ⟨l⟩).getD p.1 0).testBit p.2) = true) (hg : (gs.all fun p => dstOf ⟨l⟩ p.1 == some p.2) = true)
    (h : ∀ ops anc, (∀ p ∈ bits, (anc.getD p.1 0).testBit p.2 = true) → (∀ p ∈ gs, dstOf ops p.1 = some p.2) → wkD P ops anc l 0 [] a H (Q .normal)) : wpA P ro (.region id ⟨l⟩ true) Q a H :=
  w_draw hst (h _ _ (fun p hp => by simpa using List.all_eq_true.1 hb p hp) (fun p hp => by simpa using List.all_eq_true.1 hg p hp))

def lastO (P : Program) (ro : Option Nat) (ops : Array Oper) : List Oper → AAct → AHeap → (Exit → AAct → AHeap → Prop) → Prop
  | [], _, _, _ => False
  | [o], a, H, Q => o.guard = none ∧ isDef o.op = false ∧ wpOps P ro ops [o] a H Q
  | _ :: o :: l, a, H, Q => lastO P ro ops (o :: l) a H Q
theorem lastO_one {ops : Array Oper} {d : Option Nat} {op : Op} {ty : TypeId} {pos : String} {after : Array Edge} {a : AAct} {Q : Exit → AAct → AHeap → Prop} : lastO P ro ops [⟨d, op, ty, pos, after, none⟩] a H Q = (isDef op = false ∧ wpOps P ro ops [⟨d, op, ty, pos, after, none⟩] a H Q) := by simp only [lastO, true_and]
theorem lastO_cons {ops : Array Oper} {o o2 : Oper} {l : List Oper} {a : AAct} {Q : Exit → AAct → AHeap → Prop} : lastO P ro ops (o :: o2 :: l) a H Q = lastO P ro ops (o2 :: l) a H Q := by simp only [lastO]
theorem dropLast_one {o : Oper} : [o].dropLast = [] := by simp only [List.dropLast]
theorem dropLast_more {o o2 : Oper} {l : List Oper} : (o :: o2 :: l).dropLast = o :: (o2 :: l).dropLast := by simp only [List.dropLast]
theorem isDef_call {c : Call} : isDef (.call c) = false := by simp only [isDef]
theorem ff_eq : (false = false) = True := by simp

theorem lastO_last (P : Program) (ro : Option Nat) (ops : Array Oper) : ∀ l : List Oper, l ≠ [] → ∃ o, l = l.dropLast ++ [o] ∧ ∀ (a : AAct) (H : AHeap) (Q : Exit → AAct → AHeap → Prop), lastO P ro ops l a H Q → o.guard = none ∧ isDef o.op = false ∧ wpOps P ro ops [o] a H Q
  | [], h => absurd rfl h
  | [o], _ => ⟨o, rfl, fun a H Q h => h⟩
  | o :: o2 :: l, _ => by
    obtain ⟨q, h1, h2⟩ := lastO_last P ro ops (o2 :: l) (by simp)
    refine ⟨q, ?_, fun a H Q h => by rw [lastO_cons] at h; exact h2 a H Q h⟩
    rw [dropLast_more, List.cons_append, ← h1]

theorem w_drawP {Q : Exit → AAct → AHeap → Prop} {id : Nat} {l : List Oper} {a : AAct} (bits gs : List (Nat × Nat)) (hst : staticOk ⟨l⟩ = true) (hanc : ((List.range (l.length - 1)).all (fun j => ((ancs ⟨l⟩).getD (l.length - 1) 0).testBit j)) = true) (hb : (bits.all fun p => ((ancs ⟨l⟩).getD p.1 0).testBit p.2) = true) (hg : (gs.all fun p => dstOf ⟨l⟩ p.1 == some p.2) = true)
    (h : ∀ ops anc, (∀ p ∈ bits, (anc.getD p.1 0).testBit p.2 = true) → (∀ p ∈ gs, dstOf ops p.1 = some p.2) → wkD P ops anc l.dropLast 0 [] a H (fun a1 H1 => lastO P ro ops l a1 H1 Q)) (hne : l ≠ []) (hdf : (l.getLast hne).guard = none ∧ isDef (l.getLast hne).op = false) : wpA P ro (.region id ⟨l⟩ true) Q a H := by
  have h1 := wkD_draw _ _ _ _ _ (h ⟨l⟩ (ancs ⟨l⟩) (fun p hp => by simpa using List.all_eq_true.1 hb p hp) (fun p hp => by simpa using List.all_eq_true.1 hg p hp))
  obtain ⟨o, h2, h3⟩ := lastO_last P ro ⟨l⟩ l hne
  have ho : l.getLast hne = o := by
    have : l.getLast? = some o := by rw [h2]; simp
    rw [List.getLast?_eq_some_getLast hne] at this
    exact Option.some.inj this
  rw [ho] at hdf
  refine ⟨hst, .inr ⟨l.dropLast, o, h2, hanc, hdf.2, wpDraw_mono (fun a1 H1 h => ⟨by simp only [wantA, hdf.1], (h3 a1 H1 Q h).2.2⟩) _ _ _ _ _ h1⟩⟩

theorem all2_nil {α : Type} {p : α → Prop} : (∀ x ∈ ([] : List α), p x) = True := by simp
theorem all2_cons {α : Type} {p : α → Prop} {y : α} {l : List α} : (∀ x ∈ y :: l, p x) = (p y ∧ ∀ x ∈ l, p x) := by simp

theorem nmem_nil {n : Nat} : (n ∉ ([] : List Nat)) = True := by simp
theorem nmem_one {n m : Nat} : (n ∉ [m]) = ¬ n = m := by simp
theorem nmem_cons {n m k : Nat} {l : List Nat} : (n ∉ m :: k :: l) = (¬ n = m ∧ n ∉ k :: l) := by simp

theorem reg_quo {t : TypeId} {k : IntKind} {x y : Int} (h : y ≠ 0) : regBin P .quo t (.int k x) (.int k y) = some (.int k (k.wrap (x.tdiv y))) := by simp [regBin, intBin, h]
theorem reg_rem {t : TypeId} {k : IntKind} {x y : Int} (h : y ≠ 0) : regBin P .rem t (.int k x) (.int k y) = some (.int k (x.tmod y)) := by simp [regBin, intBin, h]
theorem w_buildSlice {ops : Array Oper} {rest : List Oper} {dst : Option Nat} {ty : TypeId} {pos : String} {after : Array Edge} {Q : Exit → AAct → AHeap → Prop} {t : TypeId} {n : Nat} {l : List (Nat × Operand)} : wpOps P ro ops (⟨dst, .buildSlice t n ⟨l⟩, ty, pos, after, none⟩ :: rest) (mkA N E ds) H Q = heapC P ro ops rest N E ds dst Q ((pairs P (mkA N E ds) l).bind (aBuildSlice P H t n)) :=
  w_rvh rfl (by
    simp only [aop, xBuildSlice, Option.bind_eq_bind]
    cases pairs P (mkA N E ds) l <;> rfl)
theorem w_makeSlice {ops : Array Oper} {rest : List Oper} {dst : Option Nat} {ty : TypeId} {pos : String} {after : Array Edge} {Q : Exit → AAct → AHeap → Prop} {t : TypeId} {x y : Operand} (hx : opOk P N x = true) (hy : opOk P N y = true) : wpOps P ro ops (⟨dst, .makeSlice t x y, ty, pos, after, none⟩ :: rest) (mkA N E ds) H Q = heapC P ro ops rest N E ds dst Q (aMakeSlice P H t (opv E x) (opv E y)) :=
  w_rvh rfl (by simp only [aop, xMakeSlice, aeval_opv hx, aeval_opv hy, Option.bind_eq_bind, Option.bind_some])
def bnds (E : Env) : Option Operand → Option Value
  | none => none
  | some x => some (opv E x)
def bndsOk (P : Program) (N : Nat) : Option Operand → Bool
  | none => true
  | some x => opOk P N x
theorem bnds_none : bnds E none = none := by simp only [bnds]
theorem bnds_some {x : Operand} : bnds E (some x) = some (opv E x) := by simp only [bnds]
theorem bndsOk_none : bndsOk P N none = true := by simp only [bndsOk]
theorem bndsOk_some {x : Operand} : bndsOk P N (some x) = opOk P N x := by simp only [bndsOk]
theorem optEval_b {x : Option Operand} (h : bndsOk P N x = true) : optEval P (mkA N E ds) x = some (bnds E x) := by
  cases x with
  | none => rfl
  | some x => simp only [bndsOk] at h; simp only [optEval, aeval_opv h, bnds, Option.map_some]
theorem w_slice {ops : Array Oper} {rest : List Oper} {dst : Option Nat} {ty : TypeId} {pos : String} {after : Array Edge} {Q : Exit → AAct → AHeap → Prop} {t : TypeId} {x : Operand} {lo hi mx : Option Operand} (hx : opOk P N x = true) (h1 : bndsOk P N lo = true) (h2 : bndsOk P N hi = true) (h3 : bndsOk P N mx = true) : wpOps P ro ops (⟨dst, .slice t x lo hi mx, ty, pos, after, none⟩ :: rest) (mkA N E ds) H Q = heapC P ro ops rest N E ds dst Q (aSlice P H t (opv E x) (bnds E lo) (bnds E hi) (bnds E mx)) :=
  w_rvh rfl (by simp only [aop, xSlice, aeval_opv hx, optEval_b h1, optEval_b h2, optEval_b h3, Option.bind_eq_bind, Option.bind_some])
theorem dst_list {l : List Oper} {j : Nat} : dstOf ⟨l⟩ j = (l[j]?).bind (·.dst) := by simp [dstOf]
theorem guardC_true {ops : Array Oper} {o : Oper} {rest : List Oper} {Q : Exit → AAct → AHeap → Prop} {want : Bool} : guardC P ro ops o rest N E ds H Q want (.bool want) = wpOps P ro ops (o :: rest) (mkA N E ds) H Q := by simp only [guardC, if_true]
theorem guardC_ff {ops : Array Oper} {o : Oper} {rest : List Oper} {Q : Exit → AAct → AHeap → Prop} : guardC P ro ops o rest N E ds H Q true (.bool false) = wpOps P ro ops rest ((mkA N E ds).put o.dst undef) H Q := by simp only [guardC, Bool.false_eq_true, if_false]
theorem guardC_tt {ops : Array Oper} {o : Oper} {rest : List Oper} {Q : Exit → AAct → AHeap → Prop} : guardC P ro ops o rest N E ds H Q false (.bool true) = wpOps P ro ops rest ((mkA N E ds).put o.dst undef) H Q := by simp only [guardC, Bool.true_eq_false, if_false]
theorem guardV_true {ops : Array Oper} {anc : List Nat} {o : Oper} {rest : List Oper} {i : Nat} {fps : List Fp} {Q : AAct → AHeap → Prop} {want : Bool} : guardV P ops anc o rest i fps N E ds H Q want (.bool want) = wkD P ops anc (o :: rest) i fps (mkA N E ds) H Q := by simp only [guardV, if_true]
theorem guardV_ff {ops : Array Oper} {anc : List Nat} {o : Oper} {rest : List Oper} {i : Nat} {fps : List Fp} {Q : AAct → AHeap → Prop} : guardV P ops anc o rest i fps N E ds H Q true (.bool false) = wkD P ops anc rest (i + 1) fps ((mkA N E ds).put o.dst undef) H Q := by simp only [guardV, Bool.false_eq_true, if_false]
theorem guardV_tt {ops : Array Oper} {anc : List Nat} {o : Oper} {rest : List Oper} {i : Nat} {fps : List Fp} {Q : AAct → AHeap → Prop} : guardV P ops anc o rest i fps N E ds H Q false (.bool true) = wkD P ops anc rest (i + 1) fps ((mkA N E ds).put o.dst undef) H Q := by simp only [guardV, Bool.true_eq_false, if_false]
def origC (P : Program) (ro : Option Nat) (ops : Array Oper) (o : Oper) (rest : List Oper) (a : AAct) (H : AHeap) (Q : Exit → AAct → AHeap → Prop) : Prop := wpOps P ro ops (o :: rest) a H Q
def gdC (P : Program) (ro : Option Nat) (ops : Array Oper) (o : Oper) (j : Nat) (want : Bool) (rest : List Oper) (N : Nat) (E : Env) (ds : List Deferred) (H : AHeap) (Q : Exit → AAct → AHeap → Prop) : Option Nat → Prop
  | some d => if d < N then guardC P ro ops o rest N E ds H Q want (E d) else origC P ro ops { o with guard := some (j, want) } rest (mkA N E ds) H Q
  | none => origC P ro ops { o with guard := some (j, want) } rest (mkA N E ds) H Q
theorem gdC_some {ops : Array Oper} {o : Oper} {j d : Nat} {want : Bool} {rest : List Oper} {Q : Exit → AAct → AHeap → Prop} (h : d < N) : gdC P ro ops o j want rest N E ds H Q (some d) = guardC P ro ops o rest N E ds H Q want (E d) := by simp only [gdC, h, if_true]
theorem w_gd {ops : Array Oper} {dst : Option Tmp} {op : Op} {ty : TypeId} {pos : String} {after : Array Edge} {j : Nat} {want : Bool} {rest : List Oper} {Q : Exit → AAct → AHeap → Prop} :
    wpOps P ro ops (⟨dst, op, ty, pos, after, some (j, want)⟩ :: rest) (mkA N E ds) H Q = gdC P ro ops ⟨dst, op, ty, pos, after, none⟩ j want rest N E ds H Q (dstOf ops j) := by
  cases hj : dstOf ops j with
  | none => simp only [gdC, origC]
  | some d =>
    simp only [gdC]
    split
    · rename_i hd
      exact w_guard hj hd
    · simp only [origC]
def origV (P : Program) (ops : Array Oper) (anc : List Nat) (o : Oper) (rest : List Oper) (i : Nat) (fps : List Fp) (a : AAct) (H : AHeap) (Q : AAct → AHeap → Prop) : Prop := wkD P ops anc (o :: rest) i fps a H Q
def gdV (P : Program) (ops : Array Oper) (anc : List Nat) (o : Oper) (j : Nat) (want : Bool) (rest : List Oper) (i : Nat) (fps : List Fp) (N : Nat) (E : Env) (ds : List Deferred) (H : AHeap) (Q : AAct → AHeap → Prop) : Option Nat → Prop
  | some d => if d < N then guardV P ops anc o rest i fps N E ds H Q want (E d) else origV P ops anc { o with guard := some (j, want) } rest i fps (mkA N E ds) H Q
  | none => origV P ops anc { o with guard := some (j, want) } rest i fps (mkA N E ds) H Q
theorem gdV_some {ops : Array Oper} {anc : List Nat} {o : Oper} {j d : Nat} {want : Bool} {rest : List Oper} {i : Nat} {fps : List Fp} {Q : AAct → AHeap → Prop} (h : d < N) : gdV P ops anc o j want rest i fps N E ds H Q (some d) = guardV P ops anc o rest i fps N E ds H Q want (E d) := by simp only [gdV, h, if_true]
theorem wd_gd {ops : Array Oper} {anc : List Nat} {dst : Option Tmp} {op : Op} {ty : TypeId} {pos : String} {after : Array Edge} {j : Nat} {want : Bool} {rest : List Oper} {i : Nat} {fps : List Fp} {Q : AAct → AHeap → Prop} :
    wkD P ops anc (⟨dst, op, ty, pos, after, some (j, want)⟩ :: rest) i fps (mkA N E ds) H Q = gdV P ops anc ⟨dst, op, ty, pos, after, none⟩ j want rest i fps N E ds H Q (dstOf ops j) := by
  cases hj : dstOf ops j with
  | none => simp only [gdV, origV]
  | some d =>
    simp only [gdV]
    split
    · rename_i hd
      exact wd_guard hj hd
    · simp only [origV]
theorem put_at {d : Nat} {v : Value} (h : d < N) : (mkA N E ds).put (some d) v = mkA N (upd E d v) ds := put_some N E ds d v h
theorem guardC_split {ops : Array Oper} {o : Oper} {rest : List Oper} {Q : Exit → AAct → AHeap → Prop} {want b : Bool} (h1 : b = want → wpOps P ro ops (o :: rest) (mkA N E ds) H Q) (h2 : b = !want → wpOps P ro ops rest ((mkA N E ds).put o.dst undef) H Q) : guardC P ro ops o rest N E ds H Q want (.bool b) := by
  simp only [guardC]
  split
  · exact h1 (by assumption)
  · exact h2 (by cases b <;> cases want <;> simp_all)
theorem guardV_split {ops : Array Oper} {anc : List Nat} {o : Oper} {rest : List Oper} {i : Nat} {fps : List Fp} {Q : AAct → AHeap → Prop} {want b : Bool} (h1 : b = want → wkD P ops anc (o :: rest) i fps (mkA N E ds) H Q) (h2 : b = !want → wkD P ops anc rest (i + 1) fps ((mkA N E ds).put o.dst undef) H Q) : guardV P ops anc o rest i fps N E ds H Q want (.bool b) := by
  simp only [guardV]
  split
  · exact h1 (by assumption)
  · exact h2 (by cases b <;> cases want <;> simp_all)

def loopC (N : Nat) (ds : List Deferred) (K : Env → AHeap → Prop) (Q : Exit → AAct → AHeap → Prop) : Exit → AAct → AHeap → Prop := seqQ (fun a1 H1 => ∃ E', a1 = mkA N E' ds ∧ K E' H1) Q
theorem loopC_normal {K : Env → AHeap → Prop} {Q : Exit → AAct → AHeap → Prop} : loopC N ds K Q .normal (mkA N E ds) H = ∃ E', mkA N E ds = mkA N E' ds ∧ K E' H := by simp only [loopC, seqQ]
theorem loopC_exit {K : Env → AHeap → Prop} {Q : Exit → AAct → AHeap → Prop} {id : Nat} {a : AAct} : loopC N ds K Q (.exit id) a H = Q (.exit id) a H := by simp only [loopC, seqQ]
theorem loopC_ret {K : Env → AHeap → Prop} {Q : Exit → AAct → AHeap → Prop} {a : AAct} : loopC N ds K Q .ret a H = Q .ret a H := by simp only [loopC, seqQ]
theorem loopC_panic {K : Env → AHeap → Prop} {Q : Exit → AAct → AHeap → Prop} {ch : List PanicEntry} {a : AAct} : loopC N ds K Q (.panic ch) a H = Q (.panic ch) a H := by simp only [loopC, seqQ]

theorem w_loop {σ : Type} (I : σ → Env → AHeap → Prop) (m : σ → Nat) (s0 : σ) {b : Code} {Q : Exit → AAct → AHeap → Prop} (h0 : I s0 E H)
    (h : ∀ s E H, I s E H → wpA P ro b (loopC N ds (fun E' H' => ∃ s', m s' < m s ∧ I s' E' H') Q) (mkA N E ds) H) : wpA P ro (.loop b) Q (mkA N E ds) H := by
  refine wpA_loop (I := fun k a H => ∃ s E, a = mkA N E ds ∧ m s = k ∧ I s E H) (k := m s0) ⟨s0, E, rfl, rfl, h0⟩ ?_
  rintro k a H ⟨s, E, rfl, rfl, hI⟩
  refine wpA_mono b _ H (fun e a1 H1 h1 => ?_) (h s E H hI)
  cases e with
  | normal =>
    obtain ⟨E', rfl, s', hlt, hI'⟩ := h1
    exact ⟨m s', hlt, s', E', rfl, rfl, hI'⟩
  | _ => exact h1

theorem w_callV {f : FuncId} {x : Operand} {args : List Operand} {ts : Array TypeId} {dst : Option Nat} {ops : Array Oper} {rest : List Oper} {ty : TypeId} {pos : String} {after : Array Edge} {Q : Exit → AAct → AHeap → Prop} {ca : List Value} (hx : opOk P N x = true) (hv : opv E x = .func (.func f) ⟨[]⟩ ⟨ca⟩) (ha : args.all (opOk P N) = true) (hb : hasBody P f = true)
    (h : CallA P f (args.map (opv E) ++ ca) H (opC P ro ops rest (mkA N E ds) dst Q)) :
    wpOps P ro ops (⟨dst, .call ⟨.value x, ⟨args⟩, ts⟩, ty, pos, after, none⟩ :: rest) (mkA N E ds) H Q := by
  rw [w_op rfl rfl]
  simp only [opA, aop, xCall, aevals_opv ha, aeval_opv hx, hv, Option.bind_eq_bind, Option.bind_some, callV, aInvoke, enterN, hb, if_true, List.nil_append, Option.map_some, nextA]
  exact h

theorem genV_quietV {ops : Array Oper} {anc : List Nat} {d : Nat} {ty : TypeId} {pos : String} {after : Array Edge} {rest : List Oper} {i : Nat} {fps : List Fp} {Q : AAct → AHeap → Prop} {f : FuncId} {x : Operand} {args : List Operand} {ts : Array TypeId} {v : Value} {ca : List Value} (F : List Nat) (hx : opOk P N x = true) (hv : opv E x = .func (.func f) ⟨[]⟩ ⟨ca⟩) (ha : args.all (opOk P N) = true) (hb : hasBody P f = true) (hd : d < N) (hF : ∀ n ∈ F, H.get n ≠ none)
    (hc : ∀ G : AHeap, G.next = H.next → (∀ n ∈ F, G.get n = H.get n) → CallS P f (args.map (opv E) ++ ca) G (.ok v) G) (hm : ∀ r ∈ fps, Meets (anc.getD i 0) F [] (idsV v) r)
    (h : wkD P ops anc rest (i + 1) (⟨i, F, [], H.next, H.next⟩ :: fps) (mkA N (upd E d v) ds) H Q) : genV P ops anc ⟨some d, .call ⟨.value x, ⟨args⟩, ts⟩, ty, pos, after, none⟩ rest i fps (mkA N E ds) H Q := by
  have hn := restrict_next H F
  refine ⟨F, v, H.restrict F, ?_, hF, (by rw [hn.2.2]; simp), fun r hr => fpOk_of ?_, ?_⟩
  · refine opS_of (x := .enter f (args.map (opv E) ++ ca)) (g := H.restrict F) ?_ (hc _ hn.1 (fun n hn' => by rw [restrict_get, if_pos hn']))
    simp only [aop, xCall, aevals_opv ha, aeval_opv hx, hv, Option.bind_eq_bind, Option.bind_some, callV, aInvoke, enterN, hb, if_true, List.nil_append, Option.map_some]
  · simp only [outIds, hn.2.2, hn.1, Nat.sub_self, rangeFrom, List.append_nil, List.flatMap_nil]
    exact hm r hr
  · rw [merge_self, hn.2.2, hn.1]
    simp only [put_some N E ds d v hd]
    exact h

theorem genV_ext {ops : Array Oper} {anc : List Nat} {d : Nat} {ty : TypeId} {pos : String} {after : Array Edge} {rest : List Oper} {i : Nat} {fps : List Fp} {Q : AAct → AHeap → Prop} {f : FuncId} {args : List Operand} {ts : Array TypeId} {v : Value} {M : List Bl} (F : List Nat) (ha : args.all (opOk P N) = true) (hb : hasBody P f = true) (hd : d < N) (hF : ∀ n ∈ F, H.get n ≠ none)
    (hc : ∀ G : AHeap, G.next = H.next → (∀ n ∈ F, G.get n = H.get n) → CallS P f (args.map (opv E)) G (.ok v) (ext G M)) (hm : ∀ r ∈ fps, Meets (anc.getD i 0) F [] (idsV v ++ M.flatMap fun x => idsL x.l) r)
    (h : wkD P ops anc rest (i + 1) (⟨i, F, [], H.next, H.next + M.length⟩ :: fps) (mkA N (upd E d v) ds) (ext H M) Q) : genV P ops anc ⟨some d, .call ⟨.value (.func f), ⟨args⟩, ts⟩, ty, pos, after, none⟩ rest i fps (mkA N E ds) H Q := by
  have hn := restrict_next H F
  have hd' : (ext (H.restrict F) M).dirty = [] := by rw [ext_dirty, hn.2.2]
  have hnx : (ext (H.restrict F) M).next = H.next + M.length := by rw [ext_next, hn.1]
  have hget : ∀ j, j < M.length → (ext (H.restrict F) M).get (H.next + j) = M[j]?.map Bl.obj := by
    intro j hj
    rw [← hn.1]
    exact ext_get_new hj
  have hmn : ∀ (M : List Bl) (K g : AHeap) (m : Nat), K.next = m → (∀ j, j < M.length → g.get (m + j) = M[j]?.map Bl.obj) → ∀ h', h' = AHeap.mergeN K g m M.length → (⟨h'.root, m + M.length, h'.base, h'.dirty⟩ : AHeap) = ext K M := by
    intro M
    induction M with
    | nil => intro K g m hK _ h' hh; subst hK; subst hh; rfl
    | cons x M ih =>
      intro K g m hK hg h' hh
      have h0 := hg 0 (by simp)
      simp only [Nat.add_zero, List.getElem?_cons_zero, Option.map_some] at h0
      rw [List.length_cons] at hh
      simp only [AHeap.mergeN, h0] at hh
      have := ih (nw K x.e x.l x.o) g (m + 1) (by rw [nw_next, hK]) (fun j hj => by
        have := hg (j + 1) (by simpa using hj)
        simp only [List.getElem?_cons_succ] at this
        rw [show m + 1 + j = m + (j + 1) by omega]
        exact this) (AHeap.mergeN (nw K x.e x.l x.o) g (m + 1) M.length) rfl
      have key : ∀ (A B : AHeap) (n k : Nat), A.root = B.root → A.base = B.base → A.dirty = B.dirty → (AHeap.mergeN A g n k).root = (AHeap.mergeN B g n k).root ∧ (AHeap.mergeN A g n k).base = (AHeap.mergeN B g n k).base ∧ (AHeap.mergeN A g n k).dirty = (AHeap.mergeN B g n k).dirty := by
        intro A B n k
        induction k generalizing A B n with
        | zero => exact fun h1 h2 h3 => ⟨h1, h2, h3⟩
        | succ k ihk =>
          intro h1 h2 h3
          simp only [AHeap.mergeN]
          exact ihk _ _ _ (by simp only [AHeap.put_eq, h1]) h2 h3
      have k2 := key (nw K x.e x.l x.o) (K.put m (some x.obj)) (m + 1) M.length (by simp only [nw, AHeap.new_eq, AHeap.put_eq, hK, Bl.obj]) rfl rfl
      rw [ext, ← this, hh, k2.1, k2.2.1, k2.2.2, List.length_cons, show m + (M.length + 1) = m + 1 + M.length by omega]
  have hmg : H.merge (ext (H.restrict F) M) = ext H M := by
    unfold AHeap.merge
    rw [hd', hnx, Nat.add_sub_cancel_left]
    simp only [AHeap.mergeW]
    exact hmn M H _ H.next rfl hget _ rfl
  refine ⟨F, v, ext (H.restrict F) M, ?_, hF, (by rw [hd']; simp), fun r hr => fpOk_of ?_, ?_⟩
  · refine opS_of (x := .enter f (args.map (opv E))) (g := H.restrict F) ?_ (hc _ hn.1 (fun n hn' => by rw [restrict_get, if_pos hn']))
    simp only [aop, xCall, aevals_opv ha, aeval, Option.bind_eq_bind, Option.bind_some, callV, aInvoke, enterN, hb, if_true, List.nil_append, List.append_nil, Option.map_some]
  · have hids : ∀ (k s : Nat), s + k = M.length → (rangeFrom (H.next + s) k).flatMap (idsAt (ext (H.restrict F) M)) = (M.drop s).flatMap fun x => idsL x.l := by
      intro k
      induction k with
      | zero => intro s hs; rw [rangeFrom, List.drop_eq_nil_of_le (by omega)]; rfl
      | succ k ih =>
        intro s hs
        have hlt : s < M.length := by omega
        rw [rangeFrom, List.flatMap_cons, List.drop_eq_getElem_cons hlt, List.flatMap_cons]
        have := ih (s + 1) (by omega)
        rw [show H.next + (s + 1) = H.next + s + 1 by omega] at this
        rw [this]
        congr 1
        simp only [idsAt, hget s hlt, List.getElem?_eq_getElem hlt, Option.map_some, Bl.obj, idsO, RV.n_ofList, RV.gets_ofList]
    have := hids M.length 0 (by omega)
    simp only [Nat.add_zero, List.drop_zero] at this
    rw [hd']
    simp only [outIds, hd', hnx, Nat.add_sub_cancel_left, List.nil_append, this]
    exact hm r hr
  · rw [hmg, hd', hnx]
    simp only [put_some N E ds d v hd]
    exact h

end
end Go.Ax

/- Walks over abstract heaps: calls that change blocks. -/
namespace Go.Ax

structure Mod (W : List Nat) (H H1 : AHeap) : Prop where
  next : H.next ≤ H1.next
  base : H1.base = H.base
  get : ∀ n, n < H.next → n ∉ W → H1.get n = H.get n
  sub : ∀ n, n ∈ H.dirty → n ∈ H1.dirty
  dirty : ∀ n, n ∈ H1.dirty → n ∈ H.dirty ∨ (n ∈ W ∧ n < H.base)
  keep : ∀ n, n < H.base → n ∉ H1.dirty → H1.get n = H.get n

section
variable {P : Program} {H H1 H2 : AHeap} {W : List Nat} {L : List Bl}

theorem Mod.refl : Mod W H H := ⟨Nat.le_refl _, rfl, fun _ _ _ => rfl, fun _ h => h, fun _ h => .inl h, fun _ _ _ => rfl⟩
theorem Mod.trans (a : Mod W H H1) (b : Mod W H1 H2) : Mod W H H2 where
  next := Nat.le_trans a.next b.next
  base := b.base.trans a.base
  get := fun n hn hW => (b.get n (Nat.lt_of_lt_of_le hn a.next) hW).trans (a.get n hn hW)
  sub := fun n h => b.sub n (a.sub n h)
  dirty := fun n h => (b.dirty n h).elim (a.dirty n) (fun h => .inr ⟨h.1, a.base ▸ h.2⟩)
  keep := fun n hn hd => (b.keep n (by rw [a.base]; exact hn) hd).trans (a.keep n hn (fun h => hd (b.sub n h)))
theorem Mod.mono {W' : List Nat} (a : Mod W H H1) (h : ∀ n ∈ W, n ∈ W') : Mod W' H H1 :=
  ⟨a.next, a.base, fun n hn hW => a.get n hn (fun h' => hW (h n h')), a.sub, fun n hn => (a.dirty n hn).imp id (fun h' => ⟨h n h'.1, h'.2⟩), a.keep⟩
theorem Mod.ext (hb : H.base ≤ H.next) : Mod W H (Go.Ax.ext H L) :=
  ⟨by rw [ext_next]; omega, ext_base, fun n hn _ => ext_get_old hn, fun n h => by rw [ext_dirty]; exact h, fun n h => by rw [ext_dirty] at h; exact .inl h, fun n hn _ => ext_get_old (by omega)⟩
theorem uw_sub {n off : Nat} {vs : List Value} {m : Nat} (h : m ∈ H.dirty) : m ∈ (uw H n off vs).dirty := by
  unfold uw
  split
  · simp only [AHeap.upd_eq]
    split
    · exact List.mem_cons_of_mem _ h
    · exact h
  · exact h
theorem Mod.uw {n off : Nat} {vs : List Value} (hn : n ∈ W) : Mod W H (Go.Ax.uw H n off vs) where
  next := by rw [uw_next]; exact Nat.le_refl _
  base := uw_base
  get := fun m _ hm => uw_get (fun e => hm (e ▸ hn))
  sub := fun m h => uw_sub h
  dirty := fun m h => by
    rcases uw_dirty h with h | ⟨rfl, h⟩
    · exact .inl h
    · exact .inr ⟨hn, h⟩
  keep := fun m hm hd => by
    by_cases e : m = n
    · subst e
      unfold Go.Ax.uw at hd ⊢
      split at hd
      · simp only [AHeap.upd_eq, blt_of hm, if_true] at hd
        exact absurd List.mem_cons_self hd
      · rfl
    · exact uw_get e

theorem Mod.bk (m : Mod W H H1) {n : Nat} (hn : n < H.next) (hW : n ∉ W) : Go.Ax.bk H1 n = Go.Ax.bk H n := bk_get (m.get n hn hW)
theorem Mod.lt (m : Mod W H H1) {n : Nat} (hn : n < H.next) : n < H1.next := Nat.lt_of_lt_of_le hn m.next
theorem Mod.ok (m : Mod W H H1) (h : H.base ≤ H.next) : H1.base ≤ H1.next := by have := m.next; rw [m.base]; omega

theorem mergeW_dirtW (g : AHeap) : ∀ (l : List Nat) (H : AHeap) (n : Nat), n ∈ (AHeap.mergeW H g l).dirty → n ∈ H.dirty ∨ (n ∈ l ∧ n < H.base)
  | [], _, _, h => .inl h
  | m :: r, H, n, h => by
    rcases mergeW_dirtW g r _ n h with h | h
    · simp only [AHeap.upd_eq] at h
      split at h
      · rename_i hb
        rcases List.mem_cons.1 h with rfl | h
        · exact .inr ⟨List.mem_cons_self, blt_lt hb⟩
        · exact .inl h
      · exact .inl h
    · exact .inr ⟨List.mem_cons_of_mem _ h.1, h.2⟩
theorem merge_dirtW (H g : AHeap) (n : Nat) (h : n ∈ (H.merge g).dirty) : n ∈ H.dirty ∨ (n ∈ g.dirty ∧ n < H.base) := by
  have k := (mergeN_next g (g.next - H.next) H.next (AHeap.mergeW H g g.dirty)).2
  refine mergeW_dirtW g g.dirty H n ?_
  rw [← k]
  exact h

theorem genV_mod {N : Nat} {E : Env} {ds : List Deferred} {ops : Array Oper} {anc : List Nat} {dst : Option Nat} {ty : TypeId} {pos : String} {after : Array Edge} {rest : List Oper} {i : Nat} {fps : List Fp} {Q : AAct → AHeap → Prop} {f : FuncId} {args : List Operand} {ts : Array TypeId} {v : Value} {g : AHeap}
    (F : List Nat) (hok : H.base ≤ H.next) (ha : args.all (opOk P N) = true) (hb : hasBody P f = true) (hF : ∀ n ∈ F, H.get n ≠ none) (hlt : ∀ n ∈ F, n < H.next) (hW : ∀ n ∈ W, n ∈ F)
    (hc : CallS P f (args.map (opv E)) (H.restrict F) (.ok v) g) (hmod : Mod W (H.restrict F) g)
    (hm : ∀ r ∈ fps, (anc.getD i 0).testBit r.i = true ∨ (r.hi ≤ r.lo ∧ (∀ n ∈ r.W, n ∉ F) ∧ (∀ n ∈ r.F, n ∉ W)))
    (h : ∀ H' D, Mod W H H' → (∀ n ∈ F, H'.get n = g.get n) → (∀ n, H.next ≤ n → n < g.next → H'.get n = g.get n) → H'.next = g.next → (∀ n ∈ D, n ∈ W) → wkD P ops anc rest (i + 1) (⟨i, F, D, H.next, g.next⟩ :: fps) ((mkA N E ds).put dst v) H' Q) :
    genV P ops anc ⟨dst, .call ⟨.value (.func f), ⟨args⟩, ts⟩, ty, pos, after, none⟩ rest i fps (mkA N E ds) H Q := by
  have hn := restrict_next H F
  have hd : ∀ n ∈ g.dirty, n ∈ W := by
    intro n hg
    rcases hmod.dirty n hg with h | h
    · rw [hn.2.2] at h; cases h
    · exact h.1
  have hle : H.next ≤ g.next := by have := hmod.next; rw [hn.1] at this; exact this
  have hgF : ∀ n ∈ F, (H.merge g).get n = g.get n := by
    intro n hnF
    by_cases hgd : n ∈ g.dirty
    · exact merge_pos H g hle (.inl hgd)
    · rw [merge_neg H g hle]
      · rw [hmod.keep n (by rw [hn.2.1]; exact hlt n hnF) hgd, restrict_get, if_pos hnF]
      · rintro (h' | h')
        · exact hgd h'
        · have := hlt n hnF; omega
  have hmf := merge_facts H g
  refine ⟨F, v, g, ?_, hF, fun n h' => hW n (hd n h'), fun r hr => fpOk_of ?_, ?_⟩
  · refine opS_of (x := .enter f (args.map (opv E))) (g := H.restrict F) ?_ hc
    simp only [aop, xCall, aevals_opv ha, aeval, Option.bind_eq_bind, Option.bind_some, callV, aInvoke, enterN, hb, if_true, List.nil_append, List.append_nil, Option.map_some]
  · rcases hm r hr with h' | ⟨h1, h2, h3⟩
    · exact .inl h'
    · exact .inr ⟨h2, fun n hnr hng => h3 n hnr (hd n hng), fun hlt' => absurd hlt' (by omega)⟩
  · refine h (H.merge g) g.dirty ⟨by rw [hmf.1]; exact hle, hmf.2.1, fun n hnl hnW => ?_, hmf.2.2.1, fun n hnd => ?_, fun n hnb hnd => ?_⟩ hgF (fun n h1 h2 => merge_pos H g hle (.inr ⟨h1, h2⟩)) hmf.1 hd
    · rw [merge_neg H g hle]
      rintro (h' | h')
      · exact hnW (hd n h')
      · omega
    · rcases merge_dirtW H g n hnd with h' | h'
      · exact .inl h'
      · exact .inr ⟨hd n h'.1, h'.2⟩
    · by_cases hgd : n ∈ g.dirty
      · exact absurd (hmf.2.2.2 n hgd hnb) hnd
      · rw [merge_neg H g hle]
        rintro (h' | h')
        · exact hgd h'
        · omega


theorem Mod.step {W' : List Nat} (a : Mod W H H1) (b : Mod W' H1 H2) (hok : H.base ≤ H.next) (h : ∀ n ∈ W', n ∈ W ∨ H.next ≤ n) : Mod W H H2 where
  next := Nat.le_trans a.next b.next
  base := b.base.trans a.base
  get := fun n hn hW => (b.get n (Nat.lt_of_lt_of_le hn a.next) (fun h' => (h n h').elim hW (by omega))).trans (a.get n hn hW)
  sub := fun n h => b.sub n (a.sub n h)
  dirty := fun n h' => by
    rcases b.dirty n h' with h' | ⟨h1, h2⟩
    · exact a.dirty n h'
    · rw [a.base] at h2
      exact .inr ⟨(h n h1).elim id (by omega), h2⟩
  keep := fun n hn hd => (b.keep n (by rw [a.base]; exact hn) hd).trans (a.keep n hn (fun h => hd (b.sub n h)))

theorem Mod.upd {n : Nat} {o : Option AObj} (hn : n ∈ W) : Mod W H (H.upd n o) where
  next := Nat.le_refl _
  base := rfl
  get := fun m _ hm => by
    have hne : m ≠ n := by rintro rfl; exact hm hn
    rw [AHeap.get_upd, if_neg hne]
  sub := fun m h => by
    simp only [AHeap.upd_eq]
    split
    · exact List.mem_cons_of_mem _ h
    · exact h
  dirty := fun m h => by
    simp only [AHeap.upd_eq] at h
    split at h
    · rename_i hb
      rcases List.mem_cons.1 h with rfl | h
      · exact .inr ⟨hn, blt_lt hb⟩
      · exact .inl h
    · exact .inl h
  keep := fun m hm hd => by
    by_cases e : m = n
    · subst e
      simp only [AHeap.upd_eq, blt_of hm, if_true] at hd
      exact absurd List.mem_cons_self hd
    · rw [AHeap.get_upd, if_neg e]
theorem Mod.new {o : AObj} (hok : H.base ≤ H.next) : Mod W H (H.new o) :=
  ⟨Nat.le_succ _, rfl, fun n hn _ => by rw [AHeap.get_new, if_neg (by omega)], fun _ h => h, fun _ h => .inl h, fun n hn _ => by rw [AHeap.get_new, if_neg (by omega)]⟩

theorem Mod.drop (w : WF P H) (m : Mod [] H H1) : Rn id H H1 H where
  low := fun _ _ => rfl
  next := Nat.le_refl _
  base := rfl
  dirty := fun _ h => h
  dirt1 := fun n h => (m.dirty n h).elim id (fun h => by cases h.1)
  get := fun n o2 h => .inl ⟨(w.dom n o2 h).1, h, by rw [m.get n (w.dom n o2 h).1 (by simp), h]⟩
  keep := fun n _ h => .inl h
  inj := fun m n _ _ h => h
  ro := fun n _ => ⟨.inl, fun _ => rfl⟩

theorem Mod.one (w : WF P H) (m : Mod [] H H1) {k : Nat} {b : Bl} (hk : H.next ≤ k) (hb : Go.Ax.bk H1 k = some b) (hs : scbL H.next b.l = true) : Rn (fun n => if n < H.next then n else k) H H1 (Go.Ax.ext H [b]) := by
  have hnew : ∀ n o2, H.next ≤ n → (Go.Ax.ext H [b]).get n = some o2 → n = H.next ∧ o2 = b.obj := by
    intro n o2 hn h
    by_cases hi : n = H.next
    · subst hi
      have := ext_get_new (L := [b]) (H := H) (i := 0) (by simp)
      simp only [Nat.add_zero, List.getElem?_cons_zero, Option.map_some] at this
      rw [this] at h
      exact ⟨rfl, (Option.some.inj h).symm⟩
    · rw [ext_get_far (by simp; omega)] at h
      have := (w.dom _ _ h).1
      omega
  have hall : ∀ (l : List Value), scbL H.next l = true → ∀ j, j < l.length → scb H.next (l.getD j undef) = true := by
    intro l
    induction l with
    | nil => intro _ j hj; simp at hj
    | cons x r ih =>
      intro hl j hj
      simp only [scbL, Bool.and_eq_true] at hl
      cases j with
      | zero => simpa using hl.1
      | succ j =>
        have := ih hl.2 j (by simpa using hj)
        simpa using this
  refine ⟨fun n hn => if_pos hn, by rw [ext_next]; omega, by rw [ext_base], fun n h => by rw [ext_dirty]; exact h, fun n h => by rw [ext_dirty]; exact (m.dirty n h).elim id (fun h => by cases h.1), ?_, ?_, ?_, fun n hz => ⟨fun h => .inl (by rw [ext_dirty] at h; exact h), fun _ => ext_get_old (by
    obtain ⟨o, ho, _⟩ := hz
    exact (w.dom n o ho).1)⟩⟩
  · intro n o2 h
    rcases Nat.lt_or_ge n H.next with hn | hn
    · rw [ext_get_old hn] at h
      exact .inl ⟨hn, h, by rw [m.get n hn (by simp), h]⟩
    · obtain ⟨rfl, rfl⟩ := hnew n o2 hn h
      obtain ⟨rv, hc, hn1, hg⟩ := bk_blk hb
      refine .inr ⟨by rw [ext_next]; simp, ?_, fun h => absurd w.base (by omega), fun h => absurd h (by omega), fun _ => by rw [if_neg (by omega)]; exact hk, ?_⟩
      · simp only [Bl.obj, sco, RV.n_ofList]
        intro j hj
        rw [RV.get_ofList, ext_next]
        exact scb_mono (by omega) _ (hall _ hs j hj)
      · rw [if_neg (Nat.lt_irrefl _)]
        unfold cellsAt at hc
        split at hc
        · rename_i c e z o v hg1
          cases hc
          refine ⟨_, hg1, ⟨c, b.e, 0, z, #[], 0, rfl, rfl⟩, rfl, ?_, ?_⟩
          · simp only [Bl.obj, RV.n_ofList]; exact hn1
          · intro j hj
            simp only [Bl.obj, RV.n_ofList] at hj
            simp only [Bl.obj, RV.get_ofList]
            rw [hg j hj, rnV_low (N := H.next) (fun n hn => if_pos hn) _ (hall _ hs j hj)]
        · cases hc
  · intro n hb' h
    have hn : n < H.next := Nat.lt_of_lt_of_le hb' w.base
    rw [ext_get_old hn] at h
    exact .inl h
  · have cls : ∀ n, (Go.Ax.ext H [b]).get n ≠ none → n < H.next ∨ n = H.next := by
      intro n hn
      rcases Nat.lt_or_ge n H.next with h | h
      · exact .inl h
      · cases hg : (Go.Ax.ext H [b]).get n with
        | none => exact absurd hg hn
        | some o2 => exact .inr (hnew n o2 h hg).1
    intro m' n' hm hn he
    rcases cls m' hm with h1 | rfl <;> rcases cls n' hn with h2 | rfl
    · rw [if_pos h1, if_pos h2] at he; exact he
    · rw [if_pos h1, if_neg (Nat.lt_irrefl _)] at he; omega
    · rw [if_pos h2, if_neg (Nat.lt_irrefl _)] at he; omega
    · rfl

variable {f : FuncId} {args : List Value}
theorem callS_drop {v : Value} (h : WF P H → scbL H.next args = true → CallA P f args H fun out H1 => out = .ok v ∧ Mod [] H H1) (hv : WF P H → scbL H.next args = true → scb H.next v = true) : CallS P f args H (.ok v) H := by
  intro ρ w r hsc
  obtain ⟨_, H1, h1, rfl, m⟩ := h r.wf hsc
  exact CallS.rn (σ := id) (H1 := H1) (by rw [rnV_id (hv r.wf hsc)]; exact h1) (fun w => m.drop w) (hv r.wf hsc) ρ w r hsc

theorem callS_one {b : Bl} {n c : Nat} {s : Option Nat} (h : WF P H → scbL H.next args = true → CallA P f args H fun out H1 => ∃ k, out = .ok (.slice (some ⟨k, 0, s⟩) n c) ∧ H.next ≤ k ∧ Go.Ax.bk H1 k = some b ∧ Mod [] H H1) (hs : WF P H → scbL H.next args = true → scbL H.next b.l = true) :
    CallS P f args H (.ok (.slice (some ⟨H.next, 0, s⟩) n c)) (Go.Ax.ext H [b]) := by
  intro ρ w r hsc
  obtain ⟨_, H1, h1, k, rfl, hk, hb, m⟩ := h r.wf hsc
  refine CallS.rn (σ := fun n => if n < H.next then n else k) (H1 := H1) ?_ (fun w => m.one w hk hb (hs r.wf hsc)) (by rw [ext_next]; exact blt_of (Nat.lt_succ_self _)) ρ w r hsc
  simp only [rnV, Nat.lt_irrefl, if_false]
  exact h1

end
end Go.Ax

/- Walks over abstract heaps: loops over functions; append. -/
namespace Go.Ax
section
variable {P : Program} {ro : Option Nat} {H : AHeap} {N : Nat} {E : Env} {ds : List Deferred} {L : List Bl}

def CallY (P : Program) (l : Nat) (args : List Value) (H : AHeap) (R : Out → AHeap → Prop) : Prop :=
  match aYield H l args with
  | some (.round rd) => RoundA P rd H R
  | _ => False

theorem w_callY {l : Nat} {x : Operand} {args : List Operand} {ts : Array TypeId} {dst : Option Nat} {ops : Array Oper} {rest : List Oper} {ty : TypeId} {pos : String} {after : Array Edge} {Q : Exit → AAct → AHeap → Prop} (hx : opOk P N x = true) (hv : opv E x = .func (.yield l) ⟨[]⟩ ⟨[]⟩) (ha : args.all (opOk P N) = true)
    (h : CallY P l (args.map (opv E)) H (opC P ro ops rest (mkA N E ds) dst Q)) :
    wpOps P ro ops (⟨dst, .call ⟨.value x, ⟨args⟩, ts⟩, ty, pos, after, none⟩ :: rest) (mkA N E ds) H Q := by
  rw [w_op rfl rfl]
  unfold CallY at h
  split at h
  · rename_i rd hy
    simp only [opA, aop, xCall, aevals_opv ha, aeval_opv hx, hv, Option.bind_eq_bind, Option.bind_some, callV, aInvoke, List.nil_append, hy, Option.map_some, nextA]
    exact h
  · exact h.elim

theorem CallY.mono {l : Nat} {args : List Value} {R R' : Out → AHeap → Prop} (h : CallY P l args H R) (hR : ∀ out H1, R out H1 → R' out H1) : CallY P l args H R' := by
  unfold CallY at *
  split at h
  · obtain ⟨out, H1, h1, h2⟩ := h
    exact ⟨out, H1, h1, hR _ _ h2⟩
  · exact h.elim

def LoopAt (H : AHeap) (l : Nat) (lp : Loop) (e : RV) : Prop := ∃ o, H.get l = some ⟨.loop lp, o, e⟩

theorem LoopAt.get {l : Nat} {lp : Loop} {e : RV} (h : LoopAt H l lp e) : getLoop H l = some (lp, e) := by
  obtain ⟨o, h⟩ := h
  simp only [getLoop, h]
theorem LoopAt.of {G : AHeap} {l : Nat} {lp : Loop} {e : RV} (h : LoopAt H l lp e) (hg : G.get l = H.get l) : LoopAt G l lp e := by
  obtain ⟨o, h⟩ := h
  exact ⟨o, hg.trans h⟩
theorem LoopAt.set (l : Nat) (lp : Loop) (e : RV) : LoopAt (setLoop H l lp e) l lp e := ⟨false, by rw [setLoop, AHeap.get_upd, if_pos rfl]⟩

theorem roundA_of (hmix : P.follows .mixedOrders = true) {rd : Round} {R : Out → AHeap → Prop}
    (h : wpA P (some rd.l) rd.assign (fun e a1 H2 => e = .normal ∧ ∃ lp le, getLoop H2 rd.l = some (lp, le) ∧ lp.state = .ready ∧
      wpA P (some rd.l) rd.body (fun e2 _ H3 => ∃ j lp2 le2, jumpOf e2 = some j ∧ getLoop H3 rd.l = some (lp2, le2) ∧ R (.ok (.bool j.isNone)) (setLoop H3 rd.l { lp2 with state := if j.isNone then .ready else .done, pending := j } le2)) a1 (setLoop H2 rd.l { lp with state := .busy } le)) ⟨rd.env, []⟩ H) : RoundA P rd H R := by
  obtain ⟨e, a1, H2, hr, rfl, lp, le, h1, h2, h3⟩ := wpA_sound hmix _ _ _ _ h
  obtain ⟨e2, a2, H3, hr2, j, lp2, le2, h4, h5, h6⟩ := wpA_sound hmix _ _ _ _ h3
  exact ⟨_, _, round_core hr h1 h2 hr2 h4 h5, h6⟩

def asgC (P : Program) (l : Nat) (body : Code) (R : Out → AHeap → Prop) : Exit → AAct → AHeap → Prop := fun e a1 H2 => e = .normal ∧ ∃ lp le, getLoop H2 l = some (lp, le) ∧ lp.state = .ready ∧
      wpA P (some l) body (fun e2 _ H3 => ∃ j lp2 le2, jumpOf e2 = some j ∧ getLoop H3 l = some (lp2, le2) ∧ R (.ok (.bool j.isNone)) (setLoop H3 l { lp2 with state := if j.isNone then .ready else .done, pending := j } le2)) a1 (setLoop H2 l { lp with state := .busy } le)
def rndC (l : Nat) (R : Out → AHeap → Prop) : Exit → AAct → AHeap → Prop := fun e2 _ H3 => ∃ j lp2 le2, jumpOf e2 = some j ∧ getLoop H3 l = some (lp2, le2) ∧ R (.ok (.bool j.isNone)) (setLoop H3 l { lp2 with state := if j.isNone then .ready else .done, pending := j } le2)
theorem asgC_normal {l : Nat} {body : Code} {R : Out → AHeap → Prop} {a : AAct} : asgC P l body R .normal a H = ∃ lp le, getLoop H l = some (lp, le) ∧ lp.state = .ready ∧ wpA P (some l) body (rndC l R) a (setLoop H l { lp with state := .busy } le) := by
  simp only [asgC, true_and]
  rfl
theorem rndC_normal {l : Nat} {R : Out → AHeap → Prop} {a : AAct} : rndC l R .normal a H = ∃ lp2 le2, getLoop H l = some (lp2, le2) ∧ R (.ok (.bool true)) (setLoop H l { lp2 with state := .ready, pending := none } le2) := by
  simp [rndC, jumpOf]
theorem rndC_ret {l : Nat} {R : Out → AHeap → Prop} {a : AAct} : rndC l R .ret a H = ∃ lp2 le2, getLoop H l = some (lp2, le2) ∧ R (.ok (.bool false)) (setLoop H l { lp2 with state := .done, pending := some .ret } le2) := by
  simp [rndC, jumpOf]
theorem rndC_exit {l id : Nat} {R : Out → AHeap → Prop} {a : AAct} : rndC l R (.exit id) a H = ∃ lp2 le2, getLoop H l = some (lp2, le2) ∧ R (.ok (.bool false)) (setLoop H l { lp2 with state := .done, pending := some (.exit id) } le2) := by
  simp [rndC, jumpOf]

theorem callY_of (hmix : P.follows .mixedOrders = true) {l d : Nat} {ps : List Tmp} {assign body : Code} {args : List Value} {E1 : Env} {R : Out → AHeap → Prop}
    (hl : LoopAt H l { state := .ready, pending := none, fn := 0, tmps := #[], params := ⟨ps⟩, assign, body, defers := d } (rvOf N E)) (hlen : args.length = ps.length) (hE : zipSet ps args (rvOf N E) = rvOf N E1)
    (h : wpA P (some l) assign (asgC P l body R) (mkA N E1 []) H) : CallY P l args H R := by
  obtain ⟨o, hl⟩ := hl
  unfold CallY aYield
  rw [hl]
  simp only [hlen, if_true]
  refine roundA_of hmix ?_
  rw [hE]
  exact h

theorem zip_one {t : Tmp} {v : Value} (h : t < N) : zipSet [t] [v] (rvOf N E) = rvOf N (upd E t v) := by
  have hb : Nat.blt t (rvOf N E).n = true := blt_of h
  simp only [zipSet, hb, if_true]
  exact rvOf_set N E t v h
theorem zip_two {t u : Tmp} {v w : Value} (h : t < N) (h2 : u < N) : zipSet [t, u] [v, w] (rvOf N E) = rvOf N (upd (upd E t v) u w) := by
  have hb : Nat.blt t (rvOf N E).n = true := blt_of h
  have hb2 : Nat.blt u (rvOf N (upd E t v)).n = true := blt_of h2
  simp only [zipSet, hb, if_true, rvOf_set N E t v h, hb2]
  exact rvOf_set N _ u w h2

theorem w_env {c : Code} {Q : Exit → AAct → AHeap → Prop} (h : ∀ E', E' = E → wpA P ro c Q (mkA N E' ds) H) : wpA P ro c Q (mkA N E ds) H := h E rfl

def joinC (N : Nat) (ds : List Deferred) (I : Env → AHeap → Prop) : Exit → AAct → AHeap → Prop
  | .normal, a, H => ∃ E, a = mkA N E ds ∧ I E H
  | _, _, _ => False
theorem joinC_normal {I : Env → AHeap → Prop} : joinC N ds I .normal (mkA N E ds) H = ∃ E', mkA N E ds = mkA N E' ds ∧ I E' H := by simp only [joinC]
theorem condC_join {x y z : Code} {Q : Exit → AAct → AHeap → Prop} {b : Bool} (I : Env → AHeap → Prop) (h1 : b = true → wpA P ro x (joinC N ds I) (mkA N E ds) H) (h2 : b = false → wpA P ro y (joinC N ds I) (mkA N E ds) H) (h3 : ∀ E H, I E H → wpA P ro z Q (mkA N E ds) H) : condC P ro x y (seqC P ro z Q) (mkA N E ds) H (.bool b) := by
  have key : ∀ e a H, joinC N ds I e a H → seqC P ro z Q e a H := by
    intro e a H h
    cases e with
    | normal =>
      obtain ⟨E', rfl, hI⟩ := h
      exact h3 E' H hI
    | _ => exact h.elim
  exact condC_split (fun hb => wpA_mono x _ H key (h1 hb)) (fun hb => wpA_mono y _ H key (h2 hb))

def loopH (H : AHeap) (N : Nat) (E : Env) (ds : List Deferred) (ps : List Tmp) (assign body : Code) : AHeap := (H.new ⟨.deferred (some []), false, ⟨[], 0⟩⟩).new (newLoop (mkA N E ds) ⟨ps⟩ assign body H.next)

theorem loopH_next {ps : List Tmp} {assign body : Code} : (loopH H N E ds ps assign body).next = H.next + 2 := rfl
theorem loopH_loop {ps : List Tmp} {assign body : Code} : LoopAt (loopH H N E ds ps assign body) (H.next + 1) { state := .ready, pending := none, fn := 0, tmps := #[], params := ⟨ps⟩, assign, body, defers := H.next } (rvOf N E) := by
  refine ⟨false, ?_⟩
  unfold loopH
  rw [AHeap.get_new, if_pos (show H.next + 1 = (H.new ⟨.deferred (some []), false, ⟨[], 0⟩⟩).next from rfl)]
  rfl
theorem loopH_dfr {ps : List Tmp} {assign body : Code} : (loopH H N E ds ps assign body).get H.next = some ⟨.deferred (some []), false, ⟨[], 0⟩⟩ := by
  unfold loopH
  rw [AHeap.get_new, if_neg (show H.next ≠ (H.new ⟨.deferred (some []), false, ⟨[], 0⟩⟩).next by simp only [AHeap.new_eq]; omega), AHeap.get_new, if_pos rfl]
theorem loopH_mod {W : List Nat} {ps : List Tmp} {assign body : Code} (hok : H.base ≤ H.next) : Mod W H (loopH H N E ds ps assign body) :=
  (Mod.new hok).trans (Mod.new (show H.base ≤ H.next + 1 by omega))

def afterC (N : Nat) (E : Env) (ds : List Deferred) (l d : Nat) (Q : Exit → AAct → AHeap → Prop) : Out → AHeap → Prop := fun out H2 => match out with
  | .ok _ => ∃ lp le e, getLoop H2 l = some (lp, le) ∧ lp.state ≠ .busy ∧ pendE lp.pending = some e ∧ Q e (mkA N E ({ target := .collected d, args := #[] } :: ds)) (setLoop H2 l { lp with state := .exhausted } le)
  | .error ch => Q (.panic ch) (mkA N E ({ target := .collected d, args := #[] } :: ds)) H2

theorem w_range {t : Tmp} {ps : List Tmp} {assign body : Code} {f : FuncId} {ca : List Value} {Q : Exit → AAct → AHeap → Prop} (ht : t < N) (hv : E t = .func (.func f) ⟨[]⟩ ⟨ca⟩) (hb : hasBody P f = true)
    (h : CallA P f (.func (.yield (H.next + 1)) ⟨[]⟩ ⟨[]⟩ :: ca) (loopH H N E ds ps assign body) (afterC N E ds (H.next + 1) H.next Q)) : wpA P none (.rangeFunc (.tmp t) ⟨ps⟩ assign body) Q (mkA N E ds) H := by
  simp only [wpA, aeval_tmp N E ds t ht, hv, rangeA, enterLoop, aInvoke, enterN, hb, if_true, List.nil_append, List.cons_append]
  refine h.mono fun out H2 hq => ?_
  cases out with
  | ok v => exact hq
  | error ch => exact hq

theorem w_rangeK {t : Tmp} {ps : List Tmp} {assign body : Code} {f : FuncId} {ca : List Value} {Q : Exit → AAct → AHeap → Prop} (hok : H.base ≤ H.next) (ht : t < N) (hv : E t = .func (.func f) ⟨[]⟩ ⟨ca⟩) (hb : hasBody P f = true)
    (h : ∀ K, LoopAt K (H.next + 1) { state := .ready, pending := none, fn := 0, tmps := #[], params := ⟨ps⟩, assign, body, defers := H.next } (rvOf N E) → K.get H.next = some ⟨.deferred (some []), false, ⟨[], 0⟩⟩ → (∀ W, Mod W H K) → K.next = H.next + 2 →
      CallA P f (.func (.yield (H.next + 1)) ⟨[]⟩ ⟨[]⟩ :: ca) K (afterC N E ds (H.next + 1) H.next Q)) : wpA P none (.rangeFunc (.tmp t) ⟨ps⟩ assign body) Q (mkA N E ds) H :=
  w_range ht hv hb (h _ loopH_loop loopH_dfr (fun _ => loopH_mod hok) loopH_next)

theorem lv_mark {fn : Func} {a : AAct} {R : Out → AHeap → Prop} {d : Nat} {ds : List Deferred} (h : ∃ o v, H.get d = some ⟨.deferred (some []), o, v⟩) (hR : leaveA P fn a ds .returning (H.upd d (some ⟨.deferred none, false, ⟨[], 0⟩⟩)) R) :
    leaveA P fn a ({ target := .collected d, args := #[] } :: ds) .returning H R := ⟨h, hR⟩

theorem w_func {f : FuncId} {first captured : List Operand} {ops : Array Oper} {rest : List Oper} {d : Nat} {ty : TypeId} {pos : String} {after : Array Edge} {Q : Exit → AAct → AHeap → Prop} (h1 : first.all (opOk P N) = true) (h2 : captured.all (opOk P N) = true) (hd : d < N) :
    wpOps P ro ops (⟨some d, .makeFunc (.func f) ⟨first⟩ ⟨captured⟩, ty, pos, after, none⟩ :: rest) (mkA N E ds) H Q = wpOps P ro ops rest (mkA N (upd E d (.func (.func f) ⟨first.map (opv E)⟩ ⟨captured.map (opv E)⟩)) ds) H Q := by
  rw [w_op rfl rfl]
  simp only [opA, aop, xFunc, aevals_opv h1, aevals_opv h2, Option.bind_eq_bind, Option.bind_some, funcV, nextA, opC, put_some N E ds d _ hd]

theorem ok_nilfunc : opOk P N (.const .nilFunc) = true := by simp only [opOk, af]

theorem all_sub {l : List Value} (h : l.all one = true) (a b : Nat) : ((l.drop a).take b).all one = true := by
  rw [List.all_eq_true] at h ⊢
  exact fun x hx => h x (List.mem_of_mem_drop (List.mem_of_mem_take hx))

theorem first_rk {sz cnt n off len cap : Nat} {s : Option Nat} {b : Bl} (h : rk H n = some b) (hle : off + cnt * sz ≤ b.l.length) : firstC H sz cnt (.slice (some ⟨n, off, s⟩) len cap) = some ((b.l.drop off).take (cnt * sz)) := by
  obtain ⟨rv, h1, h2, h3⟩ := rk_blk h
  by_cases hc : cnt = 0
  · subst hc
    rw [Nat.zero_mul, List.take_zero]
    simp only [firstC, if_true]
  simp only [firstC, if_neg hc, h1, Option.bind_eq_bind, Option.bind_some]
  rw [if_pos (by rw [Nat.ble_eq]; omega), Blk.gets h2 h3 _ _ hle]
theorem first_bk {sz cnt n off len cap : Nat} {s : Option Nat} {b : Bl} (h : bk H n = some b) (hle : off + cnt * sz ≤ b.l.length) : firstC H sz cnt (.slice (some ⟨n, off, s⟩) len cap) = some ((b.l.drop off).take (cnt * sz)) := first_rk (rk_of h) hle

theorem app_nilR {st xt e : TypeId} {sz by1 n off cnt cap : Nat} {s : Option Nat} {z : Value} {b : Bl} (hu : P.underlying st = some (.slice e)) (hsz : szOf P e = some sz) (hby : bytesOf P e = some by1) (hz : zeroOf P e = some z) (hzl : z.cells.toList.length = sz) (hi : intTy P xt = some false)
    (hb : rk H n = some b) (hle : off + cnt * sz ≤ b.l.length) (hone : b.l.all one = true) (hc : 0 < cnt) (hsm : small cnt by1 = true) :
    aBuiltin P H .append ⟨[st, xt]⟩ [.slice none 0 0, .slice (some ⟨n, off, s⟩) cnt cap] = (aNew H e ((b.l.drop off).take (cnt * sz)) true).map fun g => (.slice (some ⟨H.next, 0, none⟩) cnt cnt, g) := by
  have hl : ((b.l.drop off).take (cnt * sz)).length = cnt * sz := by simp; omega
  simp only [aBuiltin, aAppend, hu, hsz, hby, hz, hi, Option.bind_eq_bind, Option.bind_some, lenV, first_rk hb hle, hl, hzl, Nat.zero_add, hsm, and_self, if_true, aAppend2]
  rw [if_neg (by omega)]
  simp only [firstC, Option.bind_some, List.length_nil, Nat.zero_mul, List.all_nil, all_sub hone, decide_true, Bool.and_self, if_true, List.nil_append]
  cases aNew H e ((b.l.drop off).take (cnt * sz)) true <;> rfl
theorem app_nil {st xt e : TypeId} {sz by1 n off cnt cap : Nat} {s : Option Nat} {z : Value} {b : Bl} (hu : P.underlying st = some (.slice e)) (hsz : szOf P e = some sz) (hby : bytesOf P e = some by1) (hz : zeroOf P e = some z) (hzl : z.cells.toList.length = sz) (hi : intTy P xt = some false)
    (hb : bk H n = some b) (hle : off + cnt * sz ≤ b.l.length) (hone : b.l.all one = true) (hc : 0 < cnt) (hsm : small cnt by1 = true) :
    aBuiltin P H .append ⟨[st, xt]⟩ [.slice none 0 0, .slice (some ⟨n, off, s⟩) cnt cap] = (aNew H e ((b.l.drop off).take (cnt * sz)) true).map fun g => (.slice (some ⟨H.next, 0, none⟩) cnt cnt, g) := app_nilR hu hsz hby hz hzl hi (rk_of hb) hle hone hc hsm

theorem app_openR {st xt e : TypeId} {sz by1 m k n off cnt cap : Nat} {s : Option Nat} {z : Value} {b : Bl} {old : List Value} (hu : P.underlying st = some (.slice e)) (hsz : szOf P e = some sz) (hby : bytesOf P e = some by1) (hz : zeroOf P e = some z) (hzl : z.cells.toList.length = sz) (hi : intTy P xt = some false)
    (hm : bk H m = some ⟨e, true, old⟩) (ho : old.length = k * sz) (hoo : old.all one = true)
    (hb : rk H n = some b) (hle : off + cnt * sz ≤ b.l.length) (hone : b.l.all one = true) (hc : 0 < cnt) (hsm : small (k + cnt) by1 = true) :
    aBuiltin P H .append ⟨[st, xt]⟩ [.slice (some ⟨m, 0, none⟩) k k, .slice (some ⟨n, off, s⟩) cnt cap] = (aNew (H.upd m none) e (old ++ (b.l.drop off).take (cnt * sz)) true).map fun g => (.slice (some ⟨H.next, 0, none⟩) (k + cnt) (k + cnt), g) := by
  have hl : ((b.l.drop off).take (cnt * sz)).length = cnt * sz := by simp; omega
  obtain ⟨rv, h1, h2, h3⟩ := bk_blk hm
  have hop : isOpen H m = some true := by
    obtain ⟨c0, f0, hg⟩ := cellsAt_get h1
    simp only [isOpen, hg]
  simp only at h1 h2 h3
  have hf := first_bk (sz := sz) (cnt := k) (off := 0) (len := k) (cap := k) (s := none) hm (by simp only; omega)
  simp only [List.drop_zero] at hf
  rw [List.take_of_length_le (by omega)] at hf
  simp only [aBuiltin, aAppend, hu, hsz, hby, hz, hi, Option.bind_eq_bind, Option.bind_some, lenV, first_rk hb hle, hl, hzl, hsm, and_self, if_true, aAppend2]
  rw [if_neg (by omega)]
  simp only [hf, Option.bind_some, ho, hoo, all_sub hone, decide_true, Bool.and_self, if_true, exactAp, exactAt, hop, Option.map_some, Bool.not_true, h1]
  rw [if_pos ⟨trivial, by rw [Nat.ble_eq]; omega⟩]
  cases aNew (H.upd m none) e (old ++ (b.l.drop off).take (cnt * sz)) true <;> rfl
theorem app_open {st xt e : TypeId} {sz by1 m k n off cnt cap : Nat} {s : Option Nat} {z : Value} {b : Bl} {old : List Value} (hu : P.underlying st = some (.slice e)) (hsz : szOf P e = some sz) (hby : bytesOf P e = some by1) (hz : zeroOf P e = some z) (hzl : z.cells.toList.length = sz) (hi : intTy P xt = some false)
    (hm : bk H m = some ⟨e, true, old⟩) (ho : old.length = k * sz) (hoo : old.all one = true)
    (hb : bk H n = some b) (hle : off + cnt * sz ≤ b.l.length) (hone : b.l.all one = true) (hc : 0 < cnt) (hsm : small (k + cnt) by1 = true) :
    aBuiltin P H .append ⟨[st, xt]⟩ [.slice (some ⟨m, 0, none⟩) k k, .slice (some ⟨n, off, s⟩) cnt cap] = (aNew (H.upd m none) e (old ++ (b.l.drop off).take (cnt * sz)) true).map fun g => (.slice (some ⟨H.next, 0, none⟩) (k + cnt) (k + cnt), g) := app_openR hu hsz hby hz hzl hi hm ho hoo (rk_of hb) hle hone hc hsm

theorem app_exactR {st xt e : TypeId} {sz by1 m k n off cnt cap : Nat} {s : Option Nat} {z : Value} {b bm : Bl} (hu : P.underlying st = some (.slice e)) (hsz : szOf P e = some sz) (hby : bytesOf P e = some by1) (hz : zeroOf P e = some z) (hzl : z.cells.toList.length = sz) (hi : intTy P xt = some false)
    (hm : bk H m = some bm) (ho : k * sz ≤ bm.l.length) (hoo : bm.l.all one = true)
    (hb : rk H n = some b) (hle : off + cnt * sz ≤ b.l.length) (hone : b.l.all one = true) (hc : 0 < cnt) (hsm : small (k + cnt) by1 = true) :
    aBuiltin P H .append ⟨[st, xt]⟩ [.slice (some ⟨m, 0, some 0⟩) k k, .slice (some ⟨n, off, s⟩) cnt cap] = (aNew H e (bm.l.take (k * sz) ++ (b.l.drop off).take (cnt * sz)) true).map fun g => (.slice (some ⟨H.next, 0, none⟩) (k + cnt) (k + cnt), g) := by
  have hl : ((b.l.drop off).take (cnt * sz)).length = cnt * sz := by simp; omega
  have hl2 : (bm.l.take (k * sz)).length = k * sz := by simp; omega
  have hf := first_bk (sz := sz) (cnt := k) (off := 0) (len := k) (cap := k) (s := some 0) hm (by omega)
  simp only [List.drop_zero] at hf
  have hoo2 := all_sub hoo 0 (k * sz)
  simp only [List.drop_zero] at hoo2
  simp only [aBuiltin, aAppend, hu, hsz, hby, hz, hi, Option.bind_eq_bind, Option.bind_some, lenV, first_rk hb hle, hl, hzl, hsm, and_self, if_true, aAppend2]
  rw [if_neg (by omega)]
  simp only [hf, Option.bind_some, hl2, hoo2, all_sub hone, decide_true, Bool.and_self, if_true, exactAp, exactAt]
  cases aNew H e (bm.l.take (k * sz) ++ (b.l.drop off).take (cnt * sz)) true <;> rfl
theorem app_exact {st xt e : TypeId} {sz by1 m k n off cnt cap : Nat} {s : Option Nat} {z : Value} {b bm : Bl} (hu : P.underlying st = some (.slice e)) (hsz : szOf P e = some sz) (hby : bytesOf P e = some by1) (hz : zeroOf P e = some z) (hzl : z.cells.toList.length = sz) (hi : intTy P xt = some false)
    (hm : bk H m = some bm) (ho : k * sz ≤ bm.l.length) (hoo : bm.l.all one = true)
    (hb : bk H n = some b) (hle : off + cnt * sz ≤ b.l.length) (hone : b.l.all one = true) (hc : 0 < cnt) (hsm : small (k + cnt) by1 = true) :
    aBuiltin P H .append ⟨[st, xt]⟩ [.slice (some ⟨m, 0, some 0⟩) k k, .slice (some ⟨n, off, s⟩) cnt cap] = (aNew H e (bm.l.take (k * sz) ++ (b.l.drop off).take (cnt * sz)) true).map fun g => (.slice (some ⟨H.next, 0, none⟩) (k + cnt) (k + cnt), g) := app_exactR hu hsz hby hz hzl hi hm ho hoo (rk_of hb) hle hone hc hsm

def dp (H : AHeap) (m : Nat) : AHeap := H.upd m none
theorem dp_next {m : Nat} : (dp H m).next = H.next := rfl
theorem dp_base {m : Nat} : (dp H m).base = H.base := rfl
theorem dp_get {m n : Nat} (h : n ≠ m) : (dp H m).get n = H.get n := by rw [dp, AHeap.get_upd, if_neg h]
theorem bk_dp {m n : Nat} (h : n ≠ m) : bk (dp H m) n = bk H n := bk_get (dp_get h)
theorem ext_dp {m : Nat} (h : m < H.next) : (ext H L).upd m none = ext (dp H m) L := ext_upd_old h
theorem ext_setLoop {l : Nat} {lp : Loop} {e : RV} (h : l < H.next) : setLoop (ext H L) l lp e = ext (setLoop H l lp e) L := ext_upd_old h
theorem setLoop_next {l : Nat} {lp : Loop} {e : RV} : (setLoop H l lp e).next = H.next := rfl
theorem setLoop_base {l : Nat} {lp : Loop} {e : RV} : (setLoop H l lp e).base = H.base := rfl
theorem setLoop_get {l n : Nat} {lp : Loop} {e : RV} (h : n ≠ l) : (setLoop H l lp e).get n = H.get n := by rw [setLoop, AHeap.get_upd, if_neg h]
theorem bk_setLoop {l n : Nat} {lp : Loop} {e : RV} (h : n ≠ l) : bk (setLoop H l lp e) n = bk H n := bk_get (setLoop_get h)


def rangeOf : Code → Option (Code × Code)
  | .seq x y => (match rangeOf x with
    | some r => some r
    | none => rangeOf y)
  | .cond _ x y => (match rangeOf x with
    | some r => some r
    | none => rangeOf y)
  | .block _ b => rangeOf b
  | .scope b => rangeOf b
  | .loop b => rangeOf b
  | .rangeFunc _ _ a b => some (a, b)
  | _ => none

structure Yld (P : Program) (l : Nat) (α : Type) (enc : α → List Value) (go : α → Bool) (cap : Nat) where
  Inv : List α → List Nat → List Nat → AHeap → Prop
  sub : ∀ {rs F W G}, Inv rs F W G → ∀ n ∈ W, n ∈ F
  dom : ∀ {rs F W G}, Inv rs F W G → ∀ n ∈ F, G.get n ≠ none ∧ n < G.next
  loc : ∀ {rs F W G G'}, Inv rs F W G → G.next ≤ G'.next → (∀ n ∈ F, G'.get n = G.get n) → Inv rs F W G'
  step : ∀ {rs F W G r}, Inv rs F W G → (∀ x ∈ rs, go x = true) → rs.length < cap → G.base ≤ G.next → CallY P l (enc r) G (fun out G' => out = .ok (.bool (go r)) ∧ ∃ F' W', Inv (rs ++ [r]) F' W' G' ∧ Mod W G G' ∧ (∀ n ∈ F', n ∈ F ∨ G.next ≤ n) ∧ (∀ n ∈ W', n ∈ W ∨ G.next ≤ n))

def upto {α : Type} (go : α → Bool) : List α → List α
  | [] => []
  | x :: r => if go x then x :: upto go r else [x]

theorem upto_all {α : Type} {go : α → Bool} : ∀ {l : List α}, l.all go = true → upto go l = l
  | [], _ => rfl
  | x :: r, h => by
    simp only [List.all_cons, Bool.and_eq_true] at h
    simp only [upto, h.1, if_true, upto_all h.2]
theorem upto_append {α : Type} {go : α → Bool} : ∀ {l m : List α}, l.all go = true → upto go (l ++ m) = l ++ upto go m
  | [], _, _ => rfl
  | x :: r, m, h => by
    simp only [List.all_cons, Bool.and_eq_true] at h
    simp only [List.cons_append, upto, h.1, if_true, upto_append h.2]
theorem upto_stop {α : Type} {go : α → Bool} : ∀ {l m : List α}, l.all go = false → upto go (l ++ m) = upto go l
  | [], _, h => by cases h
  | x :: r, m, h => by
    simp only [List.all_cons, Bool.and_eq_false_iff] at h
    simp only [List.cons_append, upto]
    by_cases hx : go x = true
    · simp only [hx, if_true]
      rw [upto_stop (h.elim (fun h => by rw [hx] at h; cases h) id)]
    · simp [hx]

theorem le_new {b i k : Nat} : (b + i ≤ b + k) = (i ≤ k) := by simp
theorem idsB_some {x : Bl} : (match (some x : Option Bl) with
    | some x => idsL x.l
    | none => []) = idsL x.l := rfl
def idsB : Option Bl → List Nat
  | some x => idsL x.l
  | none => []
theorem idsB_eq {e : TypeId} {o : Bool} {l : List Value} : idsB (some ⟨e, o, l⟩) = idsL l := by simp only [idsB]
theorem ids_at {b i : Nat} (h : H.next = b) (hi : i < L.length) : idsAt (ext H L) (b + i) = idsB L[i]? := by
  rw [ids_new h hi]
  cases L[i]? <;> rfl

def lenS (n : Nat) : Option TypeDesc → Option Value
  | some (.slice _) => some (goInt n)
  | some (.array m _) => some (goInt m)
  | _ => none
def lenR (n : Nat) : Option TypeDesc → Option Value
  | some (.slice _) => some (goInt n)
  | _ => none
theorem lenS_slice {n : Nat} {e : TypeId} : lenS n (some (.slice e)) = some (goInt n) := by simp only [lenS]
theorem lenR_slice {n : Nat} {e : TypeId} : lenR n (some (.slice e)) = some (goInt n) := by simp only [lenR]
theorem bt_lenS {t : TypeId} {x : Option Addr} {n c : Nat} : aBuiltin P H .len ⟨[t]⟩ [.slice x n c] = (lenS n (P.underlying t)).map fun v => (v, H) := by
  simp only [aBuiltin, aLen]
  cases P.underlying t with
  | none => rfl
  | some d => cases d <;> rfl
theorem rb_lenS {t : TypeId} {x : Option Addr} {n c : Nat} : regBt P .len ⟨[t]⟩ [.slice x n c] = lenR n (P.underlying t) := by
  simp only [regBt]
  cases P.underlying t with
  | none => rfl
  | some d => cases d <;> rfl
theorem go_int {n : Int} : goInt n = .int .i64 n := by simp only [goInt]
theorem ia_slice {t e : TypeId} {sz n off len cap : Nat} {s : Option Nat} {k : IntKind} {i : Int} (hu : P.underlying t = some (.slice e)) (hsz : szOf P e = some sz) (h0 : 0 ≤ i) (h1 : i < len) : aIndexAddr P t (.slice (some ⟨n, off, s⟩) len cap) (.int k i) = some (.pointer (some ⟨n, off + i.toNat * sz, none⟩)) := by
  simp only [aIndexAddr, hu, hsz, Option.bind_eq_bind, Option.bind_some, h0, h1, and_self, if_true]
theorem idsOk_new {anc j lo hi : Nat} {F W O : List Nat} {fps : List Fp} : IdsOk anc (⟨j, F, W, lo, hi⟩ :: fps) O = ((lo < hi → anc.testBit j = true ∨ ∀ n ∈ O, n < lo ∨ hi ≤ n) ∧ IdsOk anc fps O) := by simp [IdsOk]
theorem idsOk_anc {anc j lo hi : Nat} {F W O : List Nat} {fps : List Fp} (h : anc.testBit j = true) : IdsOk anc (⟨j, F, W, lo, hi⟩ :: fps) O = IdsOk anc fps O := by simp [IdsOk, h]
theorem meets_bit {anc j lo hi : Nat} {F W F' W' O : List Nat} (h : anc.testBit j = true) : Meets anc F W O ⟨j, F', W', lo, hi⟩ = True := by simp [Meets, h]
theorem meets_anc {anc j lo hi : Nat} {F W F' W' O : List Nat} {fps : List Fp} (h : anc.testBit j = true) : (∀ r ∈ (⟨j, F', W', lo, hi⟩ : Fp) :: fps, Meets anc F W O r) = ∀ r ∈ fps, Meets anc F W O r := by simp [Meets, h]

end
end Go.Ax

/- Walks over abstract heaps: pointers compared. -/
namespace Go.Ax
section
variable {P : Program} {ro : Option Nat} {H : AHeap} {N : Nat} {E : Env} {ds : List Deferred} {L : List Bl}

theorem isOpen_bk {n : Nat} {b : Bl} (h : bk H n = some b) : isOpen H n = some b.o := by
  unfold bk at h
  cases hc : cellsAt H n with
  | none => rw [hc] at h; cases h
  | some x =>
    rw [hc] at h
    obtain ⟨rv, e, o⟩ := x
    cases h
    obtain ⟨c0, f0, hg⟩ := cellsAt_get hc
    simp only [isOpen, hg]

def ptrTy (P : Program) (t : TypeId) : Bool :=
  match P.underlying t with
  | some (.pointer e) => (match szOf P e with
    | some (_ + 1) => true
    | _ => false)
  | _ => false

theorem aBin_ptr {op : BinOp} {t : TypeId} {a b : Addr} {b1 b2 : Bl} (ht : ptrTy P t = true) (h1 : bk H a.block = some b1) (h2 : bk H b.block = some b2) (o1 : b1.o = false) (o2 : b2.o = false) : aBin P H op t (.pointer (some a)) (.pointer (some b)) = eqOp op (a == b) := by
  unfold ptrTy at ht
  split at ht
  · rename_i e hu
    split at ht
    · rename_i k hs
      have i1 := isOpen_bk h1
      have i2 := isOpen_bk h2
      rw [o1] at i1
      rw [o2] at i2
      simp only [aBin, aBinAddr, aEq, hu, hs, i1, i2, Option.bind_some]
    · cases ht
  · cases ht

theorem addr_beq {n o m o' : Nat} : ((⟨n, o, none⟩ : Addr) == ⟨m, o', none⟩) = decide (n = m ∧ o = o') := by
  have : ((⟨n, o, none⟩ : Addr) == ⟨m, o', none⟩) = decide ((⟨n, o, none⟩ : Addr) = ⟨m, o', none⟩) := by
    first
      | rfl
      | (by_cases h : (⟨n, o, none⟩ : Addr) = ⟨m, o', none⟩
         · rw [h]; simp
         · simp [h])
  rw [this]
  simp

section
variable {ops : Array Oper} {anc : List Nat} {d : Nat} {ty : TypeId} {pos : String} {after : Array Edge} {rest : List Oper} {i : Nat} {fps : List Fp} {Q : AAct → AHeap → Prop}

theorem wd_ptr {op : BinOp} {t u : TypeId} {x y : Operand} {a b : Addr} {b1 b2 : Bl} {r : Bool} (hop : eqOp op (a == b) = some (.bool r)) (hx : opOk P N x = true) (hy : opOk P N y = true) (hd : d < N) (ht : ptrTy P t = true) (ha : opv E x = .pointer (some a)) (hb : opv E y = .pointer (some b)) (h1 : bk H a.block = some b1) (h2 : bk H b.block = some b2) (o1 : b1.o = false) (o2 : b2.o = false)
    (hm : ∀ r ∈ fps, Meets (anc.getD i 0) [a.block, b.block] [] [] r) (h : wkD P ops anc rest (i + 1) (⟨i, [a.block, b.block], [], H.next, H.next⟩ :: fps) (mkA N (upd E d (.bool r)) ds) H Q) :
    wkD P ops anc (⟨some d, .binOp op t x y u, ty, pos, after, none⟩ :: rest) i fps (mkA N E ds) H Q := by
  simp only [wkD, wantA, stepD, pureOp, binD, aeval_opv hx, aeval_opv hy, ha, hb, regBin]
  have hn := restrict_next H [a.block, b.block]
  have g1 : bk (H.restrict [a.block, b.block]) a.block = some b1 := (bk_get (by rw [restrict_get, if_pos (by simp)])).trans h1
  have g2 : bk (H.restrict [a.block, b.block]) b.block = some b2 := (bk_get (by rw [restrict_get, if_pos (by simp)])).trans h2
  refine ⟨[a.block, b.block], .bool r, H.restrict [a.block, b.block], ?_, ?_, (by rw [hn.2.2]; simp), fun r hr => fpOk_of ?_, ?_⟩
  · refine opS_of (x := .value (.bool r)) (g := H.restrict [a.block, b.block]) ?_ ⟨rfl, rfl⟩
    simp only [aop, xBin, aeval_opv hx, aeval_opv hy, ha, hb, Option.bind_eq_bind, Option.bind_some, binV, aBin_ptr ht g1 g2 o1 o2, hop]
  · intro n hn
    simp only [List.mem_cons, List.not_mem_nil, or_false] at hn
    rcases hn with rfl | rfl
    · exact bk_ne h1
    · exact bk_ne h2
  · simp only [outIds, hn.2.2, hn.1, Nat.sub_self, rangeFrom, List.append_nil, List.flatMap_nil, idsV]
    exact hm r hr
  · rw [merge_self, hn.2.2, hn.1]
    simp only [put_some N E ds d _ hd]
    exact h
end
end
end Go.Ax

/- Walks over abstract heaps: where ways meet again, some of which may have left the function. -/
namespace Go.Ax
section
variable {P : Program} {ro : Option Nat} {H : AHeap} {N : Nat} {E : Env} {ds : List Deferred} {L : List Bl}

def joinR (N : Nat) (ds : List Deferred) (J : Env → AHeap → Prop) (Q : Exit → AAct → AHeap → Prop) : Exit → AAct → AHeap → Prop
  | .normal, a, H => ∃ E, a = mkA N E ds ∧ J E H
  | e, a, H => Q e a H
theorem joinR_normal {J : Env → AHeap → Prop} {Q : Exit → AAct → AHeap → Prop} (h : J E H) : joinR N ds J Q .normal (mkA N E ds) H := ⟨E, rfl, h⟩
theorem joinR_ret {J : Env → AHeap → Prop} {Q : Exit → AAct → AHeap → Prop} {a : AAct} : joinR N ds J Q .ret a H = Q .ret a H := Eq.trans rfl rfl
theorem joinR_exit {J : Env → AHeap → Prop} {Q : Exit → AAct → AHeap → Prop} {a : AAct} {id : Nat} : joinR N ds J Q (.exit id) a H = Q (.exit id) a H := Eq.trans rfl rfl

theorem joinR_seq {J : Env → AHeap → Prop} {Q : Exit → AAct → AHeap → Prop} {z : Code} (h3 : ∀ E H, J E H → wpA P ro z Q (mkA N E ds) H) : ∀ e a H, joinR N ds J Q e a H → seqC P ro z Q e a H := by
  intro e a H h
  cases e with
  | normal =>
    obtain ⟨E', rfl, hI⟩ := h
    exact h3 E' H hI
  | _ => exact h

theorem condC_meet {x y z : Code} {Q : Exit → AAct → AHeap → Prop} {v : Value} (J : Env → AHeap → Prop) (h1 : condC P ro x y (joinR N ds J Q) (mkA N E ds) H v) (h3 : ∀ E H, J E H → wpA P ro z Q (mkA N E ds) H) : condC P ro x y (seqC P ro z Q) (mkA N E ds) H v := by
  cases v with
  | bool b =>
    cases b with
    | true => rw [condC_true] at h1 ⊢; exact wpA_mono x _ H (joinR_seq h3) h1
    | false => rw [condC_false] at h1 ⊢; exact wpA_mono y _ H (joinR_seq h3) h1
  | _ => exact h1

theorem blockC_meet {c z : Code} {id : Nat} {Q : Exit → AAct → AHeap → Prop} (J : Env → AHeap → Prop) (h1 : wpA P ro c (blockC id (joinR N ds J Q)) (mkA N E ds) H) (h3 : ∀ E H, J E H → wpA P ro z Q (mkA N E ds) H) : wpA P ro c (blockC id (seqC P ro z Q)) (mkA N E ds) H := by
  refine wpA_mono c _ H (fun e a H h => ?_) h1
  exact joinR_seq h3 _ _ _ h

theorem w_meet {c z : Code} {Q : Exit → AAct → AHeap → Prop} (J : Env → AHeap → Prop) (h1 : wpA P ro c (joinR N ds J Q) (mkA N E ds) H) (h3 : ∀ E H, J E H → wpA P ro z Q (mkA N E ds) H) : wpA P ro c (seqC P ro z Q) (mkA N E ds) H :=
  wpA_mono c _ H (joinR_seq h3) h1

theorem loopC_next {K : Env → AHeap → Prop} {Q : Exit → AAct → AHeap → Prop} (h : K E H) : loopC N ds K Q .normal (mkA N E ds) H := by
  rw [loopC_normal]
  exact ⟨E, rfl, h⟩

theorem putL_same : ∀ (l : List Value) (o : Nat) (v : Value), l[o]? = some v → putL l o [v] = l
  | [], o, v, h => by simp at h
  | x :: r, 0, v, h => by
    simp only [List.getElem?_cons_zero, Option.some.injEq] at h
    subst h
    cases r <;> rfl
  | x :: r, o + 1, v, h => by
    simp only [putL, putL_same r o v (by simpa using h)]
end
end Go.Ax

/- Walks over abstract heaps: structs compared, whose parts are numbers, truth values and strings. -/
namespace Go.Ax
section
variable {P : Program}

theorem peval_bind {α β : Type} (s : Sem α) (f : α → Sem β) : peval P (s >>= f) = (peval P s).bind fun a => peval P (f a) := by
  show peval P (Sem.bind s f) = _
  induction s with
  | pure x => rfl
  | program k ih => simp only [Sem.bind, peval]; exact ih P
  | mark m k ih => simp only [Sem.bind, peval]; exact ih
  | load | store | new | shape | freeze | frozen | getObj | setObj | choose | sys | halt => simp [Sem.bind, peval]

theorem peval_pure {α : Type} (a : α) : peval P (pure a : Sem α) = some a := rfl
theorem peval_program : peval P Go.program = some P := rfl

theorem peval_und {t : TypeId} {d : TypeDesc} (h : P.underlying t = some d) : peval P (underlying t) = some d := by
  simp only [underlying, peval_bind, peval_program, Option.bind_some, h, peval_pure]

theorem peval_agg {t : TypeId} {b : Bool} (h : aggT P t = some b) : peval P (isAgg t) = some b := by
  unfold aggT at h
  cases e : P.underlying t with
  | none => rw [e] at h; cases h
  | some d =>
    rw [e] at h
    simp only [isAgg, peval_bind, peval_und e, Option.bind_some]
    cases d <;> simp only [peval_pure] <;> simpa using h

theorem peval_size {t : TypeId} {n : Nat} (h : szOf P t = some n) : peval P (sizeOf t) = some n := by
  unfold szOf at h
  cases e : P.info? t with
  | none => rw [e] at h; cases h
  | some i =>
    rw [e] at h
    simp only [sizeOf, typeInfo, peval_bind, peval_program, Option.bind_some, e, peval_pure]
    simpa using h

def fit1 (P : Program) (t : TypeId) (v : Value) : Bool :=
  match P.underlying t, v with
  | some .bool, .bool _ => true
  | some (.int k), .int k' _ => k == k'
  | some .string, .string _ => true
  | _, _ => false
def fits (P : Program) : List TypeId → List Value → Bool
  | [], [] => true
  | t :: ts, v :: vs => fit1 P t v && fits P ts vs
  | _, _ => false
def eq1 : Value → Value → Bool
  | .bool a, .bool b => a == b
  | .int _ a, .int _ b => a == b
  | .string a, .string b => a == b
  | _, _ => false
def eqL : List Value → List Value → Bool
  | [], [] => true
  | x :: xs, y :: ys => eq1 x y && eqL xs ys
  | _, _ => false

def flatF (P : Program) (fl : TypeId → Option (List TypeId)) : List Field → Nat → Option (List TypeId)
  | [], _ => some []
  | f :: fs, o =>
    if f.name ≠ "_" ∧ f.offset = o then
      (match fl f.type with
      | some a => if szOf P f.type = some a.length then (match flatF P fl fs (o + a.length) with
        | some b => some (a ++ b)
        | none => none) else none
      | none => none)
    else none
def flat (P : Program) : Nat → TypeId → Option (List TypeId)
  | 0, _ => none
  | d + 1, t =>
    match P.underlying t with
    | some .bool => some [t]
    | some (.int _) => some [t]
    | some .string => some [t]
    | some (.struct fs) => if P.stoodInHeld t then none else flatF P (flat P d) fs.toList 0
    | _ => none

theorem peval_eq1 {d : Nat} {t : TypeId} {x y : Value} (hx : fit1 P t x = true) (hy : fit1 P t y = true) : peval P (Op.equalIn (d + 1) t x y) = some (eq1 x y) := by
  unfold fit1 at hx hy
  split at hx
  · rename_i a e
    rw [e] at hy
    cases y <;> simp only [Bool.false_eq_true] at hy
    simp only [Op.equalIn, peval_bind, peval_und e, Option.bind_some, peval_pure, eq1]
  · rename_i k k1 a e
    rw [e] at hy
    cases y <;> simp only [Bool.false_eq_true] at hy
    simp only [Op.equalIn, peval_bind, peval_und e, Option.bind_some, peval_pure, eq1]
    rw [if_pos ((eq_of_beq hx).symm.trans (eq_of_beq hy))]
    rfl
  · rename_i a e
    rw [e] at hy
    cases y <;> simp only [Bool.false_eq_true] at hy
    simp only [Op.equalIn, peval_bind, peval_und e, Option.bind_some, peval_pure, eq1]
  · cases hx

theorem fits_split : ∀ {ts us : List TypeId} {vs : List Value}, fits P (ts ++ us) vs = true → fits P ts (vs.take ts.length) = true ∧ fits P us (vs.drop ts.length) = true ∧ ts.length ≤ vs.length
  | [], us, vs, h => by simpa [fits] using h
  | t :: ts, us, [], h => by simp [fits] at h
  | t :: ts, us, v :: vs, h => by
    simp only [List.cons_append, fits, Bool.and_eq_true] at h
    have := fits_split h.2
    simp only [List.length_cons, List.take_succ_cons, List.drop_succ_cons, fits, h.1, this.1, this.2.1, Bool.and_self, true_and]
    omega
theorem eqL_split : ∀ {n : Nat} {xs ys : List Value}, n ≤ xs.length → n ≤ ys.length → eqL xs ys = (eqL (xs.take n) (ys.take n) && eqL (xs.drop n) (ys.drop n))
  | 0, xs, ys, _, _ => by simp [eqL]
  | n + 1, [], _, h, _ => by simp at h
  | n + 1, _ :: _, [], _, h => by simp at h
  | n + 1, x :: xs, y :: ys, h1, h2 => by
    simp only [List.length_cons, Nat.add_le_add_iff_right] at h1 h2
    simp only [List.take_succ_cons, List.drop_succ_cons, eqL, eqL_split h1 h2, Bool.and_assoc]
theorem fits_length : ∀ {ts : List TypeId} {vs : List Value}, fits P ts vs = true → ts.length = vs.length
  | [], [], _ => rfl
  | [], _ :: _, h => by simp [fits] at h
  | _ :: _, [], h => by simp [fits] at h
  | t :: ts, v :: vs, h => by
    simp only [fits, Bool.and_eq_true] at h
    simp only [List.length_cons, fits_length h.2]

theorem peval_struct {d : Nat} {t : TypeId} {xs ys : Array Value} {fs : Array Field} (ht : P.underlying t = some (.struct fs)) (hp : P.stoodInHeld t = false) :
    peval P (Op.equalIn (d + 1) t (.agg xs) (.agg ys)) = peval P (Op.eqFields d xs ys fs.toList) := by
  simp only [Op.equalIn, peval_bind, peval_und ht, Option.bind_some, peval_program, hp, Bool.false_eq_true, if_false]
  rw [← Array.forIn_toList]
  generalize fs.toList = l
  clear ht
  induction l with
  | nil => simp [Op.eqFields, peval_pure, peval_bind]
  | cons f fs ih =>
    simp only [List.forIn_cons, Op.eqFields, peval_bind]
    split
    · simp only [peval_bind]
      cases peval P (part f.type xs f.offset) with
      | none => rfl
      | some a =>
        simp only [Option.bind_some]
        cases peval P (part f.type ys f.offset) with
        | none => rfl
        | some b =>
          simp only [Option.bind_some]
          cases peval P (Op.equalIn d f.type a b) with
          | none => rfl
          | some r =>
            cases r
            · simp [peval_pure]
            · simp only [Option.bind_some, Bool.not_true, Bool.false_eq_true, if_false, peval_pure, peval_bind]
              rw [← ih]
    · simp only [peval_pure, peval_bind, Option.bind_some]
      rw [← ih]

theorem peval_part {t : TypeId} {sz o : Nat} {b : Bool} {xs : List Value} (ha : aggT P t = some b) (hs : szOf P t = some sz) (h1 : b = false → sz = 1) (hle : o + sz ≤ xs.length) :
    peval P (part t ⟨xs⟩ o) = some (if b then .agg ⟨(xs.drop o).take sz⟩ else xs.getD o undef) := by
  cases b with
  | true => 
    simp only [part, peval_bind, peval_agg ha, Option.bind_some, if_true, peval_size hs, peval_pure, Option.some.injEq, Value.agg.injEq]
    apply Array.ext'
    simp [Array.toList_extract, List.extract_eq_take_drop]
  | false =>
    have := h1 rfl
    have hlt : o < xs.length := by omega
    simp only [part, peval_bind, peval_agg ha, Option.bind_some, Bool.false_eq_true, if_false]
    simp [List.getElem?_eq_getElem hlt, peval_pure, List.getD_eq_getElem?_getD]

theorem flat_scalar {d : Nat} {t : TypeId} {ts : List TypeId} (h : flat P (d + 1) t = some ts) (ha : aggT P t = some false) : ts = [t] := by
  simp only [flat] at h
  unfold aggT at ha
  cases e : P.underlying t with
  | none => rw [e] at ha; cases ha
  | some td => rw [e] at h ha; cases td <;> simp_all

theorem flat_und {d : Nat} {t : TypeId} {ts : List TypeId} (h : flat P (d + 1) t = some ts) : ∃ b, aggT P t = some b := by
  simp only [flat] at h
  unfold aggT
  cases e : P.underlying t with
  | none => rw [e] at h; cases h
  | some td => rw [e] at h; cases td <;> simp_all

theorem peval_fields {d : Nat} (ih : ∀ t ts xs ys, flat P d t = some ts → aggT P t = some true → fits P ts xs = true → fits P ts ys = true → peval P (Op.equalIn d t (.agg ⟨xs⟩) (.agg ⟨ys⟩)) = some (eqL xs ys)) :
    ∀ (fs : List Field) (o : Nat) (ts : List TypeId) (xs ys : List Value), flatF P (flat P d) fs o = some ts → o ≤ xs.length → o ≤ ys.length → fits P ts (xs.drop o) = true → fits P ts (ys.drop o) = true → peval P (Op.eqFields d ⟨xs⟩ ⟨ys⟩ fs) = some (eqL (xs.drop o) (ys.drop o))
  | [], o, ts, xs, ys, h, _, _, hx, hy => by
    simp only [flatF, Option.some.injEq] at h
    subst h
    have h1 := fits_length hx
    have h2 := fits_length hy
    rw [List.eq_nil_of_length_eq_zero h1.symm, List.eq_nil_of_length_eq_zero h2.symm]
    rfl
  | f :: fs, o, ts, xs, ys, h, hox, hoy, hx, hy => by
    simp only [flatF] at h
    split at h
    · rename_i hf
      obtain ⟨hn, ho⟩ := hf
      cases e1 : flat P d f.type with
      | none => rw [e1] at h; cases h
      | some a =>
        rw [e1] at h
        simp only at h
        split at h
        · rename_i hsz
          cases e2 : flatF P (flat P d) fs (o + a.length) with
          | none => rw [e2] at h; cases h
          | some b =>
            rw [e2] at h
            simp only [Option.some.injEq] at h
            subst h
            obtain ⟨hx1, hx2, hxl⟩ := fits_split hx
            obtain ⟨hy1, hy2, hyl⟩ := fits_split hy
            have hsp := eqL_split hxl hyl
            rw [List.drop_drop] at hx2 hy2
            rw [List.drop_drop, List.drop_drop] at hsp
            rw [List.length_drop] at hxl hyl
            have key := peval_fields ih fs (o + a.length) b xs ys e2 (by omega) (by omega) hx2 hy2
            cases d with
            | zero => simp [flat] at e1
            | succ d =>
              obtain ⟨bb, hag⟩ := flat_und e1
              have h1 : bb = false → a.length = 1 := fun hb => by subst hb; rw [flat_scalar e1 hag]; rfl
              simp only [Op.eqFields, hn, ne_eq, not_false_eq_true, if_true, peval_bind, ho]
              rw [peval_part hag hsz h1 (by omega), peval_part hag hsz h1 (by omega)]
              simp only [Option.bind_some]
              have hr : peval P (Op.equalIn (d + 1) f.type (if bb then .agg ⟨(xs.drop o).take a.length⟩ else xs.getD o undef) (if bb then .agg ⟨(ys.drop o).take a.length⟩ else ys.getD o undef)) = some (eqL ((xs.drop o).take a.length) ((ys.drop o).take a.length)) := by
                cases bb with
                | true => simp only [if_true]; exact ih f.type a _ _ e1 hag hx1 hy1
                | false =>
                  have ha := flat_scalar e1 hag
                  have hl := h1 rfl
                  subst ha
                  have hlx : o < xs.length := by omega
                  have hly : o < ys.length := by omega
                  have gx : (xs.drop o).take 1 = [xs.getD o undef] := by rw [List.take_one, List.head?_drop, List.getElem?_eq_getElem hlx, List.getD_eq_getElem?_getD, List.getElem?_eq_getElem hlx]; rfl
                  have gy : (ys.drop o).take 1 = [ys.getD o undef] := by rw [List.take_one, List.head?_drop, List.getElem?_eq_getElem hly, List.getD_eq_getElem?_getD, List.getElem?_eq_getElem hly]; rfl
                  simp only [List.length_singleton, gx, gy, fits, Bool.and_true] at hx1 hy1 ⊢
                  simp only [Bool.false_eq_true, if_false, peval_eq1 hx1 hy1, eqL, Bool.and_true]
              rw [hr, Option.bind_some, hsp]
              cases eqL ((xs.drop o).take a.length) ((ys.drop o).take a.length) with
              | true => simp only [Bool.not_true, Bool.false_eq_true, if_false, Bool.true_and]; exact key
              | false => simp only [Bool.not_false, if_true, peval_pure, Bool.false_and]
        · cases h
    · cases h

theorem peval_eqS : ∀ (d : Nat) (t : TypeId) (ts : List TypeId) (xs ys : List Value), flat P d t = some ts → aggT P t = some true → fits P ts xs = true → fits P ts ys = true → peval P (Op.equalIn d t (.agg ⟨xs⟩) (.agg ⟨ys⟩)) = some (eqL xs ys)
  | 0, t, ts, xs, ys, h, _, _, _ => by simp [flat] at h
  | d + 1, t, ts, xs, ys, h, ha, hx, hy => by
    simp only [flat] at h
    unfold aggT at ha
    cases e : P.underlying t with
    | none => rw [e] at ha; cases ha
    | some td =>
      rw [e] at h ha
      cases td <;> simp only [reduceCtorEq, Option.some.injEq, Bool.false_eq_true] at ha h
      rename_i fs
      split at h
      · cases h
      · rename_i hp
        rw [peval_struct e (by simpa using hp)]
        exact peval_fields (peval_eqS d) fs.toList 0 ts xs ys h (Nat.zero_le _) (Nat.zero_le _) hx hy

theorem plain_eqS {op : BinOp} {t : TypeId} {ts : List TypeId} {xs ys : List Value} {x y : Operand} {r : Bool} (h : flat P 10000 t = some ts) (ha : aggT P t = some true) (hg : P.eqGuardType P.depth t = false) (hx : fits P ts xs = true) (hy : fits P ts ys = true) (hop : eqOp op (eqL xs ys) = some (.bool r)) :
    aPlain P (do eqGuard op t x y (.agg ⟨xs⟩) (.agg ⟨ys⟩); binOp op t (.agg ⟨xs⟩) (.agg ⟨ys⟩)) = some (.value (.bool r)) := by
  have key := peval_eqS 10000 t ts xs ys h ha hx hy
  cases op <;> simp only [eqOp, Option.some.injEq, Value.bool.injEq, reduceCtorEq] at hop
  all_goals
    subst hop
    simp only [aPlain, peval_bind, eqGuard, peval_program, peval_pure, Option.bind_some, hg, Bool.not_false, Bool.not_true, if_true, Bool.false_eq_true, if_false, binOp, Op.equal, Op.maxDepth, key, af]

theorem aBin_agg {H : AHeap} {op : BinOp} {t : TypeId} {xs : Array Value} {y : Value} : aBin P H op t (.agg xs) y = none := by
  cases y <;> rfl
theorem fits_af : ∀ {ts : List TypeId} {vs : List Value}, fits P ts vs = true → afL vs = true
  | [], [], _ => rfl
  | [], _ :: _, h => by simp [fits] at h
  | _ :: _, [], h => by simp [fits] at h
  | t :: ts, v :: vs, h => by
    simp only [fits, Bool.and_eq_true] at h
    have h1 := h.1
    unfold fit1 at h1
    have : af v = true := by split at h1 <;> first | rfl | cases h1
    simp only [afL, this, fits_af h.2, Bool.and_self]

variable {ro : Option Nat} {H : AHeap} {N : Nat} {E : Env} {ds : List Deferred}
theorem wd_same {op : Op} {ops : Array Oper} {anc : List Nat} {d : Nat} {ty : TypeId} {pos : String} {after : Array Edge} {rest : List Oper} {i : Nat} {fps : List Fp} {Q : AAct → AHeap → Prop} {v : Value}
    (hn : stepD P ⟨some d, op, ty, pos, after, none⟩ (mkA N E ds) H (anc.getD i 0) i fps = genD P ⟨some d, op, ty, pos, after, none⟩ (mkA N E ds) H (anc.getD i 0) i fps) (hx : ∀ G, aop op P (mkA N E ds) G = some (.value v, G)) (hv : idsV v = []) (hd : d < N)
    (h : wkD P ops anc rest (i + 1) (⟨i, [], [], H.next, H.next⟩ :: fps) (mkA N (upd E d v) ds) H Q) : wkD P ops anc (⟨some d, op, ty, pos, after, none⟩ :: rest) i fps (mkA N E ds) H Q := by
  have hr := restrict_next H []
  simp only [wkD, wantA]
  rw [hn]
  refine ⟨[], v, H.restrict [], opS_of (hx _) ⟨rfl, rfl⟩, by simp, (by rw [hr.2.2]; simp), fun r _ => fpOk_of ?_, ?_⟩
  · simp only [outIds, hr.2.2, hr.1, Nat.sub_self, rangeFrom, List.append_nil, List.flatMap_nil, hv]
    exact .inr ⟨by simp, by simp, fun _ => ⟨by simp, by simp⟩⟩
  · rw [merge_self, hr.2.2, hr.1]
    simp only [put_some N E ds d _ hd]
    exact h

theorem wd_eqS {op : BinOp} {t u : TypeId} {x y : Operand} {ts : List TypeId} {xs ys : List Value} {r : Bool} {ops : Array Oper} {anc : List Nat} {d : Nat} {ty : TypeId} {pos : String} {after : Array Edge} {rest : List Oper} {i : Nat} {fps : List Fp} {Q : AAct → AHeap → Prop}
    (h : flat P 10000 t = some ts) (ha : aggT P t = some true) (hg : P.eqGuardType P.depth t = false) (hop : eqOp op (eqL xs ys) = some (.bool r)) (hx : opOk P N x = true) (hy : opOk P N y = true) (hd : d < N) (hvx : opv E x = .agg ⟨xs⟩) (hvy : opv E y = .agg ⟨ys⟩) (fx : fits P ts xs = true) (fy : fits P ts ys = true)
    (hk : wkD P ops anc rest (i + 1) (⟨i, [], [], H.next, H.next⟩ :: fps) (mkA N (upd E d (.bool r)) ds) H Q) : wkD P ops anc (⟨some d, .binOp op t x y u, ty, pos, after, none⟩ :: rest) i fps (mkA N E ds) H Q := by
  refine wd_same ?_ (fun G => ?_) rfl hd hk
  · funext K
    simp only [stepD, pureOp, binD, aeval_opv hx, aeval_opv hy, hvx, hvy, regBin]
  · simp only [aop, xBin, aeval_opv hx, aeval_opv hy, hvx, hvy, Option.bind_eq_bind, Option.bind_some, binV, aBin_agg, af, afA, fits_af fx, fits_af fy, Bool.and_self, if_true, plain_eqS h ha hg fx fy hop, Option.map_some]

theorem w_eqS {op : BinOp} {t u : TypeId} {x y : Operand} {ts : List TypeId} {xs ys : List Value} {r : Bool} {ops : Array Oper} {d : Nat} {ty : TypeId} {pos : String} {after : Array Edge} {rest : List Oper} {Q : Exit → AAct → AHeap → Prop}
    (h : flat P 10000 t = some ts) (ha : aggT P t = some true) (hg : P.eqGuardType P.depth t = false) (hop : eqOp op (eqL xs ys) = some (.bool r)) (hx : opOk P N x = true) (hy : opOk P N y = true) (hd : d < N) (hvx : opv E x = .agg ⟨xs⟩) (hvy : opv E y = .agg ⟨ys⟩) (fx : fits P ts xs = true) (fy : fits P ts ys = true)
    (hk : wpOps P ro ops rest (mkA N (upd E d (.bool r)) ds) H Q) : wpOps P ro ops (⟨some d, .binOp op t x y u, ty, pos, after, none⟩ :: rest) (mkA N E ds) H Q := by
  rw [w_rv (x := some (.bool r)) rfl ?_ hd, valC_some]
  · exact hk
  · simp only [aop, xBin, aeval_opv hx, aeval_opv hy, hvx, hvy, Option.bind_eq_bind, Option.bind_some, binV, aBin_agg, af, afA, fits_af fx, fits_af fy, Bool.and_self, if_true, plain_eqS h ha hg fx fy hop, Option.map_some]
    rfl
end
end Go.Ax

/- Walks over abstract heaps: methods called through interfaces. -/
namespace Go.Ax
section
variable {P : Program} {ro : Option Nat} {H : AHeap}

theorem genV_modE {N : Nat} {E : Env} {ds : List Deferred} {ops : Array Oper} {anc : List Nat} {o : Oper} {vals : List Value} {W : List Nat} {rest : List Oper} {i : Nat} {fps : List Fp} {Q : AAct → AHeap → Prop} {f : FuncId} {v : Value} {g : AHeap}
    (F : List Nat) (hok : H.base ≤ H.next) (hx : ∀ G, aop o.op P (mkA N E ds) G = some (.enter f vals, G)) (hF : ∀ n ∈ F, H.get n ≠ none) (hlt : ∀ n ∈ F, n < H.next) (hW : ∀ n ∈ W, n ∈ F)
    (hc : CallS P f vals (H.restrict F) (.ok v) g) (hmod : Mod W (H.restrict F) g)
    (hm : ∀ r ∈ fps, (anc.getD i 0).testBit r.i = true ∨ (r.hi ≤ r.lo ∧ (∀ n ∈ r.W, n ∉ F) ∧ (∀ n ∈ r.F, n ∉ W)))
    (h : ∀ H' D, Mod W H H' → (∀ n ∈ F, H'.get n = g.get n) → (∀ n, H.next ≤ n → n < g.next → H'.get n = g.get n) → H'.next = g.next → (∀ n ∈ D, n ∈ W) → wkD P ops anc rest (i + 1) (⟨i, F, D, H.next, g.next⟩ :: fps) ((mkA N E ds).put o.dst v) H' Q) :
    genV P ops anc o rest i fps (mkA N E ds) H Q := by
  have hn := restrict_next H F
  have hd : ∀ n ∈ g.dirty, n ∈ W := by
    intro n hg
    rcases hmod.dirty n hg with h | h
    · rw [hn.2.2] at h; cases h
    · exact h.1
  have hle : H.next ≤ g.next := by have := hmod.next; rw [hn.1] at this; exact this
  have hgF : ∀ n ∈ F, (H.merge g).get n = g.get n := by
    intro n hnF
    by_cases hgd : n ∈ g.dirty
    · exact merge_pos H g hle (.inl hgd)
    · rw [merge_neg H g hle]
      · rw [hmod.keep n (by rw [hn.2.1]; exact hlt n hnF) hgd, restrict_get, if_pos hnF]
      · rintro (h' | h')
        · exact hgd h'
        · have := hlt n hnF; omega
  have hmf := merge_facts H g
  refine ⟨F, v, g, ?_, hF, fun n h' => hW n (hd n h'), fun r hr => fpOk_of ?_, ?_⟩
  · exact opS_of (x := .enter f vals) (g := H.restrict F) (hx _) hc
  · rcases hm r hr with h' | ⟨h1, h2, h3⟩
    · exact .inl h'
    · exact .inr ⟨h2, fun n hnr hng => h3 n hnr (hd n hng), fun hlt' => absurd hlt' (by omega)⟩
  · refine h (H.merge g) g.dirty ⟨by rw [hmf.1]; exact hle, hmf.2.1, fun n hnl hnW => ?_, hmf.2.2.1, fun n hnd => ?_, fun n hnb hnd => ?_⟩ hgF (fun n h1 h2 => merge_pos H g hle (.inr ⟨h1, h2⟩)) hmf.1 hd
    · rw [merge_neg H g hle]
      rintro (h' | h')
      · exact hnW (hd n h')
      · omega
    · rcases merge_dirtW H g n hnd with h' | h'
      · exact .inl h'
      · exact .inr ⟨hd n h'.1, h'.2⟩
    · by_cases hgd : n ∈ g.dirty
      · exact absurd (hmf.2.2.2 n hgd hnb) hnd
      · rw [merge_neg H g hle]
        rintro (h' | h')
        · exact hgd h'
        · omega

variable {N : Nat} {E : Env} {ds : List Deferred} {ops : Array Oper} {anc : List Nat} {ty : TypeId} {pos : String} {after : Array Edge} {rest : List Oper} {i : Nat} {fps : List Fp}

theorem wd_invoke {Q : AAct → AHeap → Prop} {x : Operand} {name : String} {args : Array Operand} {ts : Array TypeId} {dst : Option Nat} : wkD P ops anc (⟨dst, .call ⟨.invoke x name, args, ts⟩, ty, pos, after, none⟩ :: rest) i fps (mkA N E ds) H Q = genV P ops anc ⟨dst, .call ⟨.invoke x name, args, ts⟩, ty, pos, after, none⟩ rest i fps (mkA N E ds) H Q := by
  simp only [wkD, wantA, stepD, pureOp, restD, newOp, genV]

theorem invoke_enter {x : Operand} {name : String} {args : List Operand} {ts : Array TypeId} {f : FuncId} {vals : List Value} {G : AHeap} (hx : opOk P N x = true) (ha : args.all (opOk P N) = true) (hi : aInvoke P G (.method name) (opv E x :: args.map (opv E)) [] = some (.enter f vals)) :
    aop (.call ⟨.invoke x name, ⟨args⟩, ts⟩) P (mkA N E ds) G = some (.enter f vals, G) := by
  simp only [aop, xCall, aevals_opv ha, aeval_opv hx, Option.bind_eq_bind, Option.bind_some, hi, Option.map_some]

theorem w_invoke {Q : Exit → AAct → AHeap → Prop} {x : Operand} {name : String} {args : List Operand} {ts : Array TypeId} {dst : Option Nat} {f : FuncId} {vals : List Value} (hx : opOk P N x = true) (ha : args.all (opOk P N) = true) (hi : aInvoke P H (.method name) (opv E x :: args.map (opv E)) [] = some (.enter f vals))
    (h : CallA P f vals H (opC P ro ops rest (mkA N E ds) dst Q)) : wpOps P ro ops (⟨dst, .call ⟨.invoke x name, ⟨args⟩, ts⟩, ty, pos, after, none⟩ :: rest) (mkA N E ds) H Q := by
  rw [w_op rfl rfl]
  simp only [opA, invoke_enter hx ha hi, nextA]
  exact h
end
end Go.Ax

/- Walks over abstract heaps: append within a slice's capacity, to nil, of noughts; cap; slices from the begin. -/
namespace Go.Ax
section
variable {P : Program} {H : AHeap}

theorem app_in {st xt e : TypeId} {sz by1 m off k cap n : Nat} {sp : Option Nat} {z x : Value} {new : List Value} (hu : P.underlying st = some (.slice e)) (hsz : szOf P e = some sz) (hby : bytesOf P e = some by1) (hz : zeroOf P e = some z) (hzl : z.cells.toList.length = sz) (hi : intTy P xt = some false)
    (hx : lenV x = some n) (hf : firstC H sz n x = some new) (hl : new.length = n * sz) (hc : k + n ≤ cap) (hsm : small (k + n) by1 = true) :
    aBuiltin P H .append ⟨[st, xt]⟩ [.slice (some ⟨m, off, sp⟩) k cap, x] = (aWrite H m (off + k * sz) new).map fun g => (.slice (some ⟨m, off, sp⟩) (k + n) cap, g) := by
  simp only [aBuiltin, aAppend, hu, hsz, hby, hz, hi, Option.bind_eq_bind, Option.bind_some, hx, hf, hl, hzl, hsm, and_self, if_true, aAppend2, hc]
  cases aWrite H m (off + k * sz) new <;> rfl

theorem app_nn {st xt e : TypeId} {sz by1 : Nat} {z x : Value} (hu : P.underlying st = some (.slice e)) (hsz : szOf P e = some sz) (hby : bytesOf P e = some by1) (hz : zeroOf P e = some z) (hzl : z.cells.toList.length = sz) (hi : intTy P xt = some false)
    (hx : lenV x = some 0) (hf : firstC H sz 0 x = some []) :
    aBuiltin P H .append ⟨[st, xt]⟩ [.slice none 0 0, x] = some (.slice none 0 0, H) := by
  have hsm : small (0 + 0) by1 = true := by simp [small]
  simp only [aBuiltin, aAppend, hu, hsz, hby, hz, hi, Option.bind_eq_bind, Option.bind_some, hx, hf, List.length_nil, Nat.zero_mul, hzl, hsm, and_self, if_true, aAppend2, Nat.le_refl, Nat.zero_add]

theorem app_zero {st xt e : TypeId} {sz by1 n : Nat} {z : Value} (hu : P.underlying st = some (.slice e)) (hsz : szOf P e = some sz) (hby : bytesOf P e = some by1) (hz : zeroOf P e = some z) (hzl : z.cells.toList.length = sz) (hi : intTy P xt = some true)
    (hn : 0 < n) (ho : (zerosL z.cells.toList n).all one = true) (hsm : small n by1 = true) :
    aBuiltin P H .append ⟨[st, xt]⟩ [.slice none 0 0, .int .i64 (n : Int)] = (aNew H e (zerosL z.cells.toList n) true).map fun g => (.slice (some ⟨H.next, 0, none⟩) n n, g) := by
  have h0 : (0 : Int) ≤ (n : Int) := by omega
  simp only [aBuiltin, aAppend, hu, hsz, hby, hz, hi, Option.bind_eq_bind, Option.bind_some, hzl, Int.toNat_natCast, Nat.zero_add, hsm, h0, and_self, if_true, aAppend2]
  rw [if_neg (by omega)]
  simp only [firstC, Option.bind_some, List.length_nil, Nat.zero_mul, List.all_nil, ho, decide_true, Bool.and_self, if_true, List.nil_append]
  cases aNew H e (zerosL z.cells.toList n) true <;> rfl

theorem bt_capN {t e : TypeId} {l c : Nat} (h : P.underlying t = some (.slice e)) : aBuiltin P H .cap ⟨[t]⟩ [.slice none l c] = some (goInt c, H) := by
  simp only [aBuiltin, aCap, h, Option.map_some]

theorem sl_nil {t e : TypeId} {sz l c : Nat} (h : P.underlying t = some (.slice e)) (hs : szOf P e = some sz) : aSlice P H t (.slice none l c) none (some (.int .i64 0)) none = some (.slice none 0 c, H) := by
  simp only [aSlice, h, hs, Option.bind_eq_bind, Option.bind_some, aSlice2, bound, Int.le_refl, if_true, Int.toNat_zero, Nat.zero_le, and_self, Nat.sub_zero]

theorem sl_open {t e : TypeId} {sz n off l c : Nat} {b : Bl} (h : P.underlying t = some (.slice e)) (hs : szOf P e = some sz) (hb : bk H n = some b) (ho : b.o = true) : aSlice P H t (.slice (some ⟨n, off, none⟩) l c) none (some (.int .i64 0)) none = some (.slice (some ⟨n, off, none⟩) 0 c, H) := by
  simp only [aSlice, h, hs, Option.bind_eq_bind, Option.bind_some, aSlice2, bound, Int.le_refl, if_true, Int.toNat_zero, Nat.zero_le, and_self, exactAt, isOpen_bk hb, ho, Option.map_some, Bool.not_true]

theorem zerosL_length {z : List Value} : ∀ n, (zerosL z n).length = n * z.length
  | 0 => by simp [zerosL]
  | n + 1 => by simp only [zerosL, List.length_append, zerosL_length n, Nat.succ_mul]; omega
theorem zerosL_one {z : List Value} (h : z.all one = true) : ∀ n, (zerosL z n).all one = true
  | 0 => rfl
  | n + 1 => by simp only [zerosL, List.all_append, h, zerosL_one h n, Bool.and_self]
theorem zerosL_sc {z : List Value} {N : Nat} (h : scbL N z = true) : ∀ n, scbL N (zerosL z n) = true
  | 0 => rfl
  | n + 1 => scbL_append h (zerosL_sc h n)
theorem zerosL_drop {z : List Value} : ∀ n k, (zerosL z n).drop (k * z.length) = zerosL z (n - k)
  | n, 0 => by simp
  | 0, k + 1 => by simp [zerosL]
  | n + 1, k + 1 => by
    rw [show (k + 1) * z.length = z.length + k * z.length by rw [Nat.succ_mul]; omega, ← List.drop_drop]
    simp only [zerosL, List.drop_left, Nat.reduceSubDiff]
    exact zerosL_drop n k

theorem genV_modO {N : Nat} {E : Env} {ds : List Deferred} {ops : Array Oper} {anc : List Nat} {o : Oper} {W : List Nat} {rest : List Oper} {i : Nat} {fps : List Fp} {Q : AAct → AHeap → Prop} {v : Value} {g : AHeap}
    (F : List Nat) (hok : H.base ≤ H.next) (hF : ∀ n ∈ F, H.get n ≠ none) (hlt : ∀ n ∈ F, n < H.next) (hW : ∀ n ∈ W, n ∈ F)
    (hc : OpS P (mkA N E ds) (H.restrict F) o (.ok v) g) (hmod : Mod W (H.restrict F) g)
    (hm : ∀ r ∈ fps, (anc.getD i 0).testBit r.i = true ∨ (r.hi ≤ r.lo ∧ (∀ n ∈ r.W, n ∉ F) ∧ (∀ n ∈ r.F, n ∉ W)))
    (h : ∀ H' D, Mod W H H' → (∀ n ∈ F, H'.get n = g.get n) → (∀ n, H.next ≤ n → n < g.next → H'.get n = g.get n) → H'.next = g.next → (∀ n ∈ D, n ∈ W) → wkD P ops anc rest (i + 1) (⟨i, F, D, H.next, g.next⟩ :: fps) ((mkA N E ds).put o.dst v) H' Q) :
    genV P ops anc o rest i fps (mkA N E ds) H Q := by
  have hn := restrict_next H F
  have hd : ∀ n ∈ g.dirty, n ∈ W := by
    intro n hg
    rcases hmod.dirty n hg with h | h
    · rw [hn.2.2] at h; cases h
    · exact h.1
  have hle : H.next ≤ g.next := by have := hmod.next; rw [hn.1] at this; exact this
  have hgF : ∀ n ∈ F, (H.merge g).get n = g.get n := by
    intro n hnF
    by_cases hgd : n ∈ g.dirty
    · exact merge_pos H g hle (.inl hgd)
    · rw [merge_neg H g hle]
      · rw [hmod.keep n (by rw [hn.2.1]; exact hlt n hnF) hgd, restrict_get, if_pos hnF]
      · rintro (h' | h')
        · exact hgd h'
        · have := hlt n hnF; omega
  have hmf := merge_facts H g
  refine ⟨F, v, g, ?_, hF, fun n h' => hW n (hd n h'), fun r hr => fpOk_of ?_, ?_⟩
  · exact hc
  · rcases hm r hr with h' | ⟨h1, h2, h3⟩
    · exact .inl h'
    · exact .inr ⟨h2, fun n hnr hng => h3 n hnr (hd n hng), fun hlt' => absurd hlt' (by omega)⟩
  · refine h (H.merge g) g.dirty ⟨by rw [hmf.1]; exact hle, hmf.2.1, fun n hnl hnW => ?_, hmf.2.2.1, fun n hnd => ?_, fun n hnb hnd => ?_⟩ hgF (fun n h1 h2 => merge_pos H g hle (.inr ⟨h1, h2⟩)) hmf.1 hd
    · rw [merge_neg H g hle]
      rintro (h' | h')
      · exact hnW (hd n h')
      · omega
    · rcases merge_dirtW H g n hnd with h' | h'
      · exact .inl h'
      · exact .inr ⟨hd n h'.1, h'.2⟩
    · by_cases hgd : n ∈ g.dirty
      · exact absurd (hmf.2.2.2 n hgd hnb) hnd
      · rw [merge_neg H g hle]
        rintro (h' | h')
        · exact hgd h'
        · omega

theorem wd_app {N : Nat} {E : Env} {ds : List Deferred} {ops : Array Oper} {anc : List Nat} {ty : TypeId} {pos : String} {after : Array Edge} {rest : List Oper} {i : Nat} {fps : List Fp} {Q : AAct → AHeap → Prop} {args : List Operand} {ts : Array TypeId} {dst : Option Nat} (ha : args.all (opOk P N) = true) : wkD P ops anc (⟨dst, .call ⟨.builtin .append, ⟨args⟩, ts⟩, ty, pos, after, none⟩ :: rest) i fps (mkA N E ds) H Q = genV P ops anc ⟨dst, .call ⟨.builtin .append, ⟨args⟩, ts⟩, ty, pos, after, none⟩ rest i fps (mkA N E ds) H Q := by
  simp only [wkD, wantA, stepD, pureOp, restD, newOp, genV, aevals_opv ha, btD, regBt]

theorem app_op {N : Nat} {E : Env} {ds : List Deferred} {ty : TypeId} {pos : String} {after : Array Edge} {args : List Operand} {ts : Array TypeId} {dst : Option Nat} {v : Value} {G : AHeap} (ha : args.all (opOk P N) = true) (h : aBuiltin P H .append ts (args.map (opv E)) = some (v, G)) : OpS P (mkA N E ds) H ⟨dst, .call ⟨.builtin .append, ⟨args⟩, ts⟩, ty, pos, after, none⟩ (.ok v) G :=
  opS_of (x := .value v) (g := G) (by simp only [aop, xCall, aevals_opv ha, Option.bind_eq_bind, Option.bind_some, h, rvh, Option.map_some]) ⟨rfl, rfl⟩

theorem genV_extO {N : Nat} {E : Env} {ds : List Deferred} {ops : Array Oper} {anc : List Nat} {o : Oper} {d : Nat} {rest : List Oper} {i : Nat} {fps : List Fp} {Q : AAct → AHeap → Prop} {v : Value} {M : List Bl} (F : List Nat) (hdst : o.dst = some d) (hd : d < N) (hF : ∀ n ∈ F, H.get n ≠ none)
    (hc : ∀ G : AHeap, G.next = H.next → (∀ n ∈ F, G.get n = H.get n) → OpS P (mkA N E ds) G o (.ok v) (ext G M)) (hm : ∀ r ∈ fps, Meets (anc.getD i 0) F [] (idsV v ++ M.flatMap fun x => idsL x.l) r)
    (h : wkD P ops anc rest (i + 1) (⟨i, F, [], H.next, H.next + M.length⟩ :: fps) (mkA N (upd E d v) ds) (ext H M) Q) : genV P ops anc o rest i fps (mkA N E ds) H Q := by
  have hn := restrict_next H F
  have hd' : (ext (H.restrict F) M).dirty = [] := by rw [ext_dirty, hn.2.2]
  have hnx : (ext (H.restrict F) M).next = H.next + M.length := by rw [ext_next, hn.1]
  have hget : ∀ j, j < M.length → (ext (H.restrict F) M).get (H.next + j) = M[j]?.map Bl.obj := by
    intro j hj
    rw [← hn.1]
    exact ext_get_new hj
  have hmn : ∀ (M : List Bl) (K g : AHeap) (m : Nat), K.next = m → (∀ j, j < M.length → g.get (m + j) = M[j]?.map Bl.obj) → ∀ h', h' = AHeap.mergeN K g m M.length → (⟨h'.root, m + M.length, h'.base, h'.dirty⟩ : AHeap) = ext K M := by
    intro M
    induction M with
    | nil => intro K g m hK _ h' hh; subst hK; subst hh; rfl
    | cons x M ih =>
      intro K g m hK hg h' hh
      have h0 := hg 0 (by simp)
      simp only [Nat.add_zero, List.getElem?_cons_zero, Option.map_some] at h0
      rw [List.length_cons] at hh
      simp only [AHeap.mergeN, h0] at hh
      have := ih (nw K x.e x.l x.o) g (m + 1) (by rw [nw_next, hK]) (fun j hj => by
        have := hg (j + 1) (by simpa using hj)
        simp only [List.getElem?_cons_succ] at this
        rw [show m + 1 + j = m + (j + 1) by omega]
        exact this) (AHeap.mergeN (nw K x.e x.l x.o) g (m + 1) M.length) rfl
      have key : ∀ (A B : AHeap) (n k : Nat), A.root = B.root → A.base = B.base → A.dirty = B.dirty → (AHeap.mergeN A g n k).root = (AHeap.mergeN B g n k).root ∧ (AHeap.mergeN A g n k).base = (AHeap.mergeN B g n k).base ∧ (AHeap.mergeN A g n k).dirty = (AHeap.mergeN B g n k).dirty := by
        intro A B n k
        induction k generalizing A B n with
        | zero => exact fun h1 h2 h3 => ⟨h1, h2, h3⟩
        | succ k ihk =>
          intro h1 h2 h3
          simp only [AHeap.mergeN]
          exact ihk _ _ _ (by simp only [AHeap.put_eq, h1]) h2 h3
      have k2 := key (nw K x.e x.l x.o) (K.put m (some x.obj)) (m + 1) M.length (by simp only [nw, AHeap.new_eq, AHeap.put_eq, hK, Bl.obj]) rfl rfl
      rw [ext, ← this, hh, k2.1, k2.2.1, k2.2.2, List.length_cons, show m + (M.length + 1) = m + 1 + M.length by omega]
  have hmg : H.merge (ext (H.restrict F) M) = ext H M := by
    unfold AHeap.merge
    rw [hd', hnx, Nat.add_sub_cancel_left]
    simp only [AHeap.mergeW]
    exact hmn M H _ H.next rfl hget _ rfl
  refine ⟨F, v, ext (H.restrict F) M, ?_, hF, (by rw [hd']; simp), fun r hr => fpOk_of ?_, ?_⟩
  · exact hc _ hn.1 (fun n hn' => by rw [restrict_get, if_pos hn'])
  · have hids : ∀ (k s : Nat), s + k = M.length → (rangeFrom (H.next + s) k).flatMap (idsAt (ext (H.restrict F) M)) = (M.drop s).flatMap fun x => idsL x.l := by
      intro k
      induction k with
      | zero => intro s hs; rw [rangeFrom, List.drop_eq_nil_of_le (by omega)]; rfl
      | succ k ih =>
        intro s hs
        have hlt : s < M.length := by omega
        rw [rangeFrom, List.flatMap_cons, List.drop_eq_getElem_cons hlt, List.flatMap_cons]
        have := ih (s + 1) (by omega)
        rw [show H.next + (s + 1) = H.next + s + 1 by omega] at this
        rw [this]
        congr 1
        simp only [idsAt, hget s hlt, List.getElem?_eq_getElem hlt, Option.map_some, Bl.obj, idsO, RV.n_ofList, RV.gets_ofList]
    have := hids M.length 0 (by omega)
    simp only [Nat.add_zero, List.drop_zero] at this
    rw [hd']
    simp only [outIds, hd', hnx, Nat.add_sub_cancel_left, List.nil_append, this]
    exact hm r hr
  · rw [hmg, hd', hnx]
    simp only [hdst, put_some N E ds d v hd]
    exact h

theorem putL_at : ∀ (pre old new : List Value), new.length ≤ old.length → putL (pre ++ old) pre.length new = pre ++ (new ++ old.drop new.length)
  | [], old, new, h => by
    simp only [List.nil_append, List.length_nil]
    induction new generalizing old with
    | nil => cases old <;> rfl
    | cons y ys ih =>
      cases old with
      | nil => simp at h
      | cons x xs =>
        simp only [List.length_cons, Nat.add_le_add_iff_right] at h
        simp only [putL, ih xs h, List.length_cons, List.drop_succ_cons, List.cons_append]
  | p :: pre, old, new, h => by
    simp only [List.cons_append, List.length_cons, putL, putL_at pre old new h]

end
section
variable {P : Program} {ro : Option Nat} {H : AHeap} {N : Nat} {E : Env} {ds : List Deferred}
variable {ops : Array Oper} {anc : List Nat} {d : Nat} {ty : TypeId} {pos : String} {after : Array Edge} {rest : List Oper} {i : Nat} {fps : List Fp} {Q : AAct → AHeap → Prop}
theorem wd_not {x : Operand} {t : TypeId} (hx : opOk P N x = true) (hd : d < N) (h : (notV (opv E x)).isSome = true) : wkD P ops anc (⟨some d, .unOp .not t x, ty, pos, after, none⟩ :: rest) i fps (mkA N E ds) H Q = valD P ops anc rest i fps N E ds d H Q (notV (opv E x)) :=
  wd_rv rfl (by
    simp only [aop, xUn, aeval_opv hx, Option.bind_eq_bind, Option.bind_some]
    cases hv : opv E x with
    | bool b => rfl
    | _ => rw [hv] at h; cases h) hd
theorem guardC_un {N : Nat} {E : Env} {ds : List Deferred} {ro : Option Nat} {ops : Array Oper} {o : Oper} {rest : List Oper} {Q : Exit → AAct → AHeap → Prop} {want : Bool} : guardC P ro ops o rest N E ds H Q want undef = wpOps P ro ops rest ((mkA N E ds).put o.dst undef) H Q := by simp only [guardC, undef]
theorem guardV_un {N : Nat} {E : Env} {ds : List Deferred} {ops : Array Oper} {anc : List Nat} {o : Oper} {rest : List Oper} {i : Nat} {fps : List Fp} {Q : AAct → AHeap → Prop} {want : Bool} : guardV P ops anc o rest i fps N E ds H Q want undef = wkD P ops anc rest (i + 1) fps ((mkA N E ds).put o.dst undef) H Q := by simp only [guardV, undef]

end
end Go.Ax

/- The lists of rewriting rules, by a program of ours (wip/tools/lists.py). -/
namespace Go.Ax
theorem m_bind_some {α β : Type} (a : α) (f : α → Option β) : (some a).bind f = f a := rfl
theorem m_map_some {α β : Type} (a : α) (f : α → β) : (some a).map f = some (f a) := rfl
theorem m_map_cons {α β : Type} (f : α → β) (a : α) (l : List α) : (a :: l).map f = f a :: l.map f := rfl
theorem m_map_nil {α β : Type} (f : α → β) : ([] : List α).map f = [] := rfl
theorem m_getElem_cons_zero {α : Type} (a : α) (l : List α) : (a :: l)[0]? = some a := rfl
theorem m_getElem_cons_succ {α : Type} (a : α) (l : List α) (i : Nat) : (a :: l)[i + 1]? = l[i]? := List.getElem?_cons_succ
theorem m_ne_eq {α : Type} (a b : α) : (a ≠ b) = ¬ a = b := rfl
theorem m_not_false_eq_true : (¬ False) = True := not_false_eq_true
theorem m_not_false : (!false) = true := rfl
theorem m_not_true : (!true) = false := rfl
theorem m_length_cons {α : Type} (a : α) (l : List α) : (a :: l).length = l.length + 1 := rfl
theorem m_length_nil {α : Type} : ([] : List α).length = 0 := rfl
theorem m_set_cons_zero {α : Type} (a b : α) (l : List α) : (a :: l).set 0 b = b :: l := rfl
theorem m_set_cons_succ {α : Type} (a b : α) (l : List α) (i : Nat) : (a :: l).set (i + 1) b = a :: l.set i b := rfl
theorem m_nil_append {α : Type} (l : List α) : [] ++ l = l := rfl
theorem m_cons_append {α : Type} (a : α) (l m : List α) : (a :: l) ++ m = a :: (l ++ m) := rfl
theorem m_drop_succ_cons {α : Type} (a : α) (l : List α) (i : Nat) : (a :: l).drop (i + 1) = l.drop i := rfl
theorem m_drop_zero {α : Type} (l : List α) : l.drop 0 = l := rfl
theorem m_take_succ_cons {α : Type} (a : α) (l : List α) (i : Nat) : (a :: l).take (i + 1) = a :: l.take i := rfl
theorem m_take_zero {α : Type} (l : List α) : l.take 0 = [] := List.take_zero
theorem m_if_true {α : Type} (a b : α) : (if True then a else b) = a := if_true a b
theorem m_true_and (p : Prop) : (True ∧ p) = p := true_and p
theorem m_and_true (p : Prop) : (p ∧ True) = p := and_true p
theorem m_or_true (p : Prop) : (p ∨ True) = True := or_true p
theorem m_true_or (p : Prop) : (True ∨ p) = True := true_or p
theorem m_and_self (p : Prop) : (p ∧ p) = p := and_self p
theorem m_implies_true (p : Prop) : (p → True) = True := eq_true fun _ => trivial
theorem m_false_implies (p : Prop) : (False → p) = True := eq_true fun h => h.elim
theorem m_true_implies (p : Prop) : (True → p) = p := propext ⟨fun h => h trivial, fun h _ => h⟩
theorem m_all_true {α : Type} : (α → True) = True := eq_true fun _ => trivial
theorem m_not_true_eq_false : (¬ True) = False := not_true_eq_false
theorem ruU : type_of% (And.intro (And.intro (And.intro (And.intro (And.intro (@upd_same) (@upd_ne)) (And.intro (@ok_tmp) (@ok_int))) (And.intro (And.intro (@ok_bool) (@ok_string)) (And.intro (@ok_nilptr) (@ok_nilslice)))) (And.intro (And.intro (And.intro (@ok_niliface) (@ok_nilmap)) (And.intro (@ok_nilfunc) (@ok_func))) (And.intro (And.intro (@opv_const) (@opv_tmp)) (And.intro (@opv_func) (And.intro (@opv_global) (@all_nil)))))) (And.intro (And.intro (And.intro (And.intro (@all_cons) (@and_tt)) (And.intro (@pok_nil) (@pok_cons))) (And.intro (And.intro (@pmap_nil) (@pmap_cons)) (And.intro (@pairs_ok) (@isSome_some)))) (And.intro (And.intro (And.intro (@m_bind_some) (@m_map_cons)) (And.intro (@m_map_nil) (@m_getElem_cons_zero))) (And.intro (And.intro (@m_getElem_cons_succ) (@m_ne_eq)) (And.intro (@m_not_false_eq_true) (And.intro (@m_not_false) (@m_not_true))))))) :=
  And.intro (And.intro (And.intro (And.intro (And.intro (@upd_same) (@upd_ne)) (And.intro (@ok_tmp) (@ok_int))) (And.intro (And.intro (@ok_bool) (@ok_string)) (And.intro (@ok_nilptr) (@ok_nilslice)))) (And.intro (And.intro (And.intro (@ok_niliface) (@ok_nilmap)) (And.intro (@ok_nilfunc) (@ok_func))) (And.intro (And.intro (@opv_const) (@opv_tmp)) (And.intro (@opv_func) (And.intro (@opv_global) (@all_nil)))))) (And.intro (And.intro (And.intro (And.intro (@all_cons) (@and_tt)) (And.intro (@pok_nil) (@pok_cons))) (And.intro (And.intro (@pmap_nil) (@pmap_cons)) (And.intro (@pairs_ok) (@isSome_some)))) (And.intro (And.intro (And.intro (@m_bind_some) (@m_map_cons)) (And.intro (@m_map_nil) (@m_getElem_cons_zero))) (And.intro (And.intro (@m_getElem_cons_succ) (@m_ne_eq)) (And.intro (@m_not_false_eq_true) (And.intro (@m_not_false) (@m_not_true))))))
theorem ruW : type_of% (And.intro (And.intro (And.intro (And.intro (And.intro (And.intro (And.intro (@w_gd) (@gdC_some)) (And.intro (@guardC_true) (And.intro (@guardC_ff) (@guardC_tt)))) (And.intro (And.intro (@guardC_un) (@put_at)) (And.intro (@dst_list) (And.intro (@w_seq) (@w_region))))) (And.intro (And.intro (And.intro (@w_move) (@w_assign)) (And.intro (@w_nil) (And.intro (@w_cond) (@w_ret)))) (And.intro (And.intro (@w_skip) (And.intro (@w_exit) (@w_block))) (And.intro (@w_typeAssert) (And.intro (@w_extract) (@w_not)))))) (And.intro (And.intro (And.intro (And.intro (@w_neg) (@w_build)) (And.intro (@w_call) (And.intro (@w_builtin) (@w_bin)))) (And.intro (And.intro (@w_nilCheck) (And.intro (@w_fieldAddr) (@w_field))) (And.intro (@w_indexAddr) (And.intro (@w_index) (@w_load))))) (And.intro (And.intro (And.intro (@w_store) (@w_box)) (And.intro (@w_alloc) (And.intro (@w_buildSlice) (@w_makeSlice)))) (And.intro (And.intro (@w_slice) (And.intro (@bnds_none) (@bnds_some))) (And.intro (@bndsOk_none) (And.intro (@bndsOk_some) (@w_pick))))))) (And.intro (And.intro (And.intro (And.intro (And.intro (@w_iface) (@w_func)) (And.intro (@valC_some) (And.intro (@heapC_some) (@heapC_skip)))) (And.intro (And.intro (@storeC_some) (@seqC_normal)) (And.intro (@seqC_ret) (And.intro (@seqC_exit) (@blockC_normal))))) (And.intro (And.intro (And.intro (@blockC_ret) (@blockC_exit)) (And.intro (@loopC_exit) (And.intro (@loopC_ret) (@condC_true)))) (And.intro (And.intro (@condC_false) (And.intro (@endA_ret) (@endA_normal))) (And.intro (@opC_ok) (And.intro (@opC_skip) (@exV_tuple)))))) (And.intro (And.intro (And.intro (And.intro (@notV_bool) (@negV_int)) (And.intro (@nilW_ptr) (And.intro (@pickV_true) (@pickV_false)))) (And.intro (And.intro (@bin_add) (And.intro (@bin_sub) (@bin_mul))) (And.intro (@bin_quo) (And.intro (@bin_rem) (@bin_eql))))) (And.intro (And.intro (And.intro (@bin_neq) (@bin_lss)) (And.intro (@bin_leq) (And.intro (@bin_gtr) (@bin_geq)))) (And.intro (And.intro (@bin_eqb) (And.intro (@bin_neb) (@bt_max))) (And.intro (@bt_min) (And.intro (@bt_lenS) (@lenS_slice)))))))) (And.intro (And.intro (And.intro (And.intro (And.intro (And.intro (@lenR_slice) (@go_int)) (And.intro (@new_nw) (And.intro (@ext_append) (@ext_next)))) (And.intro (And.intro (@ext_base) (@load_bk)) (And.intro (@orr_some) (And.intro (@bk_at) (@bk_old))))) (And.intro (And.intro (And.intro (@ld_one) (@ld_agg)) (And.intro (@store_new) (And.intro (@store_old) (@stB_ok)))) (And.intro (And.intro (@uw_next) (And.intro (@uw_base) (@bk_uw_ne))) (And.intro (@bk_uw_eq) (And.intro (@putB_eq) (@allocV_some)))))) (And.intro (And.intro (And.intro (And.intro (@new_ext) (@m_map_some)) (And.intro (@cells_int) (And.intro (@cells_bool) (@cells_ptr)))) (And.intro (And.intro (@cells_slice) (And.intro (@cells_iface) (@cells_niliface))) (And.intro (@cells_string) (And.intro (@cells_func) (@cells_nilfunc))))) (And.intro (And.intro (And.intro (@cells_agg) (@allOne_nil)) (And.intro (@allOne_cons) (And.intro (@one_int) (@one_bool)))) (And.intro (And.intro (@one_ptr) (And.intro (@one_slice) (@one_iface))) (And.intro (@one_niliface) (And.intro (@one_string) (@one_func))))))) (And.intro (And.intro (And.intro (And.intro (And.intro (@one_nilfunc) (@sc_nil)) (And.intro (@sc_cons) (And.intro (@sc_int) (@sc_bool)))) (And.intro (And.intro (@sc_string) (And.intro (@sc_nilptr) (@sc_nilslice))) (And.intro (@sc_niliface) (And.intro (@sc_nilfunc) (@sc_iface))))) (And.intro (And.intro (And.intro (@sc_agg) (@sc_tuple)) (And.intro (@sc_func) (And.intro (@sc_yield) (@sc_ptr)))) (And.intro (And.intro (@sc_slice) (And.intro (@sc_add) (@sc_addL))) (And.intro (@lt_new) (And.intro (@lt_old) (@ne_new)))))) (And.intro (And.intro (And.intro (And.intro (@ne_old) (@ne_old')) (And.intro (@add_add) (And.intro (@m_length_cons) (@m_length_nil)))) (And.intro (And.intro (@m_set_cons_zero) (And.intro (@m_set_cons_succ) (@m_nil_append))) (And.intro (@m_cons_append) (And.intro (@m_drop_succ_cons) (@m_drop_zero))))) (And.intro (And.intro (And.intro (@m_take_succ_cons) (@m_take_zero)) (And.intro (@m_if_true) (And.intro (@lv_nil) (@leaveO_some)))) (And.intro (And.intro (@rs_nil) (And.intro (@rs_tmp) (@rs_cell))) (And.intro (@tup_nil) (And.intro (@tup_one) (@tup_two))))))))) :=
  And.intro (And.intro (And.intro (And.intro (And.intro (And.intro (And.intro (@w_gd) (@gdC_some)) (And.intro (@guardC_true) (And.intro (@guardC_ff) (@guardC_tt)))) (And.intro (And.intro (@guardC_un) (@put_at)) (And.intro (@dst_list) (And.intro (@w_seq) (@w_region))))) (And.intro (And.intro (And.intro (@w_move) (@w_assign)) (And.intro (@w_nil) (And.intro (@w_cond) (@w_ret)))) (And.intro (And.intro (@w_skip) (And.intro (@w_exit) (@w_block))) (And.intro (@w_typeAssert) (And.intro (@w_extract) (@w_not)))))) (And.intro (And.intro (And.intro (And.intro (@w_neg) (@w_build)) (And.intro (@w_call) (And.intro (@w_builtin) (@w_bin)))) (And.intro (And.intro (@w_nilCheck) (And.intro (@w_fieldAddr) (@w_field))) (And.intro (@w_indexAddr) (And.intro (@w_index) (@w_load))))) (And.intro (And.intro (And.intro (@w_store) (@w_box)) (And.intro (@w_alloc) (And.intro (@w_buildSlice) (@w_makeSlice)))) (And.intro (And.intro (@w_slice) (And.intro (@bnds_none) (@bnds_some))) (And.intro (@bndsOk_none) (And.intro (@bndsOk_some) (@w_pick))))))) (And.intro (And.intro (And.intro (And.intro (And.intro (@w_iface) (@w_func)) (And.intro (@valC_some) (And.intro (@heapC_some) (@heapC_skip)))) (And.intro (And.intro (@storeC_some) (@seqC_normal)) (And.intro (@seqC_ret) (And.intro (@seqC_exit) (@blockC_normal))))) (And.intro (And.intro (And.intro (@blockC_ret) (@blockC_exit)) (And.intro (@loopC_exit) (And.intro (@loopC_ret) (@condC_true)))) (And.intro (And.intro (@condC_false) (And.intro (@endA_ret) (@endA_normal))) (And.intro (@opC_ok) (And.intro (@opC_skip) (@exV_tuple)))))) (And.intro (And.intro (And.intro (And.intro (@notV_bool) (@negV_int)) (And.intro (@nilW_ptr) (And.intro (@pickV_true) (@pickV_false)))) (And.intro (And.intro (@bin_add) (And.intro (@bin_sub) (@bin_mul))) (And.intro (@bin_quo) (And.intro (@bin_rem) (@bin_eql))))) (And.intro (And.intro (And.intro (@bin_neq) (@bin_lss)) (And.intro (@bin_leq) (And.intro (@bin_gtr) (@bin_geq)))) (And.intro (And.intro (@bin_eqb) (And.intro (@bin_neb) (@bt_max))) (And.intro (@bt_min) (And.intro (@bt_lenS) (@lenS_slice)))))))) (And.intro (And.intro (And.intro (And.intro (And.intro (And.intro (@lenR_slice) (@go_int)) (And.intro (@new_nw) (And.intro (@ext_append) (@ext_next)))) (And.intro (And.intro (@ext_base) (@load_bk)) (And.intro (@orr_some) (And.intro (@bk_at) (@bk_old))))) (And.intro (And.intro (And.intro (@ld_one) (@ld_agg)) (And.intro (@store_new) (And.intro (@store_old) (@stB_ok)))) (And.intro (And.intro (@uw_next) (And.intro (@uw_base) (@bk_uw_ne))) (And.intro (@bk_uw_eq) (And.intro (@putB_eq) (@allocV_some)))))) (And.intro (And.intro (And.intro (And.intro (@new_ext) (@m_map_some)) (And.intro (@cells_int) (And.intro (@cells_bool) (@cells_ptr)))) (And.intro (And.intro (@cells_slice) (And.intro (@cells_iface) (@cells_niliface))) (And.intro (@cells_string) (And.intro (@cells_func) (@cells_nilfunc))))) (And.intro (And.intro (And.intro (@cells_agg) (@allOne_nil)) (And.intro (@allOne_cons) (And.intro (@one_int) (@one_bool)))) (And.intro (And.intro (@one_ptr) (And.intro (@one_slice) (@one_iface))) (And.intro (@one_niliface) (And.intro (@one_string) (@one_func))))))) (And.intro (And.intro (And.intro (And.intro (And.intro (@one_nilfunc) (@sc_nil)) (And.intro (@sc_cons) (And.intro (@sc_int) (@sc_bool)))) (And.intro (And.intro (@sc_string) (And.intro (@sc_nilptr) (@sc_nilslice))) (And.intro (@sc_niliface) (And.intro (@sc_nilfunc) (@sc_iface))))) (And.intro (And.intro (And.intro (@sc_agg) (@sc_tuple)) (And.intro (@sc_func) (And.intro (@sc_yield) (@sc_ptr)))) (And.intro (And.intro (@sc_slice) (And.intro (@sc_add) (@sc_addL))) (And.intro (@lt_new) (And.intro (@lt_old) (@ne_new)))))) (And.intro (And.intro (And.intro (And.intro (@ne_old) (@ne_old')) (And.intro (@add_add) (And.intro (@m_length_cons) (@m_length_nil)))) (And.intro (And.intro (@m_set_cons_zero) (And.intro (@m_set_cons_succ) (@m_nil_append))) (And.intro (@m_cons_append) (And.intro (@m_drop_succ_cons) (@m_drop_zero))))) (And.intro (And.intro (And.intro (@m_take_succ_cons) (@m_take_zero)) (And.intro (@m_if_true) (And.intro (@lv_nil) (@leaveO_some)))) (And.intro (And.intro (@rs_nil) (And.intro (@rs_tmp) (@rs_cell))) (And.intro (@tup_nil) (And.intro (@tup_one) (@tup_two))))))))
theorem ruD : type_of% (And.intro (And.intro (And.intro (And.intro (And.intro (And.intro (@wd_store) (@storeV_some)) (And.intro (@wd_alloc) (And.intro (@wd_box) (@wd_buildSlice)))) (And.intro (And.intro (@newV_some) (And.intro (@wd_builtin) (@rb_max))) (And.intro (@rb_min) (And.intro (@rb_lenS) (@wd_gd))))) (And.intro (And.intro (And.intro (@gdV_some) (@guardV_true)) (And.intro (@guardV_ff) (And.intro (@guardV_tt) (@guardV_un)))) (And.intro (And.intro (@wd_move) (And.intro (@wd_assign) (@wd_nil))) (And.intro (@wd_not) (And.intro (@wd_nilCheck) (@wd_fieldAddr)))))) (And.intro (And.intro (And.intro (And.intro (@wd_field) (@wd_indexAddr)) (And.intro (@wd_load) (And.intro (@wd_call) (@wd_typeAssert)))) (And.intro (And.intro (@wd_extract) (And.intro (@wd_build) (@wd_pick))) (And.intro (@wd_iface) (And.intro (@wd_bin) (@reg_add))))) (And.intro (And.intro (And.intro (@reg_sub) (@reg_mul)) (And.intro (@reg_quo) (And.intro (@reg_rem) (@reg_lss)))) (And.intro (And.intro (@reg_leq) (And.intro (@reg_gtr) (@reg_geq))) (And.intro (@reg_eql) (And.intro (@reg_neq) (@reg_eqb))))))) (And.intro (And.intro (And.intro (And.intro (And.intro (@reg_neb) (@valD_some)) (And.intro (@loadV_some) (And.intro (@plainPtr_eq) (@ptrB_eq)))) (And.intro (And.intro (@wd_index) (And.intro (@idsOk_nil) (@idsOk_quiet))) (And.intro (@idsOk_empty) (And.intro (@ids_int) (@ids_bool))))) (And.intro (And.intro (And.intro (@ids_func) (@ids_nil)) (And.intro (@ids_ptr) (And.intro (@meets_nil) (@meets_quiet)))) (And.intro (And.intro (@m_true_and) (And.intro (@idsOk_anc) (@idsOk_new))) (And.intro (@m_false_implies) (And.intro (@m_true_implies) (@meets_anc)))))) (And.intro (And.intro (And.intro (And.intro (@meets_bit) (@meets_cons)) (And.intro (@meets_eq) (And.intro (@meets_newer) (@ids_at)))) (And.intro (And.intro (@idsB_eq) (And.intro (@ids_iface) (@ids_agg))) (And.intro (@idsL_nil) (And.intro (@idsL_cons) (@le_new))))) (And.intro (And.intro (And.intro (@all2_nil) (And.intro (@all2_cons) (@nmem_one))) (And.intro (@nmem_nil) (And.intro (@nmem_cons) (@m_not_true_eq_false)))) (And.intro (And.intro (@m_implies_true) (And.intro (@m_and_true) (@m_or_true))) (And.intro (@m_true_or) (And.intro (@m_and_self) (@m_all_true)))))))) :=
  And.intro (And.intro (And.intro (And.intro (And.intro (And.intro (@wd_store) (@storeV_some)) (And.intro (@wd_alloc) (And.intro (@wd_box) (@wd_buildSlice)))) (And.intro (And.intro (@newV_some) (And.intro (@wd_builtin) (@rb_max))) (And.intro (@rb_min) (And.intro (@rb_lenS) (@wd_gd))))) (And.intro (And.intro (And.intro (@gdV_some) (@guardV_true)) (And.intro (@guardV_ff) (And.intro (@guardV_tt) (@guardV_un)))) (And.intro (And.intro (@wd_move) (And.intro (@wd_assign) (@wd_nil))) (And.intro (@wd_not) (And.intro (@wd_nilCheck) (@wd_fieldAddr)))))) (And.intro (And.intro (And.intro (And.intro (@wd_field) (@wd_indexAddr)) (And.intro (@wd_load) (And.intro (@wd_call) (@wd_typeAssert)))) (And.intro (And.intro (@wd_extract) (And.intro (@wd_build) (@wd_pick))) (And.intro (@wd_iface) (And.intro (@wd_bin) (@reg_add))))) (And.intro (And.intro (And.intro (@reg_sub) (@reg_mul)) (And.intro (@reg_quo) (And.intro (@reg_rem) (@reg_lss)))) (And.intro (And.intro (@reg_leq) (And.intro (@reg_gtr) (@reg_geq))) (And.intro (@reg_eql) (And.intro (@reg_neq) (@reg_eqb))))))) (And.intro (And.intro (And.intro (And.intro (And.intro (@reg_neb) (@valD_some)) (And.intro (@loadV_some) (And.intro (@plainPtr_eq) (@ptrB_eq)))) (And.intro (And.intro (@wd_index) (And.intro (@idsOk_nil) (@idsOk_quiet))) (And.intro (@idsOk_empty) (And.intro (@ids_int) (@ids_bool))))) (And.intro (And.intro (And.intro (@ids_func) (@ids_nil)) (And.intro (@ids_ptr) (And.intro (@meets_nil) (@meets_quiet)))) (And.intro (And.intro (@m_true_and) (And.intro (@idsOk_anc) (@idsOk_new))) (And.intro (@m_false_implies) (And.intro (@m_true_implies) (@meets_anc)))))) (And.intro (And.intro (And.intro (And.intro (@meets_bit) (@meets_cons)) (And.intro (@meets_eq) (And.intro (@meets_newer) (@ids_at)))) (And.intro (And.intro (@idsB_eq) (And.intro (@ids_iface) (@ids_agg))) (And.intro (@idsL_nil) (And.intro (@idsL_cons) (@le_new))))) (And.intro (And.intro (And.intro (@all2_nil) (And.intro (@all2_cons) (@nmem_one))) (And.intro (@nmem_nil) (And.intro (@nmem_cons) (@m_not_true_eq_false)))) (And.intro (And.intro (@m_implies_true) (And.intro (@m_and_true) (@m_or_true))) (And.intro (@m_true_or) (And.intro (@m_and_self) (@m_all_true)))))))
end Go.Ax

/- Facts about the types and the functions of the program, by a program of ours (wip/tools/facts.py). -/
namespace Go.Proofs.YtnigelgcjfhghaaGreatDoor
open Go.Ax
set_option maxRecDepth 100000

theorem xU4 : Tryz.prog.underlying 4 = some .bool := by kernel_rfl
theorem mixed : Tryz.prog.follows .mixedOrders = true := by kernel_rfl

theorem xFA :
    (∀ n off : Nat, aFieldAddr Tryz.prog 26 (.pointer (some ⟨n, off, none⟩)) 0 = some (.pointer (some ⟨n, off, none⟩))) ∧
    (∀ n off : Nat, aFieldAddr Tryz.prog 26 (.pointer (some ⟨n, off, none⟩)) 1 = some (.pointer (some ⟨n, off + 1, none⟩))) ∧
    (∀ n off : Nat, aFieldAddr Tryz.prog 33 (.pointer (some ⟨n, off, none⟩)) 0 = some (.pointer (some ⟨n, off, none⟩))) ∧
    (∀ n off : Nat, aFieldAddr Tryz.prog 33 (.pointer (some ⟨n, off, none⟩)) 1 = some (.pointer (some ⟨n, off + 1, none⟩))) ∧
    (∀ n off : Nat, aFieldAddr Tryz.prog 33 (.pointer (some ⟨n, off, none⟩)) 2 = some (.pointer (some ⟨n, off + 2, none⟩))) ∧
    (∀ n off : Nat, aFieldAddr Tryz.prog 33 (.pointer (some ⟨n, off, none⟩)) 3 = some (.pointer (some ⟨n, off + 3, none⟩))) ∧
    (∀ n off : Nat, aFieldAddr Tryz.prog 33 (.pointer (some ⟨n, off, none⟩)) 4 = some (.pointer (some ⟨n, off + 4, none⟩))) ∧
    (∀ n off : Nat, aFieldAddr Tryz.prog 59 (.pointer (some ⟨n, off, none⟩)) 0 = some (.pointer (some ⟨n, off, none⟩))) ∧
    (∀ n off : Nat, aFieldAddr Tryz.prog 59 (.pointer (some ⟨n, off, none⟩)) 1 = some (.pointer (some ⟨n, off + 1, none⟩))) ∧
    (∀ n off : Nat, aFieldAddr Tryz.prog 59 (.pointer (some ⟨n, off, none⟩)) 2 = some (.pointer (some ⟨n, off + 2, none⟩))) ∧
    (∀ n off : Nat, aFieldAddr Tryz.prog 68 (.pointer (some ⟨n, off, none⟩)) 0 = some (.pointer (some ⟨n, off, none⟩))) ∧
    (∀ n off : Nat, aFieldAddr Tryz.prog 68 (.pointer (some ⟨n, off, none⟩)) 1 = some (.pointer (some ⟨n, off + 5, none⟩))) ∧
    (∀ n off : Nat, aFieldAddr Tryz.prog 68 (.pointer (some ⟨n, off, none⟩)) 2 = some (.pointer (some ⟨n, off + 6, none⟩))) ∧
    (∀ n off : Nat, aFieldAddr Tryz.prog 68 (.pointer (some ⟨n, off, none⟩)) 3 = some (.pointer (some ⟨n, off + 7, none⟩))) ∧
    (∀ n off : Nat, aFieldAddr Tryz.prog 68 (.pointer (some ⟨n, off, none⟩)) 4 = some (.pointer (some ⟨n, off + 8, none⟩))) ∧
    (∀ n off : Nat, aFieldAddr Tryz.prog 68 (.pointer (some ⟨n, off, none⟩)) 5 = some (.pointer (some ⟨n, off + 9, none⟩))) ∧
    (∀ n off : Nat, aFieldAddr Tryz.prog 68 (.pointer (some ⟨n, off, none⟩)) 6 = some (.pointer (some ⟨n, off + 10, none⟩))) ∧
    (∀ n off : Nat, aFieldAddr Tryz.prog 90 (.pointer (some ⟨n, off, none⟩)) 0 = some (.pointer (some ⟨n, off, none⟩))) ∧
    (∀ n off : Nat, aFieldAddr Tryz.prog 90 (.pointer (some ⟨n, off, none⟩)) 1 = some (.pointer (some ⟨n, off + 5, none⟩))) ∧
    (∀ n off : Nat, aFieldAddr Tryz.prog 90 (.pointer (some ⟨n, off, none⟩)) 2 = some (.pointer (some ⟨n, off + 6, none⟩))) ∧
    (∀ n off : Nat, aFieldAddr Tryz.prog 90 (.pointer (some ⟨n, off, none⟩)) 3 = some (.pointer (some ⟨n, off + 7, none⟩))) ∧
    (∀ n off : Nat, aFieldAddr Tryz.prog 90 (.pointer (some ⟨n, off, none⟩)) 4 = some (.pointer (some ⟨n, off + 8, none⟩))) ∧
    (∀ n off : Nat, aFieldAddr Tryz.prog 93 (.pointer (some ⟨n, off, none⟩)) 0 = some (.pointer (some ⟨n, off, none⟩))) ∧
    (∀ n off : Nat, aFieldAddr Tryz.prog 93 (.pointer (some ⟨n, off, none⟩)) 1 = some (.pointer (some ⟨n, off + 1, none⟩))) ∧
    (∀ n off : Nat, aFieldAddr Tryz.prog 93 (.pointer (some ⟨n, off, none⟩)) 2 = some (.pointer (some ⟨n, off + 2, none⟩))) ∧
    (∀ n off : Nat, aFieldAddr Tryz.prog 100 (.pointer (some ⟨n, off, none⟩)) 0 = some (.pointer (some ⟨n, off, none⟩))) ∧
    (∀ n off : Nat, aFieldAddr Tryz.prog 100 (.pointer (some ⟨n, off, none⟩)) 1 = some (.pointer (some ⟨n, off + 1, none⟩))) ∧
    (∀ n off : Nat, aFieldAddr Tryz.prog 100 (.pointer (some ⟨n, off, none⟩)) 2 = some (.pointer (some ⟨n, off + 2, none⟩))) ∧
    (∀ n off : Nat, aFieldAddr Tryz.prog 100 (.pointer (some ⟨n, off, none⟩)) 3 = some (.pointer (some ⟨n, off + 3, none⟩))) ∧
    (∀ n off : Nat, aFieldAddr Tryz.prog 100 (.pointer (some ⟨n, off, none⟩)) 4 = some (.pointer (some ⟨n, off + 4, none⟩))) ∧
    (∀ n off : Nat, aFieldAddr Tryz.prog 110 (.pointer (some ⟨n, off, none⟩)) 0 = some (.pointer (some ⟨n, off, none⟩))) ∧
    (∀ n off : Nat, aFieldAddr Tryz.prog 110 (.pointer (some ⟨n, off, none⟩)) 1 = some (.pointer (some ⟨n, off + 1, none⟩))) ∧
    (∀ n off : Nat, aFieldAddr Tryz.prog 113 (.pointer (some ⟨n, off, none⟩)) 0 = some (.pointer (some ⟨n, off, none⟩))) ∧
    (∀ n off : Nat, aFieldAddr Tryz.prog 113 (.pointer (some ⟨n, off, none⟩)) 1 = some (.pointer (some ⟨n, off + 1, none⟩))) ∧
    (∀ n off : Nat, aFieldAddr Tryz.prog 149 (.pointer (some ⟨n, off, none⟩)) 0 = some (.pointer (some ⟨n, off, none⟩))) ∧
    (∀ n off : Nat, aFieldAddr Tryz.prog 149 (.pointer (some ⟨n, off, none⟩)) 1 = some (.pointer (some ⟨n, off + 3, none⟩))) ∧
    (∀ n off : Nat, aFieldAddr Tryz.prog 149 (.pointer (some ⟨n, off, none⟩)) 2 = some (.pointer (some ⟨n, off + 4, none⟩))) ∧
    (∀ n off : Nat, aFieldAddr Tryz.prog 149 (.pointer (some ⟨n, off, none⟩)) 3 = some (.pointer (some ⟨n, off + 5, none⟩))) ∧
    (∀ n off : Nat, aFieldAddr Tryz.prog 176 (.pointer (some ⟨n, off, none⟩)) 0 = some (.pointer (some ⟨n, off, none⟩))) ∧
    (∀ n off : Nat, aFieldAddr Tryz.prog 176 (.pointer (some ⟨n, off, none⟩)) 1 = some (.pointer (some ⟨n, off + 1, none⟩))) ∧
    (∀ n off : Nat, aFieldAddr Tryz.prog 176 (.pointer (some ⟨n, off, none⟩)) 2 = some (.pointer (some ⟨n, off + 2, none⟩))) ∧
    (∀ n off : Nat, aFieldAddr Tryz.prog 183 (.pointer (some ⟨n, off, none⟩)) 0 = some (.pointer (some ⟨n, off, none⟩))) ∧
    (∀ n off : Nat, aFieldAddr Tryz.prog 183 (.pointer (some ⟨n, off, none⟩)) 1 = some (.pointer (some ⟨n, off + 1, none⟩))) ∧
    (∀ n off : Nat, aFieldAddr Tryz.prog 183 (.pointer (some ⟨n, off, none⟩)) 2 = some (.pointer (some ⟨n, off + 2, none⟩))) ∧
    (∀ n off : Nat, aFieldAddr Tryz.prog 197 (.pointer (some ⟨n, off, none⟩)) 0 = some (.pointer (some ⟨n, off, none⟩))) ∧
    (∀ n off : Nat, aFieldAddr Tryz.prog 197 (.pointer (some ⟨n, off, none⟩)) 1 = some (.pointer (some ⟨n, off + 1, none⟩))) := by
  refine ⟨?_, ?_, ?_, ?_, ?_, ?_, ?_, ?_, ?_, ?_, ?_, ?_, ?_, ?_, ?_, ?_, ?_, ?_, ?_, ?_, ?_, ?_, ?_, ?_, ?_, ?_, ?_, ?_, ?_, ?_, ?_, ?_, ?_, ?_, ?_, ?_, ?_, ?_, ?_, ?_, ?_, ?_, ?_, ?_, ?_, ?_⟩
  all_goals first | trivial | (intros; kernel_rfl)

theorem xFD :
    (∀ a0 a1 : Value, aField Tryz.prog 113 (.agg #[a0, a1]) 1 = some (a1)) := by
  refine ?_
  all_goals first | trivial | (intros; kernel_rfl)

theorem xIA :
    (∀ n off : Nat, aIndexAddr Tryz.prog 114 (.pointer (some ⟨n, off, none⟩)) (.int .i64 0) = some (.pointer (some ⟨n, off, none⟩))) ∧
    (∀ n off : Nat, aIndexAddr Tryz.prog 114 (.pointer (some ⟨n, off, none⟩)) (.int .i64 1) = some (.pointer (some ⟨n, off + 2, none⟩))) ∧
    (∀ n off : Nat, aIndexAddr Tryz.prog 114 (.pointer (some ⟨n, off, none⟩)) (.int .i64 2) = some (.pointer (some ⟨n, off + 4, none⟩))) ∧
    (∀ n off : Nat, aIndexAddr Tryz.prog 114 (.pointer (some ⟨n, off, none⟩)) (.int .i64 3) = some (.pointer (some ⟨n, off + 6, none⟩))) ∧
    (∀ n off : Nat, aIndexAddr Tryz.prog 114 (.pointer (some ⟨n, off, none⟩)) (.int .i64 4) = some (.pointer (some ⟨n, off + 8, none⟩))) ∧
    (∀ n off : Nat, aIndexAddr Tryz.prog 114 (.pointer (some ⟨n, off, none⟩)) (.int .i64 5) = some (.pointer (some ⟨n, off + 10, none⟩))) ∧
    (∀ n off : Nat, aIndexAddr Tryz.prog 114 (.pointer (some ⟨n, off, none⟩)) (.int .i64 6) = some (.pointer (some ⟨n, off + 12, none⟩))) ∧
    (∀ n off : Nat, aIndexAddr Tryz.prog 114 (.pointer (some ⟨n, off, none⟩)) (.int .i64 7) = some (.pointer (some ⟨n, off + 14, none⟩))) ∧
    (∀ n off : Nat, aIndexAddr Tryz.prog 114 (.pointer (some ⟨n, off, none⟩)) (.int .i64 8) = some (.pointer (some ⟨n, off + 16, none⟩))) ∧
    (∀ n off : Nat, aIndexAddr Tryz.prog 114 (.pointer (some ⟨n, off, none⟩)) (.int .i64 9) = some (.pointer (some ⟨n, off + 18, none⟩))) ∧
    (∀ n off : Nat, aIndexAddr Tryz.prog 114 (.pointer (some ⟨n, off, none⟩)) (.int .i64 10) = some (.pointer (some ⟨n, off + 20, none⟩))) ∧
    (∀ n off : Nat, aIndexAddr Tryz.prog 114 (.pointer (some ⟨n, off, none⟩)) (.int .i64 11) = some (.pointer (some ⟨n, off + 22, none⟩))) ∧
    (∀ n off : Nat, aIndexAddr Tryz.prog 189 (.pointer (some ⟨n, off, none⟩)) (.int .i64 0) = some (.pointer (some ⟨n, off, none⟩))) ∧
    (∀ n off : Nat, aIndexAddr Tryz.prog 189 (.pointer (some ⟨n, off, none⟩)) (.int .i64 1) = some (.pointer (some ⟨n, off + 1, none⟩))) ∧
    (∀ n off : Nat, aIndexAddr Tryz.prog 189 (.pointer (some ⟨n, off, none⟩)) (.int .i64 2) = some (.pointer (some ⟨n, off + 2, none⟩))) ∧
    (∀ n off : Nat, aIndexAddr Tryz.prog 189 (.pointer (some ⟨n, off, none⟩)) (.int .i64 3) = some (.pointer (some ⟨n, off + 3, none⟩))) ∧
    (∀ n off : Nat, aIndexAddr Tryz.prog 189 (.pointer (some ⟨n, off, none⟩)) (.int .i64 4) = some (.pointer (some ⟨n, off + 4, none⟩))) ∧
    (∀ n off : Nat, aIndexAddr Tryz.prog 189 (.pointer (some ⟨n, off, none⟩)) (.int .i64 5) = some (.pointer (some ⟨n, off + 5, none⟩))) ∧
    (∀ n off : Nat, aIndexAddr Tryz.prog 189 (.pointer (some ⟨n, off, none⟩)) (.int .i64 6) = some (.pointer (some ⟨n, off + 6, none⟩))) ∧
    (∀ n off : Nat, aIndexAddr Tryz.prog 189 (.pointer (some ⟨n, off, none⟩)) (.int .i64 7) = some (.pointer (some ⟨n, off + 7, none⟩))) ∧
    (∀ n off : Nat, aIndexAddr Tryz.prog 189 (.pointer (some ⟨n, off, none⟩)) (.int .i64 8) = some (.pointer (some ⟨n, off + 8, none⟩))) ∧
    (∀ n off : Nat, aIndexAddr Tryz.prog 189 (.pointer (some ⟨n, off, none⟩)) (.int .i64 9) = some (.pointer (some ⟨n, off + 9, none⟩))) ∧
    (∀ n off : Nat, aIndexAddr Tryz.prog 189 (.pointer (some ⟨n, off, none⟩)) (.int .i64 10) = some (.pointer (some ⟨n, off + 10, none⟩))) ∧
    (∀ n off : Nat, aIndexAddr Tryz.prog 189 (.pointer (some ⟨n, off, none⟩)) (.int .i64 11) = some (.pointer (some ⟨n, off + 11, none⟩))) ∧
    (∀ n off : Nat, aIndexAddr Tryz.prog 195 (.pointer (some ⟨n, off, none⟩)) (.int .i64 0) = some (.pointer (some ⟨n, off, none⟩))) ∧
    (∀ n off : Nat, aIndexAddr Tryz.prog 195 (.pointer (some ⟨n, off, none⟩)) (.int .i64 1) = some (.pointer (some ⟨n, off + 1, none⟩))) ∧
    (∀ n off : Nat, aIndexAddr Tryz.prog 195 (.pointer (some ⟨n, off, none⟩)) (.int .i64 2) = some (.pointer (some ⟨n, off + 2, none⟩))) ∧
    (∀ n off : Nat, aIndexAddr Tryz.prog 195 (.pointer (some ⟨n, off, none⟩)) (.int .i64 3) = some (.pointer (some ⟨n, off + 3, none⟩))) ∧
    (∀ n off : Nat, aIndexAddr Tryz.prog 195 (.pointer (some ⟨n, off, none⟩)) (.int .i64 4) = some (.pointer (some ⟨n, off + 4, none⟩))) ∧
    (∀ n off : Nat, aIndexAddr Tryz.prog 195 (.pointer (some ⟨n, off, none⟩)) (.int .i64 5) = some (.pointer (some ⟨n, off + 5, none⟩))) ∧
    (∀ n off : Nat, aIndexAddr Tryz.prog 195 (.pointer (some ⟨n, off, none⟩)) (.int .i64 6) = some (.pointer (some ⟨n, off + 6, none⟩))) ∧
    (∀ n off : Nat, aIndexAddr Tryz.prog 195 (.pointer (some ⟨n, off, none⟩)) (.int .i64 7) = some (.pointer (some ⟨n, off + 7, none⟩))) ∧
    (∀ n off : Nat, aIndexAddr Tryz.prog 195 (.pointer (some ⟨n, off, none⟩)) (.int .i64 8) = some (.pointer (some ⟨n, off + 8, none⟩))) ∧
    (∀ n off : Nat, aIndexAddr Tryz.prog 195 (.pointer (some ⟨n, off, none⟩)) (.int .i64 9) = some (.pointer (some ⟨n, off + 9, none⟩))) ∧
    (∀ n off : Nat, aIndexAddr Tryz.prog 195 (.pointer (some ⟨n, off, none⟩)) (.int .i64 10) = some (.pointer (some ⟨n, off + 10, none⟩))) ∧
    (∀ n off : Nat, aIndexAddr Tryz.prog 195 (.pointer (some ⟨n, off, none⟩)) (.int .i64 11) = some (.pointer (some ⟨n, off + 11, none⟩))) ∧
    (∀ n off : Nat, aIndexAddr Tryz.prog 198 (.pointer (some ⟨n, off, none⟩)) (.int .i64 0) = some (.pointer (some ⟨n, off, none⟩))) ∧
    (∀ n off : Nat, aIndexAddr Tryz.prog 198 (.pointer (some ⟨n, off, none⟩)) (.int .i64 1) = some (.pointer (some ⟨n, off + 2, none⟩))) ∧
    (∀ n off : Nat, aIndexAddr Tryz.prog 198 (.pointer (some ⟨n, off, none⟩)) (.int .i64 2) = some (.pointer (some ⟨n, off + 4, none⟩))) ∧
    (∀ n off : Nat, aIndexAddr Tryz.prog 198 (.pointer (some ⟨n, off, none⟩)) (.int .i64 3) = some (.pointer (some ⟨n, off + 6, none⟩))) ∧
    (∀ n off : Nat, aIndexAddr Tryz.prog 198 (.pointer (some ⟨n, off, none⟩)) (.int .i64 4) = some (.pointer (some ⟨n, off + 8, none⟩))) ∧
    (∀ n off : Nat, aIndexAddr Tryz.prog 198 (.pointer (some ⟨n, off, none⟩)) (.int .i64 5) = some (.pointer (some ⟨n, off + 10, none⟩))) ∧
    (∀ n off : Nat, aIndexAddr Tryz.prog 198 (.pointer (some ⟨n, off, none⟩)) (.int .i64 6) = some (.pointer (some ⟨n, off + 12, none⟩))) ∧
    (∀ n off : Nat, aIndexAddr Tryz.prog 198 (.pointer (some ⟨n, off, none⟩)) (.int .i64 7) = some (.pointer (some ⟨n, off + 14, none⟩))) ∧
    (∀ n off : Nat, aIndexAddr Tryz.prog 198 (.pointer (some ⟨n, off, none⟩)) (.int .i64 8) = some (.pointer (some ⟨n, off + 16, none⟩))) ∧
    (∀ n off : Nat, aIndexAddr Tryz.prog 198 (.pointer (some ⟨n, off, none⟩)) (.int .i64 9) = some (.pointer (some ⟨n, off + 18, none⟩))) ∧
    (∀ n off : Nat, aIndexAddr Tryz.prog 198 (.pointer (some ⟨n, off, none⟩)) (.int .i64 10) = some (.pointer (some ⟨n, off + 20, none⟩))) ∧
    (∀ n off : Nat, aIndexAddr Tryz.prog 198 (.pointer (some ⟨n, off, none⟩)) (.int .i64 11) = some (.pointer (some ⟨n, off + 22, none⟩))) ∧
    (∀ n off : Nat, aIndexAddr Tryz.prog 207 (.pointer (some ⟨n, off, none⟩)) (.int .i64 0) = some (.pointer (some ⟨n, off, none⟩))) ∧
    (∀ n off : Nat, aIndexAddr Tryz.prog 207 (.pointer (some ⟨n, off, none⟩)) (.int .i64 1) = some (.pointer (some ⟨n, off + 1, none⟩))) ∧
    (∀ n off : Nat, aIndexAddr Tryz.prog 207 (.pointer (some ⟨n, off, none⟩)) (.int .i64 2) = some (.pointer (some ⟨n, off + 2, none⟩))) ∧
    (∀ n off : Nat, aIndexAddr Tryz.prog 207 (.pointer (some ⟨n, off, none⟩)) (.int .i64 3) = some (.pointer (some ⟨n, off + 3, none⟩))) ∧
    (∀ n off : Nat, aIndexAddr Tryz.prog 207 (.pointer (some ⟨n, off, none⟩)) (.int .i64 4) = some (.pointer (some ⟨n, off + 4, none⟩))) ∧
    (∀ n off : Nat, aIndexAddr Tryz.prog 207 (.pointer (some ⟨n, off, none⟩)) (.int .i64 5) = some (.pointer (some ⟨n, off + 5, none⟩))) ∧
    (∀ n off : Nat, aIndexAddr Tryz.prog 207 (.pointer (some ⟨n, off, none⟩)) (.int .i64 6) = some (.pointer (some ⟨n, off + 6, none⟩))) ∧
    (∀ n off : Nat, aIndexAddr Tryz.prog 207 (.pointer (some ⟨n, off, none⟩)) (.int .i64 7) = some (.pointer (some ⟨n, off + 7, none⟩))) ∧
    (∀ n off : Nat, aIndexAddr Tryz.prog 207 (.pointer (some ⟨n, off, none⟩)) (.int .i64 8) = some (.pointer (some ⟨n, off + 8, none⟩))) ∧
    (∀ n off : Nat, aIndexAddr Tryz.prog 207 (.pointer (some ⟨n, off, none⟩)) (.int .i64 9) = some (.pointer (some ⟨n, off + 9, none⟩))) ∧
    (∀ n off : Nat, aIndexAddr Tryz.prog 207 (.pointer (some ⟨n, off, none⟩)) (.int .i64 10) = some (.pointer (some ⟨n, off + 10, none⟩))) ∧
    (∀ n off : Nat, aIndexAddr Tryz.prog 207 (.pointer (some ⟨n, off, none⟩)) (.int .i64 11) = some (.pointer (some ⟨n, off + 11, none⟩))) ∧
    (∀ n off : Nat, aIndexAddr Tryz.prog 208 (.pointer (some ⟨n, off, none⟩)) (.int .i64 0) = some (.pointer (some ⟨n, off, none⟩))) ∧
    (∀ n off : Nat, aIndexAddr Tryz.prog 208 (.pointer (some ⟨n, off, none⟩)) (.int .i64 1) = some (.pointer (some ⟨n, off + 1, none⟩))) ∧
    (∀ n off : Nat, aIndexAddr Tryz.prog 208 (.pointer (some ⟨n, off, none⟩)) (.int .i64 2) = some (.pointer (some ⟨n, off + 2, none⟩))) ∧
    (∀ n off : Nat, aIndexAddr Tryz.prog 208 (.pointer (some ⟨n, off, none⟩)) (.int .i64 3) = some (.pointer (some ⟨n, off + 3, none⟩))) ∧
    (∀ n off : Nat, aIndexAddr Tryz.prog 208 (.pointer (some ⟨n, off, none⟩)) (.int .i64 4) = some (.pointer (some ⟨n, off + 4, none⟩))) ∧
    (∀ n off : Nat, aIndexAddr Tryz.prog 208 (.pointer (some ⟨n, off, none⟩)) (.int .i64 5) = some (.pointer (some ⟨n, off + 5, none⟩))) ∧
    (∀ n off : Nat, aIndexAddr Tryz.prog 208 (.pointer (some ⟨n, off, none⟩)) (.int .i64 6) = some (.pointer (some ⟨n, off + 6, none⟩))) ∧
    (∀ n off : Nat, aIndexAddr Tryz.prog 208 (.pointer (some ⟨n, off, none⟩)) (.int .i64 7) = some (.pointer (some ⟨n, off + 7, none⟩))) ∧
    (∀ n off : Nat, aIndexAddr Tryz.prog 208 (.pointer (some ⟨n, off, none⟩)) (.int .i64 8) = some (.pointer (some ⟨n, off + 8, none⟩))) ∧
    (∀ n off : Nat, aIndexAddr Tryz.prog 208 (.pointer (some ⟨n, off, none⟩)) (.int .i64 9) = some (.pointer (some ⟨n, off + 9, none⟩))) ∧
    (∀ n off : Nat, aIndexAddr Tryz.prog 208 (.pointer (some ⟨n, off, none⟩)) (.int .i64 10) = some (.pointer (some ⟨n, off + 10, none⟩))) ∧
    (∀ n off : Nat, aIndexAddr Tryz.prog 208 (.pointer (some ⟨n, off, none⟩)) (.int .i64 11) = some (.pointer (some ⟨n, off + 11, none⟩))) ∧
    (∀ n off : Nat, aIndexAddr Tryz.prog 214 (.pointer (some ⟨n, off, none⟩)) (.int .i64 0) = some (.pointer (some ⟨n, off, none⟩))) ∧
    (∀ n off : Nat, aIndexAddr Tryz.prog 214 (.pointer (some ⟨n, off, none⟩)) (.int .i64 1) = some (.pointer (some ⟨n, off + 1, none⟩))) ∧
    (∀ n off : Nat, aIndexAddr Tryz.prog 214 (.pointer (some ⟨n, off, none⟩)) (.int .i64 2) = some (.pointer (some ⟨n, off + 2, none⟩))) ∧
    (∀ n off : Nat, aIndexAddr Tryz.prog 214 (.pointer (some ⟨n, off, none⟩)) (.int .i64 3) = some (.pointer (some ⟨n, off + 3, none⟩))) ∧
    (∀ n off : Nat, aIndexAddr Tryz.prog 214 (.pointer (some ⟨n, off, none⟩)) (.int .i64 4) = some (.pointer (some ⟨n, off + 4, none⟩))) ∧
    (∀ n off : Nat, aIndexAddr Tryz.prog 214 (.pointer (some ⟨n, off, none⟩)) (.int .i64 5) = some (.pointer (some ⟨n, off + 5, none⟩))) ∧
    (∀ n off : Nat, aIndexAddr Tryz.prog 214 (.pointer (some ⟨n, off, none⟩)) (.int .i64 6) = some (.pointer (some ⟨n, off + 6, none⟩))) ∧
    (∀ n off : Nat, aIndexAddr Tryz.prog 214 (.pointer (some ⟨n, off, none⟩)) (.int .i64 7) = some (.pointer (some ⟨n, off + 7, none⟩))) ∧
    (∀ n off : Nat, aIndexAddr Tryz.prog 214 (.pointer (some ⟨n, off, none⟩)) (.int .i64 8) = some (.pointer (some ⟨n, off + 8, none⟩))) ∧
    (∀ n off : Nat, aIndexAddr Tryz.prog 214 (.pointer (some ⟨n, off, none⟩)) (.int .i64 9) = some (.pointer (some ⟨n, off + 9, none⟩))) ∧
    (∀ n off : Nat, aIndexAddr Tryz.prog 214 (.pointer (some ⟨n, off, none⟩)) (.int .i64 10) = some (.pointer (some ⟨n, off + 10, none⟩))) ∧
    (∀ n off : Nat, aIndexAddr Tryz.prog 214 (.pointer (some ⟨n, off, none⟩)) (.int .i64 11) = some (.pointer (some ⟨n, off + 11, none⟩))) ∧
    (∀ n off : Nat, aIndexAddr Tryz.prog 215 (.pointer (some ⟨n, off, none⟩)) (.int .i64 0) = some (.pointer (some ⟨n, off, none⟩))) ∧
    (∀ n off : Nat, aIndexAddr Tryz.prog 215 (.pointer (some ⟨n, off, none⟩)) (.int .i64 1) = some (.pointer (some ⟨n, off + 1, none⟩))) ∧
    (∀ n off : Nat, aIndexAddr Tryz.prog 215 (.pointer (some ⟨n, off, none⟩)) (.int .i64 2) = some (.pointer (some ⟨n, off + 2, none⟩))) ∧
    (∀ n off : Nat, aIndexAddr Tryz.prog 215 (.pointer (some ⟨n, off, none⟩)) (.int .i64 3) = some (.pointer (some ⟨n, off + 3, none⟩))) ∧
    (∀ n off : Nat, aIndexAddr Tryz.prog 215 (.pointer (some ⟨n, off, none⟩)) (.int .i64 4) = some (.pointer (some ⟨n, off + 4, none⟩))) ∧
    (∀ n off : Nat, aIndexAddr Tryz.prog 215 (.pointer (some ⟨n, off, none⟩)) (.int .i64 5) = some (.pointer (some ⟨n, off + 5, none⟩))) ∧
    (∀ n off : Nat, aIndexAddr Tryz.prog 215 (.pointer (some ⟨n, off, none⟩)) (.int .i64 6) = some (.pointer (some ⟨n, off + 6, none⟩))) ∧
    (∀ n off : Nat, aIndexAddr Tryz.prog 215 (.pointer (some ⟨n, off, none⟩)) (.int .i64 7) = some (.pointer (some ⟨n, off + 7, none⟩))) ∧
    (∀ n off : Nat, aIndexAddr Tryz.prog 215 (.pointer (some ⟨n, off, none⟩)) (.int .i64 8) = some (.pointer (some ⟨n, off + 8, none⟩))) ∧
    (∀ n off : Nat, aIndexAddr Tryz.prog 215 (.pointer (some ⟨n, off, none⟩)) (.int .i64 9) = some (.pointer (some ⟨n, off + 9, none⟩))) ∧
    (∀ n off : Nat, aIndexAddr Tryz.prog 215 (.pointer (some ⟨n, off, none⟩)) (.int .i64 10) = some (.pointer (some ⟨n, off + 10, none⟩))) ∧
    (∀ n off : Nat, aIndexAddr Tryz.prog 215 (.pointer (some ⟨n, off, none⟩)) (.int .i64 11) = some (.pointer (some ⟨n, off + 11, none⟩))) := by
  refine ⟨?_, ?_, ?_, ?_, ?_, ?_, ?_, ?_, ?_, ?_, ?_, ?_, ?_, ?_, ?_, ?_, ?_, ?_, ?_, ?_, ?_, ?_, ?_, ?_, ?_, ?_, ?_, ?_, ?_, ?_, ?_, ?_, ?_, ?_, ?_, ?_, ?_, ?_, ?_, ?_, ?_, ?_, ?_, ?_, ?_, ?_, ?_, ?_, ?_, ?_, ?_, ?_, ?_, ?_, ?_, ?_, ?_, ?_, ?_, ?_, ?_, ?_, ?_, ?_, ?_, ?_, ?_, ?_, ?_, ?_, ?_, ?_, ?_, ?_, ?_, ?_, ?_, ?_, ?_, ?_, ?_, ?_, ?_, ?_, ?_, ?_, ?_, ?_, ?_, ?_, ?_, ?_, ?_, ?_, ?_, ?_⟩
  all_goals first | trivial | (intros; kernel_rfl)

theorem xSz :
    (szOf Tryz.prog 3 = some 1) ∧
    (aggT Tryz.prog 3 = some false) ∧
    (szOf Tryz.prog 4 = some 1) ∧
    (aggT Tryz.prog 4 = some false) ∧
    (szOf Tryz.prog 5 = some 1) ∧
    (aggT Tryz.prog 5 = some false) ∧
    (szOf Tryz.prog 9 = some 1) ∧
    (aggT Tryz.prog 9 = some false) ∧
    (szOf Tryz.prog 23 = some 1) ∧
    (aggT Tryz.prog 23 = some false) ∧
    (szOf Tryz.prog 24 = some 1) ∧
    (aggT Tryz.prog 24 = some false) ∧
    (szOf Tryz.prog 26 = some 2) ∧
    (aggT Tryz.prog 26 = some true) ∧
    (szOf Tryz.prog 31 = some 1) ∧
    (aggT Tryz.prog 31 = some false) ∧
    (szOf Tryz.prog 33 = some 5) ∧
    (aggT Tryz.prog 33 = some true) ∧
    (szOf Tryz.prog 35 = some 1) ∧
    (aggT Tryz.prog 35 = some false) ∧
    (szOf Tryz.prog 42 = some 1) ∧
    (aggT Tryz.prog 42 = some false) ∧
    (szOf Tryz.prog 59 = some 3) ∧
    (aggT Tryz.prog 59 = some true) ∧
    (szOf Tryz.prog 66 = some 1) ∧
    (aggT Tryz.prog 66 = some false) ∧
    (szOf Tryz.prog 68 = some 11) ∧
    (aggT Tryz.prog 68 = some true) ∧
    (szOf Tryz.prog 83 = some 2) ∧
    (aggT Tryz.prog 83 = some true) ∧
    (szOf Tryz.prog 87 = some 1) ∧
    (aggT Tryz.prog 87 = some false) ∧
    (szOf Tryz.prog 88 = some 1) ∧
    (aggT Tryz.prog 88 = some false) ∧
    (szOf Tryz.prog 90 = some 9) ∧
    (aggT Tryz.prog 90 = some true) ∧
    (szOf Tryz.prog 91 = some 1) ∧
    (aggT Tryz.prog 91 = some false) ∧
    (szOf Tryz.prog 93 = some 3) ∧
    (aggT Tryz.prog 93 = some true) ∧
    (szOf Tryz.prog 98 = some 1) ∧
    (aggT Tryz.prog 98 = some false) ∧
    (szOf Tryz.prog 100 = some 5) ∧
    (aggT Tryz.prog 100 = some true) ∧
    (szOf Tryz.prog 108 = some 1) ∧
    (aggT Tryz.prog 108 = some false) ∧
    (szOf Tryz.prog 110 = some 2) ∧
    (aggT Tryz.prog 110 = some true) ∧
    (szOf Tryz.prog 111 = some 1) ∧
    (aggT Tryz.prog 111 = some false) ∧
    (szOf Tryz.prog 113 = some 2) ∧
    (aggT Tryz.prog 113 = some true) ∧
    (szOf Tryz.prog 114 = some 56) ∧
    (aggT Tryz.prog 114 = some true) ∧
    (szOf Tryz.prog 134 = some 2) ∧
    (aggT Tryz.prog 134 = some true) ∧
    (szOf Tryz.prog 149 = some 6) ∧
    (aggT Tryz.prog 149 = some true) ∧
    (szOf Tryz.prog 176 = some 3) ∧
    (aggT Tryz.prog 176 = some true) ∧
    (szOf Tryz.prog 183 = some 3) ∧
    (aggT Tryz.prog 183 = some true) ∧
    (szOf Tryz.prog 189 = some 24) ∧
    (aggT Tryz.prog 189 = some true) ∧
    (szOf Tryz.prog 190 = some 1) ∧
    (aggT Tryz.prog 190 = some false) ∧
    (szOf Tryz.prog 197 = some 2) ∧
    (aggT Tryz.prog 197 = some true) ∧
    (szOf Tryz.prog 208 = some 65) ∧
    (aggT Tryz.prog 208 = some true) := by
  refine ⟨?_, ?_, ?_, ?_, ?_, ?_, ?_, ?_, ?_, ?_, ?_, ?_, ?_, ?_, ?_, ?_, ?_, ?_, ?_, ?_, ?_, ?_, ?_, ?_, ?_, ?_, ?_, ?_, ?_, ?_, ?_, ?_, ?_, ?_, ?_, ?_, ?_, ?_, ?_, ?_, ?_, ?_, ?_, ?_, ?_, ?_, ?_, ?_, ?_, ?_, ?_, ?_, ?_, ?_, ?_, ?_, ?_, ?_, ?_, ?_, ?_, ?_, ?_, ?_, ?_, ?_, ?_, ?_, ?_, ?_⟩
  all_goals first | trivial | (intros; kernel_rfl)

theorem xZ :
    (zeroOf Tryz.prog 3 = some (.int .i64 0)) ∧
    (zeroOf Tryz.prog 5 = some (.int .u8 0)) ∧
    (zeroOf Tryz.prog 9 = some (.string .empty)) ∧
    (zeroOf Tryz.prog 23 = some (.slice none 0 0)) ∧
    (zeroOf Tryz.prog 26 = some (.agg #[.int .i64 0, .int .i64 0])) ∧
    (zeroOf Tryz.prog 33 = some (.agg #[.int .i64 0, .int .i64 0, .int .i64 0, .slice none 0 0, .slice none 0 0])) ∧
    (zeroOf Tryz.prog 42 = some (.slice none 0 0)) ∧
    (zeroOf Tryz.prog 59 = some (.agg #[.int .i64 0, .int .i64 0, .slice none 0 0])) ∧
    (zeroOf Tryz.prog 68 = some (.agg #[.int .i64 0, .int .i64 0, .int .i64 0, .slice none 0 0, .slice none 0 0, .slice none 0 0, .slice none 0 0, .int .i64 0, .int .i64 0, .int .i64 0, .slice none 0 0])) ∧
    (zeroOf Tryz.prog 83 = some (.agg #[.int .i64 0, .int .i64 0])) ∧
    (zeroOf Tryz.prog 90 = some (.agg #[.int .i64 0, .int .i64 0, .int .i64 0, .slice none 0 0, .slice none 0 0, .slice none 0 0, .map none, .map none, .slice none 0 0])) ∧
    (zeroOf Tryz.prog 93 = some (.agg #[.int .i64 0, .int .i64 0, .slice none 0 0])) ∧
    (zeroOf Tryz.prog 100 = some (.agg #[.bool false, .bool false, .int .i64 0, .int .i64 0, .slice none 0 0])) ∧
    (zeroOf Tryz.prog 110 = some (.agg #[.pointer none, .slice none 0 0])) ∧
    (zeroOf Tryz.prog 113 = some (.agg #[.string .empty, .nilFunc])) ∧
    (zeroOf Tryz.prog 134 = some (.agg #[.int .i64 0, .int .i64 0])) ∧
    (zeroOf Tryz.prog 149 = some (.agg #[.int .i64 0, .int .i64 0, .slice none 0 0, .int .i64 0, .int .i64 0, .bool false])) ∧
    (zeroOf Tryz.prog 176 = some (.agg #[.int .i64 0, .int .i64 0, .int .i64 0])) ∧
    (zeroOf Tryz.prog 183 = some (.agg #[.int .i64 0, .int .i64 0, .int .i64 0])) ∧
    (zeroOf Tryz.prog 189 = some (.agg #[.int .u8 0, .int .u8 0, .int .u8 0, .int .u8 0, .int .u8 0, .int .u8 0, .int .u8 0, .int .u8 0, .int .u8 0, .int .u8 0, .int .u8 0, .int .u8 0, .int .u8 0, .int .u8 0, .int .u8 0, .int .u8 0, .int .u8 0, .int .u8 0, .int .u8 0, .int .u8 0, .int .u8 0, .int .u8 0, .int .u8 0, .int .u8 0])) ∧
    (zeroOf Tryz.prog 197 = some (.agg #[.int .u8 0, .int .u8 0])) := by
  refine ⟨?_, ?_, ?_, ?_, ?_, ?_, ?_, ?_, ?_, ?_, ?_, ?_, ?_, ?_, ?_, ?_, ?_, ?_, ?_, ?_, ?_⟩
  all_goals first | trivial | (intros; kernel_rfl)

theorem xSl :
    (Tryz.prog.underlying 23 = some (.slice 5)) ∧
    (Tryz.prog.underlying 31 = some (.slice 83)) ∧
    (Tryz.prog.underlying 35 = some (.slice 3)) ∧
    (Tryz.prog.underlying 42 = some (.slice 59)) ∧
    (Tryz.prog.underlying 54 = some (.slice 9)) ∧
    (Tryz.prog.underlying 66 = some (.slice 149)) ∧
    (Tryz.prog.underlying 91 = some (.slice 176)) ∧
    (Tryz.prog.underlying 95 = some (.slice 100)) ∧
    (Tryz.prog.underlying 98 = some (.slice 183)) ∧
    (Tryz.prog.underlying 3 = some (.int .i64)) ∧
    (Tryz.prog.underlying 9 = some .string) ∧
    (bytesOf Tryz.prog 3 = some 8) ∧
    (bytesOf Tryz.prog 5 = some 1) ∧
    (bytesOf Tryz.prog 9 = some 16) ∧
    (bytesOf Tryz.prog 59 = some 40) ∧
    (bytesOf Tryz.prog 83 = some 16) ∧
    (bytesOf Tryz.prog 100 = some 48) ∧
    (bytesOf Tryz.prog 149 = some 64) ∧
    (bytesOf Tryz.prog 176 = some 24) ∧
    (bytesOf Tryz.prog 183 = some 24) ∧
    (intTy Tryz.prog 23 = some false) ∧
    (intTy Tryz.prog 31 = some false) ∧
    (intTy Tryz.prog 35 = some false) ∧
    (intTy Tryz.prog 42 = some false) ∧
    (intTy Tryz.prog 54 = some false) ∧
    (intTy Tryz.prog 66 = some false) ∧
    (intTy Tryz.prog 91 = some false) ∧
    (intTy Tryz.prog 95 = some false) ∧
    (intTy Tryz.prog 98 = some false) ∧
    (intTy Tryz.prog 3 = some true) := by
  refine ⟨?_, ?_, ?_, ?_, ?_, ?_, ?_, ?_, ?_, ?_, ?_, ?_, ?_, ?_, ?_, ?_, ?_, ?_, ?_, ?_, ?_, ?_, ?_, ?_, ?_, ?_, ?_, ?_, ?_, ?_⟩
  all_goals first | trivial | (intros; kernel_rfl)

theorem xBd :
    (aBuild Tryz.prog 26 [] = some (.agg #[.int .i64 0, .int .i64 0])) ∧
    (∀ (x1 : Int), aBuild Tryz.prog 26 [(0, .int .i64 x1)] = some (.agg #[.int .i64 x1, .int .i64 0])) ∧
    (∀ (x2 : Int) (x3 : Int), aBuild Tryz.prog 26 [(0, .int .i64 x2), (1, .int .i64 x3)] = some (.agg #[.int .i64 x2, .int .i64 x3])) ∧
    (∀ (x4 : Int), aBuild Tryz.prog 33 [(0, .int .i64 x4)] = some (.agg #[.int .i64 x4, .int .i64 0, .int .i64 0, .slice none 0 0, .slice none 0 0])) ∧
    (∀ (x5 : Int) (x6 : Int) (x7 : Int) (x8 : Option Addr) (y8 z8 : Nat) (x9 : Option Addr) (y9 z9 : Nat), aBuild Tryz.prog 33 [(0, .int .i64 x5), (1, .int .i64 x6), (2, .int .i64 x7), (3, .slice x8 y8 z8), (4, .slice x9 y9 z9)] = some (.agg #[.int .i64 x5, .int .i64 x6, .int .i64 x7, .slice x8 y8 z8, .slice x9 y9 z9])) ∧
    (∀ (x10 : Int) (x11 : Int) (x12 : Option Addr) (y12 z12 : Nat), aBuild Tryz.prog 33 [(1, .int .i64 x10), (2, .int .i64 x11), (4, .slice x12 y12 z12)] = some (.agg #[.int .i64 0, .int .i64 x10, .int .i64 x11, .slice none 0 0, .slice x12 y12 z12])) ∧
    (∀ (x13 : Int), aBuild Tryz.prog 59 [(0, .int .i64 x13)] = some (.agg #[.int .i64 x13, .int .i64 0, .slice none 0 0])) ∧
    (∀ (x14 : Int) (x15 : Int), aBuild Tryz.prog 59 [(0, .int .i64 x14), (1, .int .i64 x15)] = some (.agg #[.int .i64 x14, .int .i64 x15, .slice none 0 0])) ∧
    (∀ (x16 : Int) (x17 : Int) (x18 : Option Addr) (y18 z18 : Nat), aBuild Tryz.prog 59 [(0, .int .i64 x16), (1, .int .i64 x17), (2, .slice x18 y18 z18)] = some (.agg #[.int .i64 x16, .int .i64 x17, .slice x18 y18 z18])) ∧
    (∀ (x19 : Int), aBuild Tryz.prog 59 [(1, .int .i64 x19)] = some (.agg #[.int .i64 0, .int .i64 x19, .slice none 0 0])) ∧
    (∀ (x20 : Int) (x21 : Option Addr) (y21 z21 : Nat), aBuild Tryz.prog 59 [(1, .int .i64 x20), (2, .slice x21 y21 z21)] = some (.agg #[.int .i64 0, .int .i64 x20, .slice x21 y21 z21])) ∧
    (∀ (c22_0 c22_1 c22_2 c22_3 c22_4 : Value) (x23 : Option Addr) (y23 z23 : Nat) (x24 : Option Addr) (y24 z24 : Nat) (x25 : Int), aBuild Tryz.prog 68 [(0, .agg #[c22_0, c22_1, c22_2, c22_3, c22_4]), (1, .slice x23 y23 z23), (2, .slice x24 y24 z24), (4, .int .i64 x25)] = some (.agg #[c22_0, c22_1, c22_2, c22_3, c22_4, .slice x23 y23 z23, .slice x24 y24 z24, .int .i64 0, .int .i64 x25, .int .i64 0, .slice none 0 0])) ∧
    (∀ (c26_0 c26_1 c26_2 c26_3 c26_4 : Value) (x27 : Option Nat), aBuild Tryz.prog 90 [(0, .agg #[c26_0, c26_1, c26_2, c26_3, c26_4]), (3, .map x27)] = some (.agg #[c26_0, c26_1, c26_2, c26_3, c26_4, .slice none 0 0, .map none, .map x27, .slice none 0 0])) ∧
    (∀ (x28 : Int), aBuild Tryz.prog 93 [(0, .int .i64 x28)] = some (.agg #[.int .i64 x28, .int .i64 0, .slice none 0 0])) ∧
    (∀ (x29 : Bool) (x30 : Int), aBuild Tryz.prog 100 [(0, .bool x29), (2, .int .i64 x30)] = some (.agg #[.bool x29, .bool false, .int .i64 x30, .int .i64 0, .slice none 0 0])) ∧
    (∀ (x31 : Bool) (x32 : Int) (x33 : Int) (x34 : Option Addr) (y34 z34 : Nat), aBuild Tryz.prog 100 [(0, .bool x31), (2, .int .i64 x32), (3, .int .i64 x33), (4, .slice x34 y34 z34)] = some (.agg #[.bool x31, .bool false, .int .i64 x32, .int .i64 x33, .slice x34 y34 z34])) ∧
    (∀ (x35 : ByteArray) (x36 : Fn) (y36 z36 : Array Value), aBuild Tryz.prog 113 [(0, .string x35), (1, .func x36 y36 z36)] = some (.agg #[.string x35, .func x36 y36 z36])) ∧
    (∀ (x35 : ByteArray), aBuild Tryz.prog 113 [(0, .string x35), (1, .nilFunc)] = some (.agg #[.string x35, .nilFunc])) ∧
    (∀ (c37_0 c37_1 : Value) (c38_0 c38_1 : Value) (c39_0 c39_1 : Value) (c40_0 c40_1 : Value) (c41_0 c41_1 : Value) (c42_0 c42_1 : Value) (c43_0 c43_1 : Value) (c44_0 c44_1 : Value) (c45_0 c45_1 : Value) (c46_0 c46_1 : Value) (c47_0 c47_1 : Value) (c48_0 c48_1 : Value) (c49_0 c49_1 : Value) (c50_0 c50_1 : Value) (c51_0 c51_1 : Value) (c52_0 c52_1 : Value) (c53_0 c53_1 : Value) (c54_0 c54_1 : Value) (c55_0 c55_1 : Value) (c56_0 c56_1 : Value) (c57_0 c57_1 : Value) (c58_0 c58_1 : Value) (c59_0 c59_1 : Value) (c60_0 c60_1 : Value) (c61_0 c61_1 : Value) (c62_0 c62_1 : Value) (c63_0 c63_1 : Value) (c64_0 c64_1 : Value), aBuild Tryz.prog 114 [(0, .agg #[c37_0, c37_1]), (1, .agg #[c38_0, c38_1]), (2, .agg #[c39_0, c39_1]), (3, .agg #[c40_0, c40_1]), (4, .agg #[c41_0, c41_1]), (5, .agg #[c42_0, c42_1]), (6, .agg #[c43_0, c43_1]), (7, .agg #[c44_0, c44_1]), (8, .agg #[c45_0, c45_1]), (9, .agg #[c46_0, c46_1]), (10, .agg #[c47_0, c47_1]), (11, .agg #[c48_0, c48_1]), (12, .agg #[c49_0, c49_1]), (13, .agg #[c50_0, c50_1]), (14, .agg #[c51_0, c51_1]), (15, .agg #[c52_0, c52_1]), (16, .agg #[c53_0, c53_1]), (17, .agg #[c54_0, c54_1]), (18, .agg #[c55_0, c55_1]), (19, .agg #[c56_0, c56_1]), (20, .agg #[c57_0, c57_1]), (21, .agg #[c58_0, c58_1]), (22, .agg #[c59_0, c59_1]), (23, .agg #[c60_0, c60_1]), (24, .agg #[c61_0, c61_1]), (25, .agg #[c62_0, c62_1]), (26, .agg #[c63_0, c63_1]), (27, .agg #[c64_0, c64_1])] = some (.agg #[c37_0, c37_1, c38_0, c38_1, c39_0, c39_1, c40_0, c40_1, c41_0, c41_1, c42_0, c42_1, c43_0, c43_1, c44_0, c44_1, c45_0, c45_1, c46_0, c46_1, c47_0, c47_1, c48_0, c48_1, c49_0, c49_1, c50_0, c50_1, c51_0, c51_1, c52_0, c52_1, c53_0, c53_1, c54_0, c54_1, c55_0, c55_1, c56_0, c56_1, c57_0, c57_1, c58_0, c58_1, c59_0, c59_1, c60_0, c60_1, c61_0, c61_1, c62_0, c62_1, c63_0, c63_1, c64_0, c64_1])) ∧
    (∀ (x65 : Int) (x66 : Int), aBuild Tryz.prog 134 [(0, .int .i64 x65), (1, .int .i64 x66)] = some (.agg #[.int .i64 x65, .int .i64 x66])) ∧
    (∀ (c67_0 c67_1 c67_2 : Value) (x68 : Int) (x69 : Int), aBuild Tryz.prog 149 [(0, .agg #[c67_0, c67_1, c67_2]), (1, .int .i64 x68), (2, .int .i64 x69)] = some (.agg #[c67_0, c67_1, c67_2, .int .i64 x68, .int .i64 x69, .bool false])) ∧
    (∀ (x70 : Int), aBuild Tryz.prog 176 [(0, .int .i64 x70)] = some (.agg #[.int .i64 x70, .int .i64 0, .int .i64 0])) ∧
    (∀ (x71 : Int) (x72 : Int) (x73 : Int), aBuild Tryz.prog 176 [(0, .int .i64 x71), (1, .int .i64 x72), (2, .int .i64 x73)] = some (.agg #[.int .i64 x71, .int .i64 x72, .int .i64 x73])) ∧
    (∀ (x74 : Int), aBuild Tryz.prog 183 [(0, .int .i64 x74)] = some (.agg #[.int .i64 x74, .int .i64 0, .int .i64 0])) ∧
    (∀ (x75 : Int) (x76 : Int) (x77 : Int), aBuild Tryz.prog 183 [(0, .int .i64 x75), (1, .int .i64 x76), (2, .int .i64 x77)] = some (.agg #[.int .i64 x75, .int .i64 x76, .int .i64 x77])) := by
  refine ⟨?_, ?_, ?_, ?_, ?_, ?_, ?_, ?_, ?_, ?_, ?_, ?_, ?_, ?_, ?_, ?_, ?_, ?_, ?_, ?_, ?_, ?_, ?_, ?_, ?_⟩
  all_goals first | trivial | (intros; kernel_rfl)

theorem xBs :
    (∀ H : AHeap, aBuildSlice Tryz.prog H 23 0 [] = (aNew H 5 [] false).map fun g => (.slice (some ⟨H.next, 0, some 0⟩) 0 0, g)) ∧
    (∀ H : AHeap, ∀ (x78 : Int), aBuildSlice Tryz.prog H 23 1 [(0, .int .u8 x78)] = (aNew H 5 [.int .u8 x78] false).map fun g => (.slice (some ⟨H.next, 0, some 0⟩) 1 1, g)) ∧
    (∀ H : AHeap, ∀ (x79 : Int) (x80 : Int), aBuildSlice Tryz.prog H 23 2 [(0, .int .u8 x79), (1, .int .u8 x80)] = (aNew H 5 [.int .u8 x79, .int .u8 x80] false).map fun g => (.slice (some ⟨H.next, 0, some 0⟩) 2 2, g)) ∧
    (∀ H : AHeap, ∀ (x81 : Int) (x82 : Int) (x83 : Int), aBuildSlice Tryz.prog H 23 3 [(0, .int .u8 x81), (1, .int .u8 x82), (2, .int .u8 x83)] = (aNew H 5 [.int .u8 x81, .int .u8 x82, .int .u8 x83] false).map fun g => (.slice (some ⟨H.next, 0, some 0⟩) 3 3, g)) ∧
    (∀ H : AHeap, ∀ (x84 : Int) (x85 : Int) (x86 : Int) (x87 : Int), aBuildSlice Tryz.prog H 23 4 [(0, .int .u8 x84), (1, .int .u8 x85), (2, .int .u8 x86), (3, .int .u8 x87)] = (aNew H 5 [.int .u8 x84, .int .u8 x85, .int .u8 x86, .int .u8 x87] false).map fun g => (.slice (some ⟨H.next, 0, some 0⟩) 4 4, g)) ∧
    (∀ H : AHeap, ∀ (x88 : Int) (x89 : Int) (x90 : Int) (x91 : Int) (x92 : Int) (x93 : Int) (x94 : Int), aBuildSlice Tryz.prog H 23 7 [(0, .int .u8 x88), (1, .int .u8 x89), (2, .int .u8 x90), (3, .int .u8 x91), (4, .int .u8 x92), (5, .int .u8 x93), (6, .int .u8 x94)] = (aNew H 5 [.int .u8 x88, .int .u8 x89, .int .u8 x90, .int .u8 x91, .int .u8 x92, .int .u8 x93, .int .u8 x94] false).map fun g => (.slice (some ⟨H.next, 0, some 0⟩) 7 7, g)) ∧
    (∀ H : AHeap, aBuildSlice Tryz.prog H 31 0 [] = (aNew H 83 [] false).map fun g => (.slice (some ⟨H.next, 0, some 0⟩) 0 0, g)) ∧
    (∀ H : AHeap, aBuildSlice Tryz.prog H 35 0 [] = (aNew H 3 [] false).map fun g => (.slice (some ⟨H.next, 0, some 0⟩) 0 0, g)) ∧
    (∀ H : AHeap, ∀ (x95 : Int), aBuildSlice Tryz.prog H 35 1 [(0, .int .i64 x95)] = (aNew H 3 [.int .i64 x95] false).map fun g => (.slice (some ⟨H.next, 0, some 0⟩) 1 1, g)) ∧
    (∀ H : AHeap, ∀ (x96 : Int) (x97 : Int), aBuildSlice Tryz.prog H 35 2 [(0, .int .i64 x96), (1, .int .i64 x97)] = (aNew H 3 [.int .i64 x96, .int .i64 x97] false).map fun g => (.slice (some ⟨H.next, 0, some 0⟩) 2 2, g)) ∧
    (∀ H : AHeap, ∀ (x98 : Int) (x99 : Int) (x100 : Int), aBuildSlice Tryz.prog H 35 3 [(0, .int .i64 x98), (1, .int .i64 x99), (2, .int .i64 x100)] = (aNew H 3 [.int .i64 x98, .int .i64 x99, .int .i64 x100] false).map fun g => (.slice (some ⟨H.next, 0, some 0⟩) 3 3, g)) ∧
    (∀ H : AHeap, ∀ (x101 : Int) (x102 : Int) (x103 : Int) (x104 : Int) (x105 : Int), aBuildSlice Tryz.prog H 35 5 [(0, .int .i64 x101), (1, .int .i64 x102), (2, .int .i64 x103), (3, .int .i64 x104), (4, .int .i64 x105)] = (aNew H 3 [.int .i64 x101, .int .i64 x102, .int .i64 x103, .int .i64 x104, .int .i64 x105] false).map fun g => (.slice (some ⟨H.next, 0, some 0⟩) 5 5, g)) ∧
    (∀ H : AHeap, ∀ (c106_0 c106_1 c106_2 : Value), aBuildSlice Tryz.prog H 42 1 [(0, .agg #[c106_0, c106_1, c106_2])] = (aNew H 59 [c106_0, c106_1, c106_2] false).map fun g => (.slice (some ⟨H.next, 0, some 0⟩) 1 1, g)) ∧
    (∀ H : AHeap, ∀ (x107 : ByteArray), aBuildSlice Tryz.prog H 54 1 [(0, .string x107)] = (aNew H 9 [.string x107] false).map fun g => (.slice (some ⟨H.next, 0, some 0⟩) 1 1, g)) ∧
    (∀ H : AHeap, ∀ (x108 : ByteArray) (x109 : ByteArray) (x110 : ByteArray) (x111 : ByteArray) (x112 : ByteArray) (x113 : ByteArray) (x114 : ByteArray) (x115 : ByteArray) (x116 : ByteArray) (x117 : ByteArray) (x118 : ByteArray) (x119 : ByteArray) (x120 : ByteArray) (x121 : ByteArray) (x122 : ByteArray) (x123 : ByteArray) (x124 : ByteArray) (x125 : ByteArray) (x126 : ByteArray) (x127 : ByteArray) (x128 : ByteArray) (x129 : ByteArray) (x130 : ByteArray) (x131 : ByteArray) (x132 : ByteArray) (x133 : ByteArray) (x134 : ByteArray) (x135 : ByteArray), aBuildSlice Tryz.prog H 54 28 [(0, .string x108), (1, .string x109), (2, .string x110), (3, .string x111), (4, .string x112), (5, .string x113), (6, .string x114), (7, .string x115), (8, .string x116), (9, .string x117), (10, .string x118), (11, .string x119), (12, .string x120), (13, .string x121), (14, .string x122), (15, .string x123), (16, .string x124), (17, .string x125), (18, .string x126), (19, .string x127), (20, .string x128), (21, .string x129), (22, .string x130), (23, .string x131), (24, .string x132), (25, .string x133), (26, .string x134), (27, .string x135)] = (aNew H 9 [.string x108, .string x109, .string x110, .string x111, .string x112, .string x113, .string x114, .string x115, .string x116, .string x117, .string x118, .string x119, .string x120, .string x121, .string x122, .string x123, .string x124, .string x125, .string x126, .string x127, .string x128, .string x129, .string x130, .string x131, .string x132, .string x133, .string x134, .string x135] false).map fun g => (.slice (some ⟨H.next, 0, some 0⟩) 28 28, g)) ∧
    (∀ H : AHeap, aBuildSlice Tryz.prog H 66 0 [] = (aNew H 149 [] false).map fun g => (.slice (some ⟨H.next, 0, some 0⟩) 0 0, g)) ∧
    (∀ H : AHeap, ∀ (c136_0 c136_1 c136_2 c136_3 c136_4 c136_5 : Value), aBuildSlice Tryz.prog H 66 1 [(0, .agg #[c136_0, c136_1, c136_2, c136_3, c136_4, c136_5])] = (aNew H 149 [c136_0, c136_1, c136_2, c136_3, c136_4, c136_5] false).map fun g => (.slice (some ⟨H.next, 0, some 0⟩) 1 1, g)) ∧
    (∀ H : AHeap, aBuildSlice Tryz.prog H 91 0 [] = (aNew H 176 [] false).map fun g => (.slice (some ⟨H.next, 0, some 0⟩) 0 0, g)) ∧
    (∀ H : AHeap, ∀ (c137_0 c137_1 c137_2 : Value), aBuildSlice Tryz.prog H 91 1 [(0, .agg #[c137_0, c137_1, c137_2])] = (aNew H 176 [c137_0, c137_1, c137_2] false).map fun g => (.slice (some ⟨H.next, 0, some 0⟩) 1 1, g)) ∧
    (∀ H : AHeap, aBuildSlice Tryz.prog H 98 0 [] = (aNew H 183 [] false).map fun g => (.slice (some ⟨H.next, 0, some 0⟩) 0 0, g)) ∧
    (∀ H : AHeap, ∀ (c138_0 c138_1 c138_2 : Value), aBuildSlice Tryz.prog H 98 1 [(0, .agg #[c138_0, c138_1, c138_2])] = (aNew H 183 [c138_0, c138_1, c138_2] false).map fun g => (.slice (some ⟨H.next, 0, some 0⟩) 1 1, g)) := by
  refine ⟨?_, ?_, ?_, ?_, ?_, ?_, ?_, ?_, ?_, ?_, ?_, ?_, ?_, ?_, ?_, ?_, ?_, ?_, ?_, ?_, ?_⟩
  all_goals first | trivial | (intros; kernel_rfl)

theorem xTA :
    (∀ v : Value, aTypeAssert Tryz.prog (.iface 9 v) 134 true = some (.tuple #[.agg #[.int .i64 0, .int .i64 0], .bool false])) ∧
    (∀ v : Value, aTypeAssert Tryz.prog (.iface 134 v) 134 true = some (.tuple #[v, .bool true])) := by
  refine ⟨?_, ?_⟩
  all_goals first | trivial | (intros; kernel_rfl)

theorem xMI :
    (∀ v : Value, ifaceW Tryz.prog 9 v = some (.iface 9 v)) ∧
    (∀ v : Value, ifaceW Tryz.prog 134 v = some (.iface 134 v)) := by
  refine ⟨?_, ?_⟩
  all_goals first | trivial | (intros; kernel_rfl)

theorem xCm :
    (∀ (H : AHeap) (u : TypeId) (v : Value), aBin Tryz.prog H .eql 20 (.iface u v) (.nilIface) = some (.bool false)) ∧
    (∀ (H : AHeap) (u : TypeId) (v : Value), aBin Tryz.prog H .neq 20 (.iface u v) (.nilIface) = some (.bool true)) ∧
    (∀ (H : AHeap) (a : Addr) (n c : Nat), aBin Tryz.prog H .eql 91 (.slice (some a) n c) (.slice none 0 0) = some (.bool false)) ∧
    (∀ (H : AHeap) (n c : Nat), aBin Tryz.prog H .eql 91 (.slice none n c) (.slice none 0 0) = some (.bool true)) ∧
    (∀ (H : AHeap) (a : Addr) (n c : Nat), aBin Tryz.prog H .neq 91 (.slice (some a) n c) (.slice none 0 0) = some (.bool true)) ∧
    (∀ (H : AHeap) (n c : Nat), aBin Tryz.prog H .neq 91 (.slice none n c) (.slice none 0 0) = some (.bool false)) ∧
    (∀ (H : AHeap) (a : Addr), aBin Tryz.prog H .eql 108 (.pointer (some a)) (.pointer none) = some (.bool false)) ∧
    (∀ (H : AHeap), aBin Tryz.prog H .eql 108 (.pointer none) (.pointer none) = some (.bool true)) ∧
    (∀ (H : AHeap) (a : Addr), aBin Tryz.prog H .neq 108 (.pointer (some a)) (.pointer none) = some (.bool true)) ∧
    (∀ (H : AHeap), aBin Tryz.prog H .neq 108 (.pointer none) (.pointer none) = some (.bool false)) := by
  refine ⟨?_, ?_, ?_, ?_, ?_, ?_, ?_, ?_, ?_, ?_⟩
  all_goals first | trivial | (intros; kernel_rfl)

theorem xHB :
    (hasBody Tryz.prog 3 = true) ∧
    (hasBody Tryz.prog 4 = true) ∧
    (hasBody Tryz.prog 5 = true) ∧
    (hasBody Tryz.prog 6 = true) ∧
    (hasBody Tryz.prog 7 = true) ∧
    (hasBody Tryz.prog 8 = true) ∧
    (hasBody Tryz.prog 9 = true) ∧
    (hasBody Tryz.prog 10 = true) ∧
    (hasBody Tryz.prog 11 = true) ∧
    (hasBody Tryz.prog 12 = true) ∧
    (hasBody Tryz.prog 13 = true) ∧
    (hasBody Tryz.prog 14 = true) ∧
    (hasBody Tryz.prog 15 = true) ∧
    (hasBody Tryz.prog 16 = true) ∧
    (hasBody Tryz.prog 17 = true) ∧
    (hasBody Tryz.prog 18 = true) ∧
    (hasBody Tryz.prog 19 = true) ∧
    (hasBody Tryz.prog 20 = true) ∧
    (hasBody Tryz.prog 21 = true) ∧
    (hasBody Tryz.prog 22 = true) ∧
    (hasBody Tryz.prog 23 = true) ∧
    (hasBody Tryz.prog 24 = true) ∧
    (hasBody Tryz.prog 25 = true) ∧
    (hasBody Tryz.prog 26 = true) ∧
    (hasBody Tryz.prog 27 = true) ∧
    (hasBody Tryz.prog 28 = true) ∧
    (hasBody Tryz.prog 29 = true) ∧
    (hasBody Tryz.prog 30 = true) ∧
    (hasBody Tryz.prog 31 = true) ∧
    (hasBody Tryz.prog 32 = true) ∧
    (hasBody Tryz.prog 33 = true) ∧
    (hasBody Tryz.prog 34 = true) ∧
    (hasBody Tryz.prog 35 = true) ∧
    (hasBody Tryz.prog 36 = true) ∧
    (hasBody Tryz.prog 37 = true) ∧
    (hasBody Tryz.prog 38 = true) ∧
    (hasBody Tryz.prog 39 = true) ∧
    (hasBody Tryz.prog 40 = true) ∧
    (hasBody Tryz.prog 41 = true) ∧
    (hasBody Tryz.prog 42 = true) ∧
    (hasBody Tryz.prog 43 = true) ∧
    (hasBody Tryz.prog 44 = true) ∧
    (hasBody Tryz.prog 45 = true) ∧
    (hasBody Tryz.prog 46 = true) ∧
    (hasBody Tryz.prog 47 = true) ∧
    (hasBody Tryz.prog 48 = true) ∧
    (hasBody Tryz.prog 49 = true) ∧
    (hasBody Tryz.prog 50 = true) ∧
    (hasBody Tryz.prog 51 = true) ∧
    (hasBody Tryz.prog 52 = true) ∧
    (hasBody Tryz.prog 53 = true) ∧
    (hasBody Tryz.prog 54 = true) ∧
    (hasBody Tryz.prog 55 = true) ∧
    (hasBody Tryz.prog 56 = true) ∧
    (hasBody Tryz.prog 57 = true) ∧
    (hasBody Tryz.prog 58 = true) ∧
    (hasBody Tryz.prog 59 = true) ∧
    (hasBody Tryz.prog 60 = true) ∧
    (hasBody Tryz.prog 61 = true) ∧
    (hasBody Tryz.prog 62 = true) ∧
    (hasBody Tryz.prog 63 = true) ∧
    (hasBody Tryz.prog 64 = true) ∧
    (hasBody Tryz.prog 65 = true) ∧
    (hasBody Tryz.prog 66 = true) ∧
    (hasBody Tryz.prog 67 = true) ∧
    (hasBody Tryz.prog 68 = true) ∧
    (hasBody Tryz.prog 69 = true) ∧
    (hasBody Tryz.prog 70 = true) ∧
    (hasBody Tryz.prog 71 = true) ∧
    (hasBody Tryz.prog 72 = true) ∧
    (hasBody Tryz.prog 73 = true) ∧
    (hasBody Tryz.prog 74 = true) ∧
    (hasBody Tryz.prog 75 = true) ∧
    (hasBody Tryz.prog 76 = true) ∧
    (hasBody Tryz.prog 77 = true) ∧
    (hasBody Tryz.prog 78 = true) ∧
    (hasBody Tryz.prog 79 = true) ∧
    (hasBody Tryz.prog 80 = true) ∧
    (hasBody Tryz.prog 81 = true) ∧
    (hasBody Tryz.prog 82 = true) ∧
    (hasBody Tryz.prog 83 = true) ∧
    (hasBody Tryz.prog 84 = true) ∧
    (hasBody Tryz.prog 85 = true) ∧
    (hasBody Tryz.prog 86 = true) ∧
    (hasBody Tryz.prog 87 = true) ∧
    (hasBody Tryz.prog 88 = true) ∧
    (hasBody Tryz.prog 89 = true) ∧
    (hasBody Tryz.prog 90 = true) ∧
    (hasBody Tryz.prog 91 = true) ∧
    (hasBody Tryz.prog 92 = true) ∧
    (hasBody Tryz.prog 93 = true) ∧
    (hasBody Tryz.prog 94 = true) ∧
    (hasBody Tryz.prog 95 = true) ∧
    (hasBody Tryz.prog 96 = true) ∧
    (hasBody Tryz.prog 97 = true) ∧
    (hasBody Tryz.prog 98 = true) ∧
    (hasBody Tryz.prog 99 = true) ∧
    (hasBody Tryz.prog 100 = true) ∧
    (hasBody Tryz.prog 101 = true) ∧
    (hasBody Tryz.prog 102 = true) ∧
    (hasBody Tryz.prog 103 = true) ∧
    (hasBody Tryz.prog 104 = true) ∧
    (hasBody Tryz.prog 105 = true) ∧
    (hasBody Tryz.prog 106 = true) ∧
    (hasBody Tryz.prog 107 = true) ∧
    (hasBody Tryz.prog 108 = true) ∧
    (hasBody Tryz.prog 109 = true) ∧
    (hasBody Tryz.prog 110 = true) ∧
    (hasBody Tryz.prog 111 = true) ∧
    (hasBody Tryz.prog 113 = true) ∧
    (hasBody Tryz.prog 114 = true) ∧
    (hasBody Tryz.prog 115 = true) ∧
    (hasBody Tryz.prog 116 = true) ∧
    (hasBody Tryz.prog 117 = true) ∧
    (hasBody Tryz.prog 118 = true) ∧
    (hasBody Tryz.prog 119 = true) ∧
    (hasBody Tryz.prog 120 = true) ∧
    (hasBody Tryz.prog 122 = true) ∧
    (hasBody Tryz.prog 123 = true) ∧
    (hasBody Tryz.prog 124 = true) ∧
    (hasBody Tryz.prog 125 = true) ∧
    (hasBody Tryz.prog 126 = true) ∧
    (hasBody Tryz.prog 127 = true) ∧
    (hasBody Tryz.prog 128 = true) ∧
    (hasBody Tryz.prog 129 = true) ∧
    (hasBody Tryz.prog 130 = true) ∧
    (hasBody Tryz.prog 131 = true) ∧
    (hasBody Tryz.prog 132 = true) ∧
    (hasBody Tryz.prog 133 = true) ∧
    (hasBody Tryz.prog 134 = true) ∧
    (hasBody Tryz.prog 135 = true) ∧
    (hasBody Tryz.prog 136 = true) ∧
    (hasBody Tryz.prog 137 = true) ∧
    (hasBody Tryz.prog 138 = true) ∧
    (hasBody Tryz.prog 139 = true) ∧
    (hasBody Tryz.prog 140 = true) ∧
    (hasBody Tryz.prog 141 = true) ∧
    (hasBody Tryz.prog 144 = true) ∧
    (hasBody Tryz.prog 145 = true) ∧
    (hasBody Tryz.prog 146 = true) ∧
    (hasBody Tryz.prog 148 = true) ∧
    (hasBody Tryz.prog 149 = true) ∧
    (hasBody Tryz.prog 150 = true) ∧
    (hasBody Tryz.prog 151 = true) ∧
    (hasBody Tryz.prog 152 = true) ∧
    (hasBody Tryz.prog 153 = true) ∧
    (hasBody Tryz.prog 154 = true) ∧
    (hasBody Tryz.prog 155 = true) ∧
    (hasBody Tryz.prog 156 = true) ∧
    (hasBody Tryz.prog 157 = true) ∧
    (hasBody Tryz.prog 158 = true) ∧
    (hasBody Tryz.prog 159 = true) ∧
    (hasBody Tryz.prog 160 = true) ∧
    (hasBody Tryz.prog 161 = true) ∧
    (hasBody Tryz.prog 162 = true) ∧
    (hasBody Tryz.prog 164 = true) ∧
    (hasBody Tryz.prog 165 = true) := by
  refine ⟨?_, ?_, ?_, ?_, ?_, ?_, ?_, ?_, ?_, ?_, ?_, ?_, ?_, ?_, ?_, ?_, ?_, ?_, ?_, ?_, ?_, ?_, ?_, ?_, ?_, ?_, ?_, ?_, ?_, ?_, ?_, ?_, ?_, ?_, ?_, ?_, ?_, ?_, ?_, ?_, ?_, ?_, ?_, ?_, ?_, ?_, ?_, ?_, ?_, ?_, ?_, ?_, ?_, ?_, ?_, ?_, ?_, ?_, ?_, ?_, ?_, ?_, ?_, ?_, ?_, ?_, ?_, ?_, ?_, ?_, ?_, ?_, ?_, ?_, ?_, ?_, ?_, ?_, ?_, ?_, ?_, ?_, ?_, ?_, ?_, ?_, ?_, ?_, ?_, ?_, ?_, ?_, ?_, ?_, ?_, ?_, ?_, ?_, ?_, ?_, ?_, ?_, ?_, ?_, ?_, ?_, ?_, ?_, ?_, ?_, ?_, ?_, ?_, ?_, ?_, ?_, ?_, ?_, ?_, ?_, ?_, ?_, ?_, ?_, ?_, ?_, ?_, ?_, ?_, ?_, ?_, ?_, ?_, ?_, ?_, ?_, ?_, ?_, ?_, ?_, ?_, ?_, ?_, ?_, ?_, ?_, ?_, ?_, ?_, ?_, ?_, ?_, ?_, ?_, ?_, ?_, ?_⟩
  all_goals first | trivial | (intros; kernel_rfl)

theorem xGl :
    (∀ N : Nat, opOk Tryz.prog N (.global 0) = true) ∧
    (∀ N : Nat, opOk Tryz.prog N (.global 1) = true) ∧
    (∀ N : Nat, opOk Tryz.prog N (.global 2) = true) ∧
    (∀ N : Nat, opOk Tryz.prog N (.global 3) = true) ∧
    (∀ N : Nat, opOk Tryz.prog N (.global 4) = true) ∧
    (∀ N : Nat, opOk Tryz.prog N (.global 5) = true) := by
  refine ⟨?_, ?_, ?_, ?_, ?_, ?_⟩
  all_goals first | trivial | (intros; kernel_rfl)

theorem xF : type_of% (And.intro @xFA ( And.intro @xFD ( And.intro @xIA ( And.intro @xSz ( And.intro @xZ ( And.intro @xSl ( And.intro @xBd ( And.intro @xBs ( And.intro @xTA ( And.intro @xMI ( And.intro @xCm ( And.intro @xHB ( And.intro @xGl (@xU4)))))))))))))) :=
  And.intro @xFA ( And.intro @xFD ( And.intro @xIA ( And.intro @xSz ( And.intro @xZ ( And.intro @xSl ( And.intro @xBd ( And.intro @xBs ( And.intro @xTA ( And.intro @xMI ( And.intro @xCm ( And.intro @xHB ( And.intro @xGl (@xU4)))))))))))))

end Go.Proofs.YtnigelgcjfhghaaGreatDoor

/- The opcodes' shapes: what shapes() answers (by wip/tools/genshapes.py). -/
namespace Go.Proofs.YtnigelgcjfhghaaGreatDoor
open Go.Ax
set_option linter.unusedSimpArgs false
set_option maxRecDepth 100000

def opsL : List (ByteArray × Option ByteArray) := [(⟨#[99, 111, 110, 115, 116]⟩, some ⟨#[107]⟩), (⟨#[99, 111, 112, 121]⟩, some ⟨#[105]⟩), (⟨#[115, 116, 111, 114, 101]⟩, some ⟨#[105]⟩), (⟨#[100, 114, 111, 112]⟩, some ⟨#[]⟩), (⟨#[107, 101, 101, 112]⟩, some ⟨#[110]⟩), (⟨#[118, 97, 114]⟩, some ⟨#[107]⟩), (⟨#[115, 101, 116, 118, 97, 114]⟩, some ⟨#[107]⟩), (⟨#[98, 105, 110, 100]⟩, some ⟨#[107]⟩), (⟨#[117, 110, 98, 105, 110, 100]⟩, some ⟨#[110]⟩), (⟨#[99, 97, 108, 108]⟩, some ⟨#[110]⟩), (⟨#[106, 117, 109, 112]⟩, some ⟨#[116]⟩), (⟨#[105, 102, 110, 105, 108]⟩, some ⟨#[116]⟩), (⟨#[105, 102, 115, 101, 116]⟩, some ⟨#[116]⟩), (⟨#[105, 102, 110, 105, 108, 107, 101, 101, 112]⟩, some ⟨#[116]⟩), (⟨#[105, 102, 115, 101, 116, 107, 101, 101, 112]⟩, some ⟨#[116]⟩), (⟨#[114, 101, 116, 117, 114, 110]⟩, some ⟨#[]⟩), (⟨#[99, 97, 116, 99, 104]⟩, some ⟨#[116]⟩), (⟨#[103, 117, 97, 114, 100]⟩, none), (⟨#[112, 114, 111, 116, 101, 99, 116]⟩, some ⟨#[116]⟩), (⟨#[100, 111, 110, 101]⟩, some ⟨#[]⟩), (⟨#[114, 101, 115, 117, 109, 101]⟩, some ⟨#[]⟩), (⟨#[112, 97, 105, 114]⟩, some ⟨#[107]⟩), (⟨#[103, 101, 116]⟩, some ⟨#[105]⟩), (⟨#[112, 117, 116]⟩, some ⟨#[105]⟩), (⟨#[101, 110, 118]⟩, none), (⟨#[99, 108, 111, 115, 101]⟩, some ⟨#[107]⟩), (⟨#[99, 97, 114]⟩, some ⟨#[]⟩), (⟨#[99, 100, 114]⟩, some ⟨#[]⟩)]
abbrev fxV (n : Nat) : Value := .func (.func 110) ⟨[]⟩ ⟨[.pointer (some ⟨n, 0, none⟩)]⟩
theorem fixed_c (H : AHeap) (s : ByteArray) : CallS Tryz.prog 83 [.string s] H (.ok (fxV H.next)) (ext H [⟨9, false, [.string s]⟩]) := by
  obtain ⟨b, hb⟩ : ∃ b, H.next = b := ⟨_, rfl⟩
  refine callS_fn mixed Tryz.func83 rfl Tryz.ntmps83 (Nat.le_of_ble_eq_true rfl) fun wf hsc => ?_
  have hbase : H.base ≤ b := hb ▸ wf.base
  simp (maxDischargeDepth := 6) only [hb, hbase, Tryz.results83, ruW, putL, Nat.reduceLeDiff, xF, ruU, entryE, Nat.reduceLT, Nat.reduceAdd, Nat.reduceMul, Nat.reduceEqDiff]
  exact Fin.same

def shV (b : Nat) : List Value := [.string ⟨#[99, 111, 110, 115, 116]⟩, fxV (b + 1), .string ⟨#[99, 111, 112, 121]⟩, fxV (b + 2), .string ⟨#[115, 116, 111, 114, 101]⟩, fxV (b + 3), .string ⟨#[100, 114, 111, 112]⟩, fxV (b + 4), .string ⟨#[107, 101, 101, 112]⟩, fxV (b + 5), .string ⟨#[118, 97, 114]⟩, fxV (b + 6), .string ⟨#[115, 101, 116, 118, 97, 114]⟩, fxV (b + 7), .string ⟨#[98, 105, 110, 100]⟩, fxV (b + 8), .string ⟨#[117, 110, 98, 105, 110, 100]⟩, fxV (b + 9), .string ⟨#[99, 97, 108, 108]⟩, fxV (b + 10), .string ⟨#[106, 117, 109, 112]⟩, fxV (b + 11), .string ⟨#[105, 102, 110, 105, 108]⟩, fxV (b + 12), .string ⟨#[105, 102, 115, 101, 116]⟩, fxV (b + 13), .string ⟨#[105, 102, 110, 105, 108, 107, 101, 101, 112]⟩, fxV (b + 14), .string ⟨#[105, 102, 115, 101, 116, 107, 101, 101, 112]⟩, fxV (b + 15), .string ⟨#[114, 101, 116, 117, 114, 110]⟩, fxV (b + 16), .string ⟨#[99, 97, 116, 99, 104]⟩, fxV (b + 17), .string ⟨#[103, 117, 97, 114, 100]⟩, .func (.func 84) ⟨[]⟩ ⟨[]⟩, .string ⟨#[112, 114, 111, 116, 101, 99, 116]⟩, fxV (b + 18), .string ⟨#[100, 111, 110, 101]⟩, fxV (b + 19), .string ⟨#[114, 101, 115, 117, 109, 101]⟩, fxV (b + 20), .string ⟨#[112, 97, 105, 114]⟩, fxV (b + 21), .string ⟨#[103, 101, 116]⟩, fxV (b + 22), .string ⟨#[112, 117, 116]⟩, fxV (b + 23), .string ⟨#[101, 110, 118]⟩, .func (.func 85) ⟨[]⟩ ⟨[]⟩, .string ⟨#[99, 108, 111, 115, 101]⟩, fxV (b + 24), .string ⟨#[99, 97, 114]⟩, fxV (b + 25), .string ⟨#[99, 100, 114]⟩, fxV (b + 26)]
def shB (b : Nat) : List Bl := [⟨114, false, shV b⟩, ⟨9, false, [.string ⟨#[107]⟩]⟩, ⟨9, false, [.string ⟨#[105]⟩]⟩, ⟨9, false, [.string ⟨#[105]⟩]⟩, ⟨9, false, [.string ⟨#[]⟩]⟩, ⟨9, false, [.string ⟨#[110]⟩]⟩, ⟨9, false, [.string ⟨#[107]⟩]⟩, ⟨9, false, [.string ⟨#[107]⟩]⟩, ⟨9, false, [.string ⟨#[107]⟩]⟩, ⟨9, false, [.string ⟨#[110]⟩]⟩, ⟨9, false, [.string ⟨#[110]⟩]⟩, ⟨9, false, [.string ⟨#[116]⟩]⟩, ⟨9, false, [.string ⟨#[116]⟩]⟩, ⟨9, false, [.string ⟨#[116]⟩]⟩, ⟨9, false, [.string ⟨#[116]⟩]⟩, ⟨9, false, [.string ⟨#[116]⟩]⟩, ⟨9, false, [.string ⟨#[]⟩]⟩, ⟨9, false, [.string ⟨#[116]⟩]⟩, ⟨9, false, [.string ⟨#[116]⟩]⟩, ⟨9, false, [.string ⟨#[]⟩]⟩, ⟨9, false, [.string ⟨#[]⟩]⟩, ⟨9, false, [.string ⟨#[107]⟩]⟩, ⟨9, false, [.string ⟨#[105]⟩]⟩, ⟨9, false, [.string ⟨#[105]⟩]⟩, ⟨9, false, [.string ⟨#[107]⟩]⟩, ⟨9, false, [.string ⟨#[]⟩]⟩, ⟨9, false, [.string ⟨#[]⟩]⟩]
theorem zero114 : zeroOf Tryz.prog 114 = some (.agg #[.string .empty, .nilFunc, .string .empty, .nilFunc, .string .empty, .nilFunc, .string .empty, .nilFunc, .string .empty, .nilFunc, .string .empty, .nilFunc, .string .empty, .nilFunc, .string .empty, .nilFunc, .string .empty, .nilFunc, .string .empty, .nilFunc, .string .empty, .nilFunc, .string .empty, .nilFunc, .string .empty, .nilFunc, .string .empty, .nilFunc, .string .empty, .nilFunc, .string .empty, .nilFunc, .string .empty, .nilFunc, .string .empty, .nilFunc, .string .empty, .nilFunc, .string .empty, .nilFunc, .string .empty, .nilFunc, .string .empty, .nilFunc, .string .empty, .nilFunc, .string .empty, .nilFunc, .string .empty, .nilFunc, .string .empty, .nilFunc, .string .empty, .nilFunc, .string .empty, .nilFunc]) := by kernel_rfl
set_option maxHeartbeats 8000000 in
theorem shapes_c (H : AHeap) : CallS Tryz.prog 52 [] H (.ok (.agg ⟨shV H.next⟩)) (ext H (shB H.next)) := by
  obtain ⟨b, hb⟩ : ∃ b, H.next = b := ⟨_, rfl⟩
  refine callS_fn mixed Tryz.func52 rfl Tryz.ntmps52 (Nat.le_of_ble_eq_true rfl) fun wf hsc => ?_
  have hbase : H.base ≤ b := hb ▸ wf.base
  simp (maxDischargeDepth := 6) only [hb, hbase, zero114, ruW, putL, Nat.reduceLeDiff, xF, ruU, entryE, Nat.reduceLT, Nat.reduceAdd, Nat.reduceMul, Nat.reduceEqDiff]
  iterate 26
    refine (fixed_c (ext H _) _).to ?_
    simp (maxDischargeDepth := 6) only [hb, hbase, ext_next, Tryz.results52, ruW, putL, Nat.reduceLeDiff, xF, ruU, entryE, Nat.reduceLT, Nat.reduceAdd, Nat.reduceMul, Nat.reduceEqDiff]
  exact Fin.same
end Go.Proofs.YtnigelgcjfhghaaGreatDoor

/- The executor at work: a call that it walks to 'true' answers true, and keeps all that was. -/
namespace Go.Ax

def Ren.same : Ren := ⟨fun n => n, fun _ => 0, fun _ => 0, fun _ => .nilIface, fun _ => rfl⟩

theorem rel_none (P : Program) (w : World) : Rel P Ren.same (AHeap.none P.globals.size) w :=
  ⟨Nat.le_refl _, ⟨Nat.le_refl _, fun _ _ => ⟨rfl, rfl⟩⟩, fun m _ h => absurd (none_get _ m) h, fun n o h => (by rw [none_get] at h; cases h), fun n o h => (by rw [none_get] at h; cases h)⟩

theorem wide_wide : WideF Fence.wide := ⟨fun _ => trivial, rfl, rfl⟩

theorem call_in {P : Program} (hmix : P.follows .mixedOrders = true) {K : FuncId → List Value → AHeap → Option Value} (hK : Known P K) {fuel : Nat} {f : FuncId} {args : List Value} {v : Value} {H H1 : AHeap} {ρ : Ren} {w : World} (r : Rel P ρ H w)
    (h : call P K fuel f args H = some (.ok v, H1)) (hsc : scbL H.next args = true) {F : Fence} {n : Nat} (hF : WideF F) : CallsIn F n P f (args.map ρ.val).toArray w (fun e w' => ∃ ρ1, e = .returned (ρ1.val v) ∧ St P ρ H w ρ1 H1 w') :=
  enterF_run (exec_sound hmix hK fuel).1 r h hsc hF (fun ρ1 w1 s _ => ⟨ρ1, rfl, s⟩)

theorem sameV_eq {u v : Value} (h : sameV u v = true) : u = v ∧ af v = true := by
  unfold sameV at h
  split at h
  · simp only [Bool.and_eq_true, decide_eq_true_eq] at h
    obtain ⟨rfl, rfl⟩ := h
    exact ⟨rfl, rfl⟩
  · simp only [beq_iff_eq] at h
    subst h
    exact ⟨rfl, rfl⟩
  · cases h

theorem sameL_eq : ∀ {u v : List Value}, sameL u v = true → u = v ∧ ∀ x ∈ v, af x = true
  | [], [], _ => ⟨rfl, fun _ h => by cases h⟩
  | a :: r, b :: q, h => by
    simp only [sameL, Bool.and_eq_true] at h
    obtain ⟨h1, h2⟩ := sameV_eq h.1
    obtain ⟨h3, h4⟩ := sameL_eq h.2
    refine ⟨by rw [h1, h3], fun x hx => ?_⟩
    rcases List.mem_cons.1 hx with rfl | hx
    · exact h2
    · exact h4 x hx
  | [], _ :: _, h => by cases h
  | _ :: _, [], h => by cases h

theorem afL_of : ∀ {l : List Value}, (∀ x ∈ l, af x = true) → afL l = true
  | [], _ => rfl
  | x :: l, h => by rw [afL, h x (List.mem_cons_self ..), afL_of fun y hy => h y (List.mem_cons_of_mem _ hy)]; rfl

theorem sameW_eq {u v : Value} (h : sameW u v = true) : u = v ∧ af v = true := by
  unfold sameW at h
  split at h
  · rename_i a b
    obtain ⟨h1, h2⟩ := sameL_eq h
    obtain ⟨a⟩ := a
    obtain ⟨b⟩ := b
    simp only at h1 h2
    subst h1
    exact ⟨rfl, by rw [af, afA]; exact afL_of h2⟩
  · rename_i a b
    obtain ⟨h1, h2⟩ := sameL_eq h
    obtain ⟨a⟩ := a
    obtain ⟨b⟩ := b
    simp only at h1 h2
    subst h1
    exact ⟨rfl, by rw [af, afA]; exact afL_of h2⟩
  · exact sameV_eq h

theorem sameM_eq : ∀ {u v : List Value}, sameM u v = true → u = v ∧ ∀ x ∈ v, af x = true
  | [], [], _ => ⟨rfl, fun _ h => by cases h⟩
  | a :: r, b :: q, h => by
    simp only [sameM, Bool.and_eq_true] at h
    obtain ⟨h1, h2⟩ := sameW_eq h.1
    obtain ⟨h3, h4⟩ := sameM_eq h.2
    refine ⟨by rw [h1, h3], fun x hx => ?_⟩
    rcases List.mem_cons.1 hx with rfl | hx
    · exact h2
    · exact h4 x hx
  | [], _ :: _, h => by cases h
  | _ :: _, [], h => by cases h

theorem ans_in {P : Program} (hmix : P.follows .mixedOrders = true) {K : FuncId → List Value → AHeap → Option Value} (hK : Known P K) {fuel : Nat} {f : FuncId} {args : List Value} {v : Value} (ha : args.all af = true) (h : ansB P K fuel f args v = true) (F : Fence) (n : Nat) (w : World) (hF : WideF F) :
    CallsIn F n P f args.toArray w (fun e w' => e = .returned v ∧ RowKit.Below w.heap.size w w') := by
  unfold ansB at h
  split at h
  · rename_i u H1 hc
    obtain ⟨rfl, hv⟩ := sameW_eq h
    have := call_in hmix hK (rel_none P w) hc (scbL_of_af _ (afL_of fun x hx => List.all_eq_true.1 ha x hx)) (F := F) (n := n) hF
    rw [map_af _ args (fun x hx => List.all_eq_true.1 ha x hx)] at this
    refine this.mono ?_
    rintro e w' ⟨ρ1, rfl, s⟩
    exact ⟨by rw [val_af ρ1 _ hv], s.os, s.tape, s.output, s.size, fun b hb => s.old b hb fun n _ _ hg => absurd (none_get _ n) hg⟩
  · cases h

theorem known_nil (P : Program) : Known P (lookK []) := fun f args v H h => by cases h

theorem known_cons {P : Program} (hmix : P.follows .mixedOrders = true) {L : List (FuncId × List Value × Value)} (hK : Known P (lookK L)) (fuel : Nat) {f : FuncId} {args : List Value} {v : Value} (ha : args.all af = true) (h : ansB P (lookK L) fuel f args v = true) :
    Known P (lookK ((f, args, v) :: L)) := by
  intro g bs u H hu
  unfold lookK at hu
  split at hu
  · rename_i hc
    simp only [Bool.and_eq_true] at hc
    have h1 : f = g := Nat.eq_of_beq_eq_true hc.1
    obtain ⟨h2, _⟩ := sameM_eq hc.2
    subst h1 h2
    simp only [Option.some.injEq] at hu
    subst hu
    have hv : af v = true := by
      unfold ansB at h
      split at h
      · exact (sameW_eq h).2
      · cases h
    exact ⟨hv, fun ρ F n w _ _ hF => by
      rw [map_af ρ _ (fun x hx => List.all_eq_true.1 ha x hx)]
      exact ans_in hmix hK ha h F n w hF⟩
  · exact hK g bs u H hu

theorem true_calls {P : Program} (hmix : P.follows .mixedOrders = true) {K : FuncId → List Value → AHeap → Option Value} (hK : Known P K) {fuel : Nat} {f : FuncId} (h : ansB P K fuel f [] (.bool true) = true) (w : World) :
    Calls P f #[] w (fun e w' => e = .returned (.bool true) ∧ RowKit.Below w.heap.size w w') :=
  (callsIn_wide (n := 0)).1 (ans_in hmix hK rfl h Fence.wide 0 w wide_wide)

end Go.Ax
