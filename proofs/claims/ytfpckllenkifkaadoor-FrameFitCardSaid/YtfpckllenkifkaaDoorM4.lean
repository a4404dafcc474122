/- Parts of the proof, one behind the other. -/
import Derived.Test.YtfpckllenkifkaaDoorM3
import Derived.Laws.StructEq
import Derived.Test.YtfpckllenkifkaaDoorProg
import Derived.KernelRfl
import Derived.Below
import Derived.WideShapes
import Derived.ChangeSlices
import Derived.ChangeAnyMap
import GoSem.ClaimJoined
import Derived.Shelf.Bits.Mul64
set_option linter.all false

/- Walks over abstract heaps: rules for rewriting on heaps with new blocks. -/
namespace Go.Ax
section
variable {P : Program} {ro : Option Nat} {H : AHeap} {L : List Bl} {N : Nat} {E : Env} {ds : List Deferred}

def leaveO (R : Out → AHeap → Prop) (H : AHeap) : Option (List Value) → Prop
  | some vs => R (.ok (tup vs)) H
  | none => False
theorem leaveO_some {R : Out → AHeap → Prop} {vs : List Value} : leaveO R H (some vs) = R (.ok (tup vs)) H := by simp only [leaveO]
theorem lv_nil {fn : Func} {a : AAct} {R : Out → AHeap → Prop} : leaveA P fn a [] .returning H R = leaveO R H (resVal P H a fn.results.toList) := by
  simp only [leaveA]
  cases resVal P H a fn.results.toList with
  | none => simp [leaveO]
  | some vs => simp [leaveO]
theorem rs_nil : resVal P H (mkA N E ds) [] = some [] := by simp only [resVal]
theorem rs_tmp {t : Nat} {rs : List ResultVar} (ht : t < N) : resVal P H (mkA N E ds) (.tmp t :: rs) = (resVal P H (mkA N E ds) rs).map (E t :: ·) := by
  simp only [resVal, Option.bind_eq_bind, tmp_mk N E ds t ht]
  cases resVal P H (mkA N E ds) rs <;> rfl
theorem rs_cell {t : Nat} {u : TypeId} {rs : List ResultVar} (ht : t < N) : resVal P H (mkA N E ds) (.cell t u :: rs) = (aLoad P H u (E t)).bind fun v => (resVal P H (mkA N E ds) rs).map (v :: ·) := by
  simp only [resVal, Option.bind_eq_bind, tmp_mk N E ds t ht]
  cases aLoad P H u (E t) with
  | none => rfl
  | some v => cases resVal P H (mkA N E ds) rs <;> rfl
theorem tup_nil : tup [] = .tuple ⟨[]⟩ := by simp only [tup]
theorem tup_one {v : Value} : tup [v] = v := by simp only [tup]
theorem tup_two {v u : Value} {r : List Value} : tup (v :: u :: r) = .tuple ⟨v :: u :: r⟩ := by simp only [tup]

theorem cells_int {k : IntKind} {n : Int} : (Value.int k n).cells.toList = [.int k n] := by simp only [Value.cells]
theorem cells_bool {b : Bool} : (Value.bool b).cells.toList = [.bool b] := by simp only [Value.cells]
theorem cells_ptr {a : Option Addr} : (Value.pointer a).cells.toList = [.pointer a] := by simp only [Value.cells]
theorem cells_slice {a : Option Addr} {n c : Nat} : (Value.slice a n c).cells.toList = [.slice a n c] := by simp only [Value.cells]
theorem cells_iface {t : TypeId} {v : Value} : (Value.iface t v).cells.toList = [.iface t v] := by simp only [Value.cells]
theorem cells_niliface : (Value.nilIface).cells.toList = [.nilIface] := by simp only [Value.cells]
theorem cells_string {s : ByteArray} : (Value.string s).cells.toList = [.string s] := by simp only [Value.cells]
theorem cells_func {f : Fn} {a b : Array Value} : (Value.func f a b).cells.toList = [.func f a b] := by simp only [Value.cells]
theorem cells_nilfunc : (Value.nilFunc).cells.toList = [.nilFunc] := by simp only [Value.cells]
theorem cells_agg {l : List Value} : (Value.agg ⟨l⟩).cells.toList = l := by simp only [Value.cells]
theorem cells_sg {v : Value} (h : one v = true) : v.cells.toList = [v] := by cases v <;> first | rfl | cases h
theorem allOne_nil : ([] : List Value).all one = true := by simp only [List.all_nil]
theorem allOne_cons {v : Value} {l : List Value} : (v :: l).all one = (one v && l.all one) := by simp only [List.all_cons]
theorem one_int {k : IntKind} {n : Int} : one (.int k n) = true := by simp only [one]
theorem one_bool {b : Bool} : one (.bool b) = true := by simp only [one]
theorem one_ptr {a : Option Addr} : one (.pointer a) = true := by simp only [one]
theorem one_slice {a : Option Addr} {n c : Nat} : one (.slice a n c) = true := by simp only [one]
theorem one_iface {t : TypeId} {v : Value} : one (.iface t v) = true := by simp only [one]
theorem one_niliface : one .nilIface = true := by simp only [one]
theorem one_string {s : ByteArray} : one (.string s) = true := by simp only [one]
theorem one_func {f : Fn} {a b : Array Value} : one (.func f a b) = true := by simp only [one]
theorem one_nilfunc : one .nilFunc = true := by simp only [one]
theorem sc_nil {M : Nat} : scbL M [] = true := by simp only [scbL]
theorem sc_cons {M : Nat} {v : Value} {l : List Value} : scbL M (v :: l) = (scb M v && scbL M l) := by simp only [scbL]
theorem sc_int {M : Nat} {k : IntKind} {n : Int} : scb M (.int k n) = true := by simp only [scb]
theorem sc_bool {M : Nat} {b : Bool} : scb M (.bool b) = true := by simp only [scb]
theorem sc_string {M : Nat} {s : ByteArray} : scb M (.string s) = true := by simp only [scb]
theorem sc_nilptr {M : Nat} : scb M (.pointer none) = true := by simp only [scb]
theorem sc_nilslice {M n c : Nat} : scb M (.slice none n c) = true := by simp only [scb]
theorem sc_niliface {M : Nat} : scb M .nilIface = true := by simp only [scb]
theorem sc_nilfunc {M : Nat} : scb M .nilFunc = true := by simp only [scb]
theorem sc_iface {M : Nat} {t : TypeId} {v : Value} : scb M (.iface t v) = scb M v := by simp only [scb]
theorem sc_agg {M : Nat} {l : List Value} : scb M (.agg ⟨l⟩) = scbL M l := by simp only [scb, scbA]
theorem sc_tuple {M : Nat} {l : List Value} : scb M (.tuple ⟨l⟩) = scbL M l := by simp only [scb, scbA]
theorem sc_func {M : Nat} {f : FuncId} {a b : List Value} : scb M (.func (.func f) ⟨a⟩ ⟨b⟩) = (scbL M a && scbL M b) := by simp only [scb, scbA]
theorem sc_yield {M n : Nat} (h : n < M) : scb M (.func (.yield n) ⟨[]⟩ ⟨[]⟩) = true := by simp only [scb, scbA, scbL, blt_of h, Bool.and_self]
theorem sc_ptr {M n off : Nat} {s : Option Nat} (h : n < M) : scb M (.pointer (some ⟨n, off, s⟩)) = true := by simp only [scb, blt_of h]
theorem sc_slice {M n off l c : Nat} {s : Option Nat} (h : n < M) : scb M (.slice (some ⟨n, off, s⟩) l c) = true := by simp only [scb, blt_of h]
theorem sc_add {b k : Nat} {v : Value} (h : scb b v = true) : scb (b + k) v = true := scb_mono (Nat.le_add_right _ _) v h
theorem sc_addL {b k : Nat} {l : List Value} (h : scbL b l = true) : scbL (b + k) l = true := scbL_mono (Nat.le_add_right _ _) l h

theorem lt_new {b i k : Nat} : (b + i < b + k) = (i < k) := by simp
theorem lt_old {n b k : Nat} (h : n < b) : (n < b + k) = True := by simp; omega
theorem ne_new {b i k : Nat} : (b + i = b + k) = (i = k) := by simp
theorem ne_old {n b k : Nat} (h : n < b) : (n = b + k) = False := by simp; omega
theorem ne_old' {n b k : Nat} (h : n < b) : (b + k = n) = False := by simp; omega
theorem add_add {b i k : Nat} : b + i + k = b + (i + k) := Nat.add_assoc b i k

theorem bk_at {b i : Nat} (h : H.next = b) (hi : i < L.length) : bk (ext H L) (b + i) = L[i]? := by rw [bk_new h, if_pos hi]
theorem ld_aggOk {t e : TypeId} {o : Bool} {l : List Value} {off sz : Nat} (h : aggT P t = some true) (hs : szOf P t = some sz) : ldB P t off (some ⟨e, o, l⟩) = if off + sz ≤ l.length then some (.agg ⟨(l.drop off).take sz⟩) else none := by
  simp only [ldB, h, hs, Option.bind_some]
theorem new_nw {e : TypeId} {l : List Value} {o : Bool} : nw (ext H L) e l o = ext H (L ++ [⟨e, o, l⟩]) := ext_snoc e l o

theorem meets_cons {anc : Nat} {F W O : List Nat} {r0 : Fp} {fps : List Fp} : (∀ r ∈ r0 :: fps, Meets anc F W O r) = (Meets anc F W O r0 ∧ ∀ r ∈ fps, Meets anc F W O r) := by simp
theorem meets_eq {anc j n : Nat} {F W O F' W' : List Nat} : Meets anc F W O ⟨j, F', W', n, n⟩ = (anc.testBit j = true ∨ ((∀ n ∈ W', n ∉ F) ∧ (∀ n ∈ F', n ∉ W))) := by simp [Meets]
theorem meets_newer {anc j lo hi : Nat} {F W O F' W' : List Nat} : Meets anc F W O ⟨j, F', W', lo, hi⟩ = (anc.testBit j = true ∨ ((∀ n ∈ W', n ∉ F) ∧ (∀ n ∈ F', n ∉ W) ∧ (lo < hi → (∀ n ∈ F, n < lo ∨ hi ≤ n) ∧ (∀ n ∈ O, n < lo ∨ hi ≤ n)))) := by simp only [Meets]
theorem ids_new {b i : Nat} (h : H.next = b) (hi : i < L.length) : idsAt (ext H L) (b + i) = (match L[i]? with
    | some x => idsL x.l
    | none => []) := by
  subst h
  simp only [idsAt, ext_get_new hi, List.getElem?_eq_getElem hi, Option.map_some, Bl.obj, idsO, RV.n_ofList, RV.gets_ofList]

theorem w_drawB {Q : Exit → AAct → AHeap → Prop} {id : Nat} {l : List Oper} {a : AAct} (bits gs : List (Nat × Nat)) (hst : staticOk ⟨l⟩ = true) (hb : (bits.all fun p => ((ancs ⟨l⟩).getD p.1 0).testBit p.2) = true) (hg : (gs.all fun p => dstOf ⟨l⟩ p.1 == some p.2) = true)
    (h : ∀ ops anc, (∀ p ∈ bits, (anc.getD p.1 0).testBit p.2 = true) → (∀ p ∈ gs, dstOf ops p.1 = some p.2) → wkD P ops anc l 0 [] a H (Q .normal)) : wpA P ro (.region id ⟨l⟩ true) Q a H :=
  w_draw hst (h _ _ (fun p hp => by simpa using List.all_eq_true.1 hb p hp) (fun p hp => by simpa using List.all_eq_true.1 hg p hp))

theorem all2_nil {α : Type} {p : α → Prop} : (∀ x ∈ ([] : List α), p x) = True := by simp
theorem all2_cons {α : Type} {p : α → Prop} {y : α} {l : List α} : (∀ x ∈ y :: l, p x) = (p y ∧ ∀ x ∈ l, p x) := by simp

theorem nmem_nil {n : Nat} : (n ∉ ([] : List Nat)) = True := by simp
theorem nmem_one {n m : Nat} : (n ∉ [m]) = ¬ n = m := by simp
theorem nmem_cons {n m k : Nat} {l : List Nat} : (n ∉ m :: k :: l) = (¬ n = m ∧ n ∉ k :: l) := by simp

theorem reg_quo {t : TypeId} {k : IntKind} {x y : Int} (h : y ≠ 0) : regBin P .quo t (.int k x) (.int k y) = some (.int k (k.wrap (x.tdiv y))) := by simp [regBin, intBin, h]
theorem reg_rem {t : TypeId} {k : IntKind} {x y : Int} (h : y ≠ 0) : regBin P .rem t (.int k x) (.int k y) = some (.int k (x.tmod y)) := by simp [regBin, intBin, h]
theorem w_buildSlice {ops : Array Oper} {rest : List Oper} {dst : Option Nat} {ty : TypeId} {pos : String} {after : Array Edge} {Q : Exit → AAct → AHeap → Prop} {t : TypeId} {n : Nat} {l : List (Nat × Operand)} : wpOps P ro ops (⟨dst, .buildSlice t n ⟨l⟩, ty, pos, after, none⟩ :: rest) (mkA N E ds) H Q = heapC P ro ops rest N E ds dst Q ((pairs P (mkA N E ds) l).bind (aBuildSlice P H t n)) :=
  w_rvh rfl (by
    simp only [aop, xBuildSlice, Option.bind_eq_bind]
    cases pairs P (mkA N E ds) l <;> rfl)
theorem w_makeSlice {ops : Array Oper} {rest : List Oper} {dst : Option Nat} {ty : TypeId} {pos : String} {after : Array Edge} {Q : Exit → AAct → AHeap → Prop} {t : TypeId} {x y : Operand} (hx : opOk P N x = true) (hy : opOk P N y = true) : wpOps P ro ops (⟨dst, .makeSlice t x y, ty, pos, after, none⟩ :: rest) (mkA N E ds) H Q = heapC P ro ops rest N E ds dst Q (aMakeSlice P H t (opv E x) (opv E y)) :=
  w_rvh rfl (by simp only [aop, xMakeSlice, aeval_opv hx, aeval_opv hy, Option.bind_eq_bind, Option.bind_some])
def bnds (E : Env) : Option Operand → Option Value
  | none => none
  | some x => some (opv E x)
def bndsOk (P : Program) (N : Nat) : Option Operand → Bool
  | none => true
  | some x => opOk P N x
theorem bnds_none : bnds E none = none := by simp only [bnds]
theorem bnds_some {x : Operand} : bnds E (some x) = some (opv E x) := by simp only [bnds]
theorem bndsOk_none : bndsOk P N none = true := by simp only [bndsOk]
theorem bndsOk_some {x : Operand} : bndsOk P N (some x) = opOk P N x := by simp only [bndsOk]
theorem optEval_b {x : Option Operand} (h : bndsOk P N x = true) : optEval P (mkA N E ds) x = some (bnds E x) := by
  cases x with
  | none => rfl
  | some x => simp only [bndsOk] at h; simp only [optEval, aeval_opv h, bnds, Option.map_some]
theorem w_slice {ops : Array Oper} {rest : List Oper} {dst : Option Nat} {ty : TypeId} {pos : String} {after : Array Edge} {Q : Exit → AAct → AHeap → Prop} {t : TypeId} {x : Operand} {lo hi mx : Option Operand} (hx : opOk P N x = true) (h1 : bndsOk P N lo = true) (h2 : bndsOk P N hi = true) (h3 : bndsOk P N mx = true) : wpOps P ro ops (⟨dst, .slice t x lo hi mx, ty, pos, after, none⟩ :: rest) (mkA N E ds) H Q = heapC P ro ops rest N E ds dst Q (aSlice P H t (opv E x) (bnds E lo) (bnds E hi) (bnds E mx)) :=
  w_rvh rfl (by simp only [aop, xSlice, aeval_opv hx, optEval_b h1, optEval_b h2, optEval_b h3, Option.bind_eq_bind, Option.bind_some])
theorem dst_list {l : List Oper} {j : Nat} : dstOf ⟨l⟩ j = (l[j]?).bind (·.dst) := by simp [dstOf]
theorem guardC_true {ops : Array Oper} {o : Oper} {rest : List Oper} {Q : Exit → AAct → AHeap → Prop} {want : Bool} : guardC P ro ops o rest N E ds H Q want (.bool want) = wpOps P ro ops (o :: rest) (mkA N E ds) H Q := by simp only [guardC, if_true]
theorem guardC_ff {ops : Array Oper} {o : Oper} {rest : List Oper} {Q : Exit → AAct → AHeap → Prop} : guardC P ro ops o rest N E ds H Q true (.bool false) = wpOps P ro ops rest ((mkA N E ds).put o.dst undef) H Q := by simp only [guardC, Bool.false_eq_true, if_false]
theorem guardC_tt {ops : Array Oper} {o : Oper} {rest : List Oper} {Q : Exit → AAct → AHeap → Prop} : guardC P ro ops o rest N E ds H Q false (.bool true) = wpOps P ro ops rest ((mkA N E ds).put o.dst undef) H Q := by simp only [guardC, Bool.true_eq_false, if_false]
theorem guardV_true {ops : Array Oper} {anc : List Nat} {o : Oper} {rest : List Oper} {i : Nat} {fps : List Fp} {Q : AAct → AHeap → Prop} {want : Bool} : guardV P ops anc o rest i fps N E ds H Q want (.bool want) = wkD P ops anc (o :: rest) i fps (mkA N E ds) H Q := by simp only [guardV, if_true]
theorem guardV_ff {ops : Array Oper} {anc : List Nat} {o : Oper} {rest : List Oper} {i : Nat} {fps : List Fp} {Q : AAct → AHeap → Prop} : guardV P ops anc o rest i fps N E ds H Q true (.bool false) = wkD P ops anc rest (i + 1) fps ((mkA N E ds).put o.dst undef) H Q := by simp only [guardV, Bool.false_eq_true, if_false]
theorem guardV_tt {ops : Array Oper} {anc : List Nat} {o : Oper} {rest : List Oper} {i : Nat} {fps : List Fp} {Q : AAct → AHeap → Prop} : guardV P ops anc o rest i fps N E ds H Q false (.bool true) = wkD P ops anc rest (i + 1) fps ((mkA N E ds).put o.dst undef) H Q := by simp only [guardV, Bool.true_eq_false, if_false]
def origC (P : Program) (ro : Option Nat) (ops : Array Oper) (o : Oper) (rest : List Oper) (a : AAct) (H : AHeap) (Q : Exit → AAct → AHeap → Prop) : Prop := wpOps P ro ops (o :: rest) a H Q
def gdC (P : Program) (ro : Option Nat) (ops : Array Oper) (o : Oper) (j : Nat) (want : Bool) (rest : List Oper) (N : Nat) (E : Env) (ds : List Deferred) (H : AHeap) (Q : Exit → AAct → AHeap → Prop) : Option Nat → Prop
  | some d => if d < N then guardC P ro ops o rest N E ds H Q want (E d) else origC P ro ops { o with guard := some (j, want) } rest (mkA N E ds) H Q
  | none => origC P ro ops { o with guard := some (j, want) } rest (mkA N E ds) H Q
theorem gdC_some {ops : Array Oper} {o : Oper} {j d : Nat} {want : Bool} {rest : List Oper} {Q : Exit → AAct → AHeap → Prop} (h : d < N) : gdC P ro ops o j want rest N E ds H Q (some d) = guardC P ro ops o rest N E ds H Q want (E d) := by simp only [gdC, h, if_true]
theorem w_gd {ops : Array Oper} {dst : Option Tmp} {op : Op} {ty : TypeId} {pos : String} {after : Array Edge} {j : Nat} {want : Bool} {rest : List Oper} {Q : Exit → AAct → AHeap → Prop} :
    wpOps P ro ops (⟨dst, op, ty, pos, after, some (j, want)⟩ :: rest) (mkA N E ds) H Q = gdC P ro ops ⟨dst, op, ty, pos, after, none⟩ j want rest N E ds H Q (dstOf ops j) := by
  cases hj : dstOf ops j with
  | none => simp only [gdC, origC]
  | some d =>
    simp only [gdC]
    split
    · rename_i hd
      exact w_guard hj hd
    · simp only [origC]
def origV (P : Program) (ops : Array Oper) (anc : List Nat) (o : Oper) (rest : List Oper) (i : Nat) (fps : List Fp) (a : AAct) (H : AHeap) (Q : AAct → AHeap → Prop) : Prop := wkD P ops anc (o :: rest) i fps a H Q
def gdV (P : Program) (ops : Array Oper) (anc : List Nat) (o : Oper) (j : Nat) (want : Bool) (rest : List Oper) (i : Nat) (fps : List Fp) (N : Nat) (E : Env) (ds : List Deferred) (H : AHeap) (Q : AAct → AHeap → Prop) : Option Nat → Prop
  | some d => if d < N then guardV P ops anc o rest i fps N E ds H Q want (E d) else origV P ops anc { o with guard := some (j, want) } rest i fps (mkA N E ds) H Q
  | none => origV P ops anc { o with guard := some (j, want) } rest i fps (mkA N E ds) H Q
theorem gdV_some {ops : Array Oper} {anc : List Nat} {o : Oper} {j d : Nat} {want : Bool} {rest : List Oper} {i : Nat} {fps : List Fp} {Q : AAct → AHeap → Prop} (h : d < N) : gdV P ops anc o j want rest i fps N E ds H Q (some d) = guardV P ops anc o rest i fps N E ds H Q want (E d) := by simp only [gdV, h, if_true]
theorem wd_gd {ops : Array Oper} {anc : List Nat} {dst : Option Tmp} {op : Op} {ty : TypeId} {pos : String} {after : Array Edge} {j : Nat} {want : Bool} {rest : List Oper} {i : Nat} {fps : List Fp} {Q : AAct → AHeap → Prop} :
    wkD P ops anc (⟨dst, op, ty, pos, after, some (j, want)⟩ :: rest) i fps (mkA N E ds) H Q = gdV P ops anc ⟨dst, op, ty, pos, after, none⟩ j want rest i fps N E ds H Q (dstOf ops j) := by
  cases hj : dstOf ops j with
  | none => simp only [gdV, origV]
  | some d =>
    simp only [gdV]
    split
    · rename_i hd
      exact wd_guard hj hd
    · simp only [origV]
theorem put_at {d : Nat} {v : Value} (h : d < N) : (mkA N E ds).put (some d) v = mkA N (upd E d v) ds := put_some N E ds d v h
theorem guardC_split {ops : Array Oper} {o : Oper} {rest : List Oper} {Q : Exit → AAct → AHeap → Prop} {want b : Bool} (h1 : b = want → wpOps P ro ops (o :: rest) (mkA N E ds) H Q) (h2 : b = !want → wpOps P ro ops rest ((mkA N E ds).put o.dst undef) H Q) : guardC P ro ops o rest N E ds H Q want (.bool b) := by
  simp only [guardC]
  split
  · exact h1 (by assumption)
  · exact h2 (by cases b <;> cases want <;> simp_all)
theorem guardV_split {ops : Array Oper} {anc : List Nat} {o : Oper} {rest : List Oper} {i : Nat} {fps : List Fp} {Q : AAct → AHeap → Prop} {want b : Bool} (h1 : b = want → wkD P ops anc (o :: rest) i fps (mkA N E ds) H Q) (h2 : b = !want → wkD P ops anc rest (i + 1) fps ((mkA N E ds).put o.dst undef) H Q) : guardV P ops anc o rest i fps N E ds H Q want (.bool b) := by
  simp only [guardV]
  split
  · exact h1 (by assumption)
  · exact h2 (by cases b <;> cases want <;> simp_all)

def loopC (N : Nat) (ds : List Deferred) (K : Env → AHeap → Prop) (Q : Exit → AAct → AHeap → Prop) : Exit → AAct → AHeap → Prop := seqQ (fun a1 H1 => ∃ E', a1 = mkA N E' ds ∧ K E' H1) Q
theorem loopC_normal {K : Env → AHeap → Prop} {Q : Exit → AAct → AHeap → Prop} : loopC N ds K Q .normal (mkA N E ds) H = ∃ E', mkA N E ds = mkA N E' ds ∧ K E' H := by simp only [loopC, seqQ]
theorem loopC_exit {K : Env → AHeap → Prop} {Q : Exit → AAct → AHeap → Prop} {id : Nat} {a : AAct} : loopC N ds K Q (.exit id) a H = Q (.exit id) a H := by simp only [loopC, seqQ]
theorem loopC_ret {K : Env → AHeap → Prop} {Q : Exit → AAct → AHeap → Prop} {a : AAct} : loopC N ds K Q .ret a H = Q .ret a H := by simp only [loopC, seqQ]
theorem loopC_panic {K : Env → AHeap → Prop} {Q : Exit → AAct → AHeap → Prop} {ch : List PanicEntry} {a : AAct} : loopC N ds K Q (.panic ch) a H = Q (.panic ch) a H := by simp only [loopC, seqQ]

theorem w_loop {σ : Type} (I : σ → Env → AHeap → Prop) (m : σ → Nat) (s0 : σ) {b : Code} {Q : Exit → AAct → AHeap → Prop} (h0 : I s0 E H)
    (h : ∀ s E H, I s E H → wpA P ro b (loopC N ds (fun E' H' => ∃ s', m s' < m s ∧ I s' E' H') Q) (mkA N E ds) H) : wpA P ro (.loop b) Q (mkA N E ds) H := by
  refine wpA_loop (I := fun k a H => ∃ s E, a = mkA N E ds ∧ m s = k ∧ I s E H) (k := m s0) ⟨s0, E, rfl, rfl, h0⟩ ?_
  rintro k a H ⟨s, E, rfl, rfl, hI⟩
  refine wpA_mono b _ H (fun e a1 H1 h1 => ?_) (h s E H hI)
  cases e with
  | normal =>
    obtain ⟨E', rfl, s', hlt, hI'⟩ := h1
    exact ⟨m s', hlt, s', E', rfl, rfl, hI'⟩
  | _ => exact h1

theorem w_callV {f : FuncId} {x : Operand} {args : List Operand} {ts : Array TypeId} {dst : Option Nat} {ops : Array Oper} {rest : List Oper} {ty : TypeId} {pos : String} {after : Array Edge} {Q : Exit → AAct → AHeap → Prop} {ca : List Value} (hx : opOk P N x = true) (hv : opv E x = .func (.func f) ⟨[]⟩ ⟨ca⟩) (ha : args.all (opOk P N) = true) (hb : hasBody P f = true)
    (h : CallA P f (args.map (opv E) ++ ca) H (opC P ro ops rest (mkA N E ds) dst Q)) :
    wpOps P ro ops (⟨dst, .call ⟨.value x, ⟨args⟩, ts⟩, ty, pos, after, none⟩ :: rest) (mkA N E ds) H Q := by
  rw [w_op rfl rfl]
  simp only [opA, aop, xCall, aevals_opv ha, aeval_opv hx, hv, Option.bind_eq_bind, Option.bind_some, callV, aInvoke, enterN, hb, if_true, List.nil_append, Option.map_some, nextA]
  exact h

theorem genV_quietV {ops : Array Oper} {anc : List Nat} {d : Nat} {ty : TypeId} {pos : String} {after : Array Edge} {rest : List Oper} {i : Nat} {fps : List Fp} {Q : AAct → AHeap → Prop} {f : FuncId} {x : Operand} {args : List Operand} {ts : Array TypeId} {v : Value} {ca : List Value} (F : List Nat) (hx : opOk P N x = true) (hv : opv E x = .func (.func f) ⟨[]⟩ ⟨ca⟩) (ha : args.all (opOk P N) = true) (hb : hasBody P f = true) (hd : d < N) (hF : ∀ n ∈ F, H.get n ≠ none)
    (hc : ∀ G : AHeap, G.next = H.next → (∀ n ∈ F, G.get n = H.get n) → CallS P f (args.map (opv E) ++ ca) G (.ok v) G) (hm : ∀ r ∈ fps, Meets (anc.getD i 0) F [] (idsV v) r)
    (h : wkD P ops anc rest (i + 1) (⟨i, F, [], H.next, H.next⟩ :: fps) (mkA N (upd E d v) ds) H Q) : genV P ops anc ⟨some d, .call ⟨.value x, ⟨args⟩, ts⟩, ty, pos, after, none⟩ rest i fps (mkA N E ds) H Q := by
  have hn := restrict_next H F
  refine ⟨F, v, H.restrict F, ?_, hF, (by rw [hn.2.2]; simp), fun r hr => fpOk_of ?_, ?_⟩
  · refine opS_of (x := .enter f (args.map (opv E) ++ ca)) (g := H.restrict F) ?_ (hc _ hn.1 (fun n hn' => by rw [restrict_get, if_pos hn']))
    simp only [aop, xCall, aevals_opv ha, aeval_opv hx, hv, Option.bind_eq_bind, Option.bind_some, callV, aInvoke, enterN, hb, if_true, List.nil_append, Option.map_some]
  · simp only [outIds, hn.2.2, hn.1, Nat.sub_self, rangeFrom, List.append_nil, List.flatMap_nil]
    exact hm r hr
  · rw [merge_self, hn.2.2, hn.1]
    simp only [put_some N E ds d v hd]
    exact h

theorem genV_ext {ops : Array Oper} {anc : List Nat} {d : Nat} {ty : TypeId} {pos : String} {after : Array Edge} {rest : List Oper} {i : Nat} {fps : List Fp} {Q : AAct → AHeap → Prop} {f : FuncId} {args : List Operand} {ts : Array TypeId} {v : Value} {M : List Bl} (F : List Nat) (ha : args.all (opOk P N) = true) (hb : hasBody P f = true) (hd : d < N) (hF : ∀ n ∈ F, H.get n ≠ none)
    (hc : ∀ G : AHeap, G.next = H.next → (∀ n ∈ F, G.get n = H.get n) → CallS P f (args.map (opv E)) G (.ok v) (ext G M)) (hm : ∀ r ∈ fps, Meets (anc.getD i 0) F [] (idsV v ++ M.flatMap fun x => idsL x.l) r)
    (h : wkD P ops anc rest (i + 1) (⟨i, F, [], H.next, H.next + M.length⟩ :: fps) (mkA N (upd E d v) ds) (ext H M) Q) : genV P ops anc ⟨some d, .call ⟨.value (.func f), ⟨args⟩, ts⟩, ty, pos, after, none⟩ rest i fps (mkA N E ds) H Q := by
  have hn := restrict_next H F
  have hd' : (ext (H.restrict F) M).dirty = [] := by rw [ext_dirty, hn.2.2]
  have hnx : (ext (H.restrict F) M).next = H.next + M.length := by rw [ext_next, hn.1]
  have hget : ∀ j, j < M.length → (ext (H.restrict F) M).get (H.next + j) = M[j]?.map Bl.obj := by
    intro j hj
    rw [← hn.1]
    exact ext_get_new hj
  have hmn : ∀ (M : List Bl) (K g : AHeap) (m : Nat), K.next = m → (∀ j, j < M.length → g.get (m + j) = M[j]?.map Bl.obj) → ∀ h', h' = AHeap.mergeN K g m M.length → (⟨h'.root, m + M.length, h'.base, h'.dirty⟩ : AHeap) = ext K M := by
    intro M
    induction M with
    | nil => intro K g m hK _ h' hh; subst hK; subst hh; rfl
    | cons x M ih =>
      intro K g m hK hg h' hh
      have h0 := hg 0 (by simp)
      simp only [Nat.add_zero, List.getElem?_cons_zero, Option.map_some] at h0
      rw [List.length_cons] at hh
      simp only [AHeap.mergeN, h0] at hh
      have := ih (nw K x.e x.l x.o) g (m + 1) (by rw [nw_next, hK]) (fun j hj => by
        have := hg (j + 1) (by simpa using hj)
        simp only [List.getElem?_cons_succ] at this
        rw [show m + 1 + j = m + (j + 1) by omega]
        exact this) (AHeap.mergeN (nw K x.e x.l x.o) g (m + 1) M.length) rfl
      have key : ∀ (A B : AHeap) (n k : Nat), A.root = B.root → A.base = B.base → A.dirty = B.dirty → (AHeap.mergeN A g n k).root = (AHeap.mergeN B g n k).root ∧ (AHeap.mergeN A g n k).base = (AHeap.mergeN B g n k).base ∧ (AHeap.mergeN A g n k).dirty = (AHeap.mergeN B g n k).dirty := by
        intro A B n k
        induction k generalizing A B n with
        | zero => exact fun h1 h2 h3 => ⟨h1, h2, h3⟩
        | succ k ihk =>
          intro h1 h2 h3
          simp only [AHeap.mergeN]
          exact ihk _ _ _ (by simp only [AHeap.put, h1]) h2 h3
      have k2 := key (nw K x.e x.l x.o) (K.put m (some x.obj)) (m + 1) M.length (by simp only [nw, AHeap.new, AHeap.put, hK, Bl.obj]) rfl rfl
      rw [ext, ← this, hh, k2.1, k2.2.1, k2.2.2, List.length_cons, show m + (M.length + 1) = m + 1 + M.length by omega]
  have hmg : H.merge (ext (H.restrict F) M) = ext H M := by
    unfold AHeap.merge
    rw [hd', hnx, Nat.add_sub_cancel_left]
    simp only [AHeap.mergeW]
    exact hmn M H _ H.next rfl hget _ rfl
  refine ⟨F, v, ext (H.restrict F) M, ?_, hF, (by rw [hd']; simp), fun r hr => fpOk_of ?_, ?_⟩
  · refine opS_of (x := .enter f (args.map (opv E))) (g := H.restrict F) ?_ (hc _ hn.1 (fun n hn' => by rw [restrict_get, if_pos hn']))
    simp only [aop, xCall, aevals_opv ha, aeval, Option.bind_eq_bind, Option.bind_some, callV, aInvoke, enterN, hb, if_true, List.nil_append, List.append_nil, Option.map_some]
  · have hids : ∀ (k s : Nat), s + k = M.length → (rangeFrom (H.next + s) k).flatMap (idsAt (ext (H.restrict F) M)) = (M.drop s).flatMap fun x => idsL x.l := by
      intro k
      induction k with
      | zero => intro s hs; rw [rangeFrom, List.drop_eq_nil_of_le (by omega)]; rfl
      | succ k ih =>
        intro s hs
        have hlt : s < M.length := by omega
        rw [rangeFrom, List.flatMap_cons, List.drop_eq_getElem_cons hlt, List.flatMap_cons]
        have := ih (s + 1) (by omega)
        rw [show H.next + (s + 1) = H.next + s + 1 by omega] at this
        rw [this]
        congr 1
        simp only [idsAt, hget s hlt, List.getElem?_eq_getElem hlt, Option.map_some, Bl.obj, idsO, RV.n_ofList, RV.gets_ofList]
    have := hids M.length 0 (by omega)
    simp only [Nat.add_zero, List.drop_zero] at this
    rw [hd']
    simp only [outIds, hd', hnx, Nat.add_sub_cancel_left, List.nil_append, this]
    exact hm r hr
  · rw [hmg, hd', hnx]
    simp only [put_some N E ds d v hd]
    exact h

end
end Go.Ax

/- Walks over abstract heaps: calls that change blocks. -/
namespace Go.Ax

structure Mod (W : List Nat) (H H1 : AHeap) : Prop where
  next : H.next ≤ H1.next
  base : H1.base = H.base
  get : ∀ n, n < H.next → n ∉ W → H1.get n = H.get n
  sub : ∀ n, n ∈ H.dirty → n ∈ H1.dirty
  dirty : ∀ n, n ∈ H1.dirty → n ∈ H.dirty ∨ (n ∈ W ∧ n < H.base)
  keep : ∀ n, n < H.base → n ∉ H1.dirty → H1.get n = H.get n

section
variable {P : Program} {H H1 H2 : AHeap} {W : List Nat} {L : List Bl}

theorem Mod.refl : Mod W H H := ⟨Nat.le_refl _, rfl, fun _ _ _ => rfl, fun _ h => h, fun _ h => .inl h, fun _ _ _ => rfl⟩
theorem Mod.trans (a : Mod W H H1) (b : Mod W H1 H2) : Mod W H H2 where
  next := Nat.le_trans a.next b.next
  base := b.base.trans a.base
  get := fun n hn hW => (b.get n (Nat.lt_of_lt_of_le hn a.next) hW).trans (a.get n hn hW)
  sub := fun n h => b.sub n (a.sub n h)
  dirty := fun n h => (b.dirty n h).elim (a.dirty n) (fun h => .inr ⟨h.1, a.base ▸ h.2⟩)
  keep := fun n hn hd => (b.keep n (by rw [a.base]; exact hn) hd).trans (a.keep n hn (fun h => hd (b.sub n h)))
theorem Mod.mono {W' : List Nat} (a : Mod W H H1) (h : ∀ n ∈ W, n ∈ W') : Mod W' H H1 :=
  ⟨a.next, a.base, fun n hn hW => a.get n hn (fun h' => hW (h n h')), a.sub, fun n hn => (a.dirty n hn).imp id (fun h' => ⟨h n h'.1, h'.2⟩), a.keep⟩
theorem Mod.ext (hb : H.base ≤ H.next) : Mod W H (Go.Ax.ext H L) :=
  ⟨by rw [ext_next]; omega, ext_base, fun n hn _ => ext_get_old hn, fun n h => by rw [ext_dirty]; exact h, fun n h => by rw [ext_dirty] at h; exact .inl h, fun n hn _ => ext_get_old (by omega)⟩
theorem uw_sub {n off : Nat} {vs : List Value} {m : Nat} (h : m ∈ H.dirty) : m ∈ (uw H n off vs).dirty := by
  unfold uw
  split
  · simp only [AHeap.upd]
    split
    · exact List.mem_cons_of_mem _ h
    · exact h
  · exact h
theorem Mod.uw {n off : Nat} {vs : List Value} (hn : n ∈ W) : Mod W H (Go.Ax.uw H n off vs) where
  next := by rw [uw_next]; exact Nat.le_refl _
  base := uw_base
  get := fun m _ hm => uw_get (fun e => hm (e ▸ hn))
  sub := fun m h => uw_sub h
  dirty := fun m h => by
    rcases uw_dirty h with h | ⟨rfl, h⟩
    · exact .inl h
    · exact .inr ⟨hn, h⟩
  keep := fun m hm hd => by
    by_cases e : m = n
    · subst e
      unfold Go.Ax.uw at hd ⊢
      split at hd
      · simp only [AHeap.upd, blt_of hm, if_true] at hd
        exact absurd List.mem_cons_self hd
      · rfl
    · exact uw_get e

theorem Mod.bk (m : Mod W H H1) {n : Nat} (hn : n < H.next) (hW : n ∉ W) : Go.Ax.bk H1 n = Go.Ax.bk H n := bk_get (m.get n hn hW)
theorem Mod.lt (m : Mod W H H1) {n : Nat} (hn : n < H.next) : n < H1.next := Nat.lt_of_lt_of_le hn m.next
theorem Mod.ok (m : Mod W H H1) (h : H.base ≤ H.next) : H1.base ≤ H1.next := by have := m.next; rw [m.base]; omega

theorem mergeW_dirtW (g : AHeap) : ∀ (l : List Nat) (H : AHeap) (n : Nat), n ∈ (AHeap.mergeW H g l).dirty → n ∈ H.dirty ∨ (n ∈ l ∧ n < H.base)
  | [], _, _, h => .inl h
  | m :: r, H, n, h => by
    rcases mergeW_dirtW g r _ n h with h | h
    · simp only [AHeap.upd] at h
      split at h
      · rename_i hb
        rcases List.mem_cons.1 h with rfl | h
        · exact .inr ⟨List.mem_cons_self, blt_lt hb⟩
        · exact .inl h
      · exact .inl h
    · exact .inr ⟨List.mem_cons_of_mem _ h.1, h.2⟩
theorem merge_dirtW (H g : AHeap) (n : Nat) (h : n ∈ (H.merge g).dirty) : n ∈ H.dirty ∨ (n ∈ g.dirty ∧ n < H.base) := by
  have k := (mergeN_next g (g.next - H.next) H.next (AHeap.mergeW H g g.dirty)).2
  refine mergeW_dirtW g g.dirty H n ?_
  rw [← k]
  exact h

theorem genV_mod {N : Nat} {E : Env} {ds : List Deferred} {ops : Array Oper} {anc : List Nat} {dst : Option Nat} {ty : TypeId} {pos : String} {after : Array Edge} {rest : List Oper} {i : Nat} {fps : List Fp} {Q : AAct → AHeap → Prop} {f : FuncId} {args : List Operand} {ts : Array TypeId} {v : Value} {g : AHeap}
    (F : List Nat) (hok : H.base ≤ H.next) (ha : args.all (opOk P N) = true) (hb : hasBody P f = true) (hF : ∀ n ∈ F, H.get n ≠ none) (hlt : ∀ n ∈ F, n < H.next) (hW : ∀ n ∈ W, n ∈ F)
    (hc : CallS P f (args.map (opv E)) (H.restrict F) (.ok v) g) (hmod : Mod W (H.restrict F) g)
    (hm : ∀ r ∈ fps, (anc.getD i 0).testBit r.i = true ∨ (r.hi ≤ r.lo ∧ (∀ n ∈ r.W, n ∉ F) ∧ (∀ n ∈ r.F, n ∉ W)))
    (h : ∀ H' D, Mod W H H' → (∀ n ∈ F, H'.get n = g.get n) → (∀ n, H.next ≤ n → n < g.next → H'.get n = g.get n) → H'.next = g.next → (∀ n ∈ D, n ∈ W) → wkD P ops anc rest (i + 1) (⟨i, F, D, H.next, g.next⟩ :: fps) ((mkA N E ds).put dst v) H' Q) :
    genV P ops anc ⟨dst, .call ⟨.value (.func f), ⟨args⟩, ts⟩, ty, pos, after, none⟩ rest i fps (mkA N E ds) H Q := by
  have hn := restrict_next H F
  have hd : ∀ n ∈ g.dirty, n ∈ W := by
    intro n hg
    rcases hmod.dirty n hg with h | h
    · rw [hn.2.2] at h; cases h
    · exact h.1
  have hle : H.next ≤ g.next := by have := hmod.next; rw [hn.1] at this; exact this
  have hgF : ∀ n ∈ F, (H.merge g).get n = g.get n := by
    intro n hnF
    by_cases hgd : n ∈ g.dirty
    · exact merge_pos H g hle (.inl hgd)
    · rw [merge_neg H g hle]
      · rw [hmod.keep n (by rw [hn.2.1]; exact hlt n hnF) hgd, restrict_get, if_pos hnF]
      · rintro (h' | h')
        · exact hgd h'
        · have := hlt n hnF; omega
  have hmf := merge_facts H g
  refine ⟨F, v, g, ?_, hF, fun n h' => hW n (hd n h'), fun r hr => fpOk_of ?_, ?_⟩
  · refine opS_of (x := .enter f (args.map (opv E))) (g := H.restrict F) ?_ hc
    simp only [aop, xCall, aevals_opv ha, aeval, Option.bind_eq_bind, Option.bind_some, callV, aInvoke, enterN, hb, if_true, List.nil_append, List.append_nil, Option.map_some]
  · rcases hm r hr with h' | ⟨h1, h2, h3⟩
    · exact .inl h'
    · exact .inr ⟨h2, fun n hnr hng => h3 n hnr (hd n hng), fun hlt' => absurd hlt' (by omega)⟩
  · refine h (H.merge g) g.dirty ⟨by rw [hmf.1]; exact hle, hmf.2.1, fun n hnl hnW => ?_, hmf.2.2.1, fun n hnd => ?_, fun n hnb hnd => ?_⟩ hgF (fun n h1 h2 => merge_pos H g hle (.inr ⟨h1, h2⟩)) hmf.1 hd
    · rw [merge_neg H g hle]
      rintro (h' | h')
      · exact hnW (hd n h')
      · omega
    · rcases merge_dirtW H g n hnd with h' | h'
      · exact .inl h'
      · exact .inr ⟨hd n h'.1, h'.2⟩
    · by_cases hgd : n ∈ g.dirty
      · exact absurd (hmf.2.2.2 n hgd hnb) hnd
      · rw [merge_neg H g hle]
        rintro (h' | h')
        · exact hgd h'
        · omega


theorem Mod.step {W' : List Nat} (a : Mod W H H1) (b : Mod W' H1 H2) (hok : H.base ≤ H.next) (h : ∀ n ∈ W', n ∈ W ∨ H.next ≤ n) : Mod W H H2 where
  next := Nat.le_trans a.next b.next
  base := b.base.trans a.base
  get := fun n hn hW => (b.get n (Nat.lt_of_lt_of_le hn a.next) (fun h' => (h n h').elim hW (by omega))).trans (a.get n hn hW)
  sub := fun n h => b.sub n (a.sub n h)
  dirty := fun n h' => by
    rcases b.dirty n h' with h' | ⟨h1, h2⟩
    · exact a.dirty n h'
    · rw [a.base] at h2
      exact .inr ⟨(h n h1).elim id (by omega), h2⟩
  keep := fun n hn hd => (b.keep n (by rw [a.base]; exact hn) hd).trans (a.keep n hn (fun h => hd (b.sub n h)))

theorem Mod.upd {n : Nat} {o : Option AObj} (hn : n ∈ W) : Mod W H (H.upd n o) where
  next := Nat.le_refl _
  base := rfl
  get := fun m _ hm => by
    have hne : m ≠ n := by rintro rfl; exact hm hn
    rw [AHeap.get_upd, if_neg hne]
  sub := fun m h => by
    simp only [AHeap.upd]
    split
    · exact List.mem_cons_of_mem _ h
    · exact h
  dirty := fun m h => by
    simp only [AHeap.upd] at h
    split at h
    · rename_i hb
      rcases List.mem_cons.1 h with rfl | h
      · exact .inr ⟨hn, blt_lt hb⟩
      · exact .inl h
    · exact .inl h
  keep := fun m hm hd => by
    by_cases e : m = n
    · subst e
      simp only [AHeap.upd, blt_of hm, if_true] at hd
      exact absurd List.mem_cons_self hd
    · rw [AHeap.get_upd, if_neg e]
theorem Mod.new {o : AObj} (hok : H.base ≤ H.next) : Mod W H (H.new o) :=
  ⟨Nat.le_succ _, rfl, fun n hn _ => by rw [AHeap.get_new, if_neg (by omega)], fun _ h => h, fun _ h => .inl h, fun n hn _ => by rw [AHeap.get_new, if_neg (by omega)]⟩

theorem Mod.drop (w : WF P H) (m : Mod [] H H1) : Rn id H H1 H where
  low := fun _ _ => rfl
  next := Nat.le_refl _
  base := rfl
  dirty := fun _ h => h
  dirt1 := fun n h => (m.dirty n h).elim id (fun h => by cases h.1)
  get := fun n o2 h => .inl ⟨(w.dom n o2 h).1, h, by rw [m.get n (w.dom n o2 h).1 (by simp), h]⟩
  keep := fun n _ h => .inl h
  inj := fun m n _ _ h => h
  ro := fun n _ => ⟨.inl, fun _ => rfl⟩

theorem Mod.one (w : WF P H) (m : Mod [] H H1) {k : Nat} {b : Bl} (hk : H.next ≤ k) (hb : Go.Ax.bk H1 k = some b) (hs : scbL H.next b.l = true) : Rn (fun n => if n < H.next then n else k) H H1 (Go.Ax.ext H [b]) := by
  have hnew : ∀ n o2, H.next ≤ n → (Go.Ax.ext H [b]).get n = some o2 → n = H.next ∧ o2 = b.obj := by
    intro n o2 hn h
    by_cases hi : n = H.next
    · subst hi
      have := ext_get_new (L := [b]) (H := H) (i := 0) (by simp)
      simp only [Nat.add_zero, List.getElem?_cons_zero, Option.map_some] at this
      rw [this] at h
      exact ⟨rfl, (Option.some.inj h).symm⟩
    · rw [ext_get_far (by simp; omega)] at h
      have := (w.dom _ _ h).1
      omega
  have hall : ∀ (l : List Value), scbL H.next l = true → ∀ j, j < l.length → scb H.next (l.getD j undef) = true := by
    intro l
    induction l with
    | nil => intro _ j hj; simp at hj
    | cons x r ih =>
      intro hl j hj
      simp only [scbL, Bool.and_eq_true] at hl
      cases j with
      | zero => simpa using hl.1
      | succ j =>
        have := ih hl.2 j (by simpa using hj)
        simpa using this
  refine ⟨fun n hn => if_pos hn, by rw [ext_next]; omega, by rw [ext_base], fun n h => by rw [ext_dirty]; exact h, fun n h => by rw [ext_dirty]; exact (m.dirty n h).elim id (fun h => by cases h.1), ?_, ?_, ?_, fun n hz => ⟨fun h => .inl (by rw [ext_dirty] at h; exact h), fun _ => ext_get_old (by
    obtain ⟨o, ho, _⟩ := hz
    exact (w.dom n o ho).1)⟩⟩
  · intro n o2 h
    rcases Nat.lt_or_ge n H.next with hn | hn
    · rw [ext_get_old hn] at h
      exact .inl ⟨hn, h, by rw [m.get n hn (by simp), h]⟩
    · obtain ⟨rfl, rfl⟩ := hnew n o2 hn h
      obtain ⟨rv, hc, hn1, hg⟩ := bk_blk hb
      refine .inr ⟨by rw [ext_next]; simp, ?_, fun h => absurd w.base (by omega), fun h => absurd h (by omega), fun _ => by rw [if_neg (by omega)]; exact hk, ?_⟩
      · simp only [Bl.obj, sco, RV.n_ofList]
        intro j hj
        rw [RV.get_ofList, ext_next]
        exact scb_mono (by omega) _ (hall _ hs j hj)
      · rw [if_neg (Nat.lt_irrefl _)]
        unfold cellsAt at hc
        split at hc
        · rename_i c e z o v hg1
          cases hc
          refine ⟨_, hg1, ⟨c, b.e, 0, z, #[], 0, rfl, rfl⟩, rfl, ?_, ?_⟩
          · simp only [Bl.obj, RV.n_ofList]; exact hn1
          · intro j hj
            simp only [Bl.obj, RV.n_ofList] at hj
            simp only [Bl.obj, RV.get_ofList]
            rw [hg j hj, rnV_low (N := H.next) (fun n hn => if_pos hn) _ (hall _ hs j hj)]
        · cases hc
  · intro n hb' h
    have hn : n < H.next := Nat.lt_of_lt_of_le hb' w.base
    rw [ext_get_old hn] at h
    exact .inl h
  · have cls : ∀ n, (Go.Ax.ext H [b]).get n ≠ none → n < H.next ∨ n = H.next := by
      intro n hn
      rcases Nat.lt_or_ge n H.next with h | h
      · exact .inl h
      · cases hg : (Go.Ax.ext H [b]).get n with
        | none => exact absurd hg hn
        | some o2 => exact .inr (hnew n o2 h hg).1
    intro m' n' hm hn he
    rcases cls m' hm with h1 | rfl <;> rcases cls n' hn with h2 | rfl
    · rw [if_pos h1, if_pos h2] at he; exact he
    · rw [if_pos h1, if_neg (Nat.lt_irrefl _)] at he; omega
    · rw [if_pos h2, if_neg (Nat.lt_irrefl _)] at he; omega
    · rfl

variable {f : FuncId} {args : List Value}
theorem callS_drop {v : Value} (h : WF P H → scbL H.next args = true → CallA P f args H fun out H1 => out = .ok v ∧ Mod [] H H1) (hv : WF P H → scbL H.next args = true → scb H.next v = true) : CallS P f args H (.ok v) H := by
  intro ρ w r hsc
  obtain ⟨_, H1, h1, rfl, m⟩ := h r.wf hsc
  exact CallS.rn (σ := id) (H1 := H1) (by rw [rnV_id (hv r.wf hsc)]; exact h1) (fun w => m.drop w) (hv r.wf hsc) ρ w r hsc

theorem callS_one {b : Bl} {n c : Nat} {s : Option Nat} (h : WF P H → scbL H.next args = true → CallA P f args H fun out H1 => ∃ k, out = .ok (.slice (some ⟨k, 0, s⟩) n c) ∧ H.next ≤ k ∧ Go.Ax.bk H1 k = some b ∧ Mod [] H H1) (hs : WF P H → scbL H.next args = true → scbL H.next b.l = true) :
    CallS P f args H (.ok (.slice (some ⟨H.next, 0, s⟩) n c)) (Go.Ax.ext H [b]) := by
  intro ρ w r hsc
  obtain ⟨_, H1, h1, k, rfl, hk, hb, m⟩ := h r.wf hsc
  refine CallS.rn (σ := fun n => if n < H.next then n else k) (H1 := H1) ?_ (fun w => m.one w hk hb (hs r.wf hsc)) (by rw [ext_next]; exact blt_of (Nat.lt_succ_self _)) ρ w r hsc
  simp only [rnV, Nat.lt_irrefl, if_false]
  exact h1

end
end Go.Ax

/- Walks over abstract heaps: loops over functions; append. -/
namespace Go.Ax
section
variable {P : Program} {ro : Option Nat} {H : AHeap} {N : Nat} {E : Env} {ds : List Deferred} {L : List Bl}

def CallY (P : Program) (l : Nat) (args : List Value) (H : AHeap) (R : Out → AHeap → Prop) : Prop :=
  match aYield H l args with
  | some (.round rd) => RoundA P rd H R
  | _ => False

theorem w_callY {l : Nat} {x : Operand} {args : List Operand} {ts : Array TypeId} {dst : Option Nat} {ops : Array Oper} {rest : List Oper} {ty : TypeId} {pos : String} {after : Array Edge} {Q : Exit → AAct → AHeap → Prop} (hx : opOk P N x = true) (hv : opv E x = .func (.yield l) ⟨[]⟩ ⟨[]⟩) (ha : args.all (opOk P N) = true)
    (h : CallY P l (args.map (opv E)) H (opC P ro ops rest (mkA N E ds) dst Q)) :
    wpOps P ro ops (⟨dst, .call ⟨.value x, ⟨args⟩, ts⟩, ty, pos, after, none⟩ :: rest) (mkA N E ds) H Q := by
  rw [w_op rfl rfl]
  unfold CallY at h
  split at h
  · rename_i rd hy
    simp only [opA, aop, xCall, aevals_opv ha, aeval_opv hx, hv, Option.bind_eq_bind, Option.bind_some, callV, aInvoke, List.nil_append, hy, Option.map_some, nextA]
    exact h
  · exact h.elim

theorem CallY.mono {l : Nat} {args : List Value} {R R' : Out → AHeap → Prop} (h : CallY P l args H R) (hR : ∀ out H1, R out H1 → R' out H1) : CallY P l args H R' := by
  unfold CallY at *
  split at h
  · obtain ⟨out, H1, h1, h2⟩ := h
    exact ⟨out, H1, h1, hR _ _ h2⟩
  · exact h.elim

def LoopAt (H : AHeap) (l : Nat) (lp : Loop) (e : RV) : Prop := ∃ o, H.get l = some ⟨.loop lp, o, e⟩

theorem LoopAt.get {l : Nat} {lp : Loop} {e : RV} (h : LoopAt H l lp e) : getLoop H l = some (lp, e) := by
  obtain ⟨o, h⟩ := h
  simp only [getLoop, h]
theorem LoopAt.of {G : AHeap} {l : Nat} {lp : Loop} {e : RV} (h : LoopAt H l lp e) (hg : G.get l = H.get l) : LoopAt G l lp e := by
  obtain ⟨o, h⟩ := h
  exact ⟨o, hg.trans h⟩
theorem LoopAt.set (l : Nat) (lp : Loop) (e : RV) : LoopAt (setLoop H l lp e) l lp e := ⟨false, by rw [setLoop, AHeap.get_upd, if_pos rfl]⟩

theorem roundA_of (hmix : P.follows .mixedOrders = true) {rd : Round} {R : Out → AHeap → Prop}
    (h : wpA P (some rd.l) rd.assign (fun e a1 H2 => e = .normal ∧ ∃ lp le, getLoop H2 rd.l = some (lp, le) ∧ lp.state = .ready ∧
      wpA P (some rd.l) rd.body (fun e2 _ H3 => ∃ j lp2 le2, jumpOf e2 = some j ∧ getLoop H3 rd.l = some (lp2, le2) ∧ R (.ok (.bool j.isNone)) (setLoop H3 rd.l { lp2 with state := if j.isNone then .ready else .done, pending := j } le2)) a1 (setLoop H2 rd.l { lp with state := .busy } le)) ⟨rd.env, []⟩ H) : RoundA P rd H R := by
  obtain ⟨e, a1, H2, hr, rfl, lp, le, h1, h2, h3⟩ := wpA_sound hmix _ _ _ _ h
  obtain ⟨e2, a2, H3, hr2, j, lp2, le2, h4, h5, h6⟩ := wpA_sound hmix _ _ _ _ h3
  exact ⟨_, _, round_core hr h1 h2 hr2 h4 h5, h6⟩

def asgC (P : Program) (l : Nat) (body : Code) (R : Out → AHeap → Prop) : Exit → AAct → AHeap → Prop := fun e a1 H2 => e = .normal ∧ ∃ lp le, getLoop H2 l = some (lp, le) ∧ lp.state = .ready ∧
      wpA P (some l) body (fun e2 _ H3 => ∃ j lp2 le2, jumpOf e2 = some j ∧ getLoop H3 l = some (lp2, le2) ∧ R (.ok (.bool j.isNone)) (setLoop H3 l { lp2 with state := if j.isNone then .ready else .done, pending := j } le2)) a1 (setLoop H2 l { lp with state := .busy } le)
def rndC (l : Nat) (R : Out → AHeap → Prop) : Exit → AAct → AHeap → Prop := fun e2 _ H3 => ∃ j lp2 le2, jumpOf e2 = some j ∧ getLoop H3 l = some (lp2, le2) ∧ R (.ok (.bool j.isNone)) (setLoop H3 l { lp2 with state := if j.isNone then .ready else .done, pending := j } le2)
theorem asgC_normal {l : Nat} {body : Code} {R : Out → AHeap → Prop} {a : AAct} : asgC P l body R .normal a H = ∃ lp le, getLoop H l = some (lp, le) ∧ lp.state = .ready ∧ wpA P (some l) body (rndC l R) a (setLoop H l { lp with state := .busy } le) := by
  simp only [asgC, true_and]
  rfl
theorem rndC_normal {l : Nat} {R : Out → AHeap → Prop} {a : AAct} : rndC l R .normal a H = ∃ lp2 le2, getLoop H l = some (lp2, le2) ∧ R (.ok (.bool true)) (setLoop H l { lp2 with state := .ready, pending := none } le2) := by
  simp [rndC, jumpOf]
theorem rndC_ret {l : Nat} {R : Out → AHeap → Prop} {a : AAct} : rndC l R .ret a H = ∃ lp2 le2, getLoop H l = some (lp2, le2) ∧ R (.ok (.bool false)) (setLoop H l { lp2 with state := .done, pending := some .ret } le2) := by
  simp [rndC, jumpOf]
theorem rndC_exit {l id : Nat} {R : Out → AHeap → Prop} {a : AAct} : rndC l R (.exit id) a H = ∃ lp2 le2, getLoop H l = some (lp2, le2) ∧ R (.ok (.bool false)) (setLoop H l { lp2 with state := .done, pending := some (.exit id) } le2) := by
  simp [rndC, jumpOf]

theorem callY_of (hmix : P.follows .mixedOrders = true) {l d : Nat} {ps : List Tmp} {assign body : Code} {args : List Value} {E1 : Env} {R : Out → AHeap → Prop}
    (hl : LoopAt H l { state := .ready, pending := none, fn := 0, tmps := #[], params := ⟨ps⟩, assign, body, defers := d } (rvOf N E)) (hlen : args.length = ps.length) (hE : zipSet ps args (rvOf N E) = rvOf N E1)
    (h : wpA P (some l) assign (asgC P l body R) (mkA N E1 []) H) : CallY P l args H R := by
  obtain ⟨o, hl⟩ := hl
  unfold CallY aYield
  rw [hl]
  simp only [hlen, if_true]
  refine roundA_of hmix ?_
  rw [hE]
  exact h

theorem zip_one {t : Tmp} {v : Value} (h : t < N) : zipSet [t] [v] (rvOf N E) = rvOf N (upd E t v) := by
  have hb : Nat.blt t (rvOf N E).n = true := blt_of h
  simp only [zipSet, hb, if_true]
  exact rvOf_set N E t v h
theorem zip_two {t u : Tmp} {v w : Value} (h : t < N) (h2 : u < N) : zipSet [t, u] [v, w] (rvOf N E) = rvOf N (upd (upd E t v) u w) := by
  have hb : Nat.blt t (rvOf N E).n = true := blt_of h
  have hb2 : Nat.blt u (rvOf N (upd E t v)).n = true := blt_of h2
  simp only [zipSet, hb, if_true, rvOf_set N E t v h, hb2]
  exact rvOf_set N _ u w h2

theorem w_env {c : Code} {Q : Exit → AAct → AHeap → Prop} (h : ∀ E', E' = E → wpA P ro c Q (mkA N E' ds) H) : wpA P ro c Q (mkA N E ds) H := h E rfl

def joinC (N : Nat) (ds : List Deferred) (I : Env → AHeap → Prop) : Exit → AAct → AHeap → Prop
  | .normal, a, H => ∃ E, a = mkA N E ds ∧ I E H
  | _, _, _ => False
theorem joinC_normal {I : Env → AHeap → Prop} : joinC N ds I .normal (mkA N E ds) H = ∃ E', mkA N E ds = mkA N E' ds ∧ I E' H := by simp only [joinC]
theorem condC_join {x y z : Code} {Q : Exit → AAct → AHeap → Prop} {b : Bool} (I : Env → AHeap → Prop) (h1 : b = true → wpA P ro x (joinC N ds I) (mkA N E ds) H) (h2 : b = false → wpA P ro y (joinC N ds I) (mkA N E ds) H) (h3 : ∀ E H, I E H → wpA P ro z Q (mkA N E ds) H) : condC P ro x y (seqC P ro z Q) (mkA N E ds) H (.bool b) := by
  have key : ∀ e a H, joinC N ds I e a H → seqC P ro z Q e a H := by
    intro e a H h
    cases e with
    | normal =>
      obtain ⟨E', rfl, hI⟩ := h
      exact h3 E' H hI
    | _ => exact h.elim
  exact condC_split (fun hb => wpA_mono x _ H key (h1 hb)) (fun hb => wpA_mono y _ H key (h2 hb))

def loopH (H : AHeap) (N : Nat) (E : Env) (ds : List Deferred) (ps : List Tmp) (assign body : Code) : AHeap := (H.new ⟨.deferred (some []), false, ⟨[], 0⟩⟩).new (newLoop (mkA N E ds) ⟨ps⟩ assign body H.next)

theorem loopH_next {ps : List Tmp} {assign body : Code} : (loopH H N E ds ps assign body).next = H.next + 2 := rfl
theorem loopH_loop {ps : List Tmp} {assign body : Code} : LoopAt (loopH H N E ds ps assign body) (H.next + 1) { state := .ready, pending := none, fn := 0, tmps := #[], params := ⟨ps⟩, assign, body, defers := H.next } (rvOf N E) := by
  refine ⟨false, ?_⟩
  unfold loopH
  rw [AHeap.get_new, if_pos (show H.next + 1 = (H.new ⟨.deferred (some []), false, ⟨[], 0⟩⟩).next from rfl)]
  rfl
theorem loopH_dfr {ps : List Tmp} {assign body : Code} : (loopH H N E ds ps assign body).get H.next = some ⟨.deferred (some []), false, ⟨[], 0⟩⟩ := by
  unfold loopH
  rw [AHeap.get_new, if_neg (show H.next ≠ (H.new ⟨.deferred (some []), false, ⟨[], 0⟩⟩).next by simp only [AHeap.new]; omega), AHeap.get_new, if_pos rfl]
theorem loopH_mod {W : List Nat} {ps : List Tmp} {assign body : Code} (hok : H.base ≤ H.next) : Mod W H (loopH H N E ds ps assign body) :=
  (Mod.new hok).trans (Mod.new (show H.base ≤ H.next + 1 by omega))

def afterC (N : Nat) (E : Env) (ds : List Deferred) (l d : Nat) (Q : Exit → AAct → AHeap → Prop) : Out → AHeap → Prop := fun out H2 => match out with
  | .ok _ => ∃ lp le e, getLoop H2 l = some (lp, le) ∧ lp.state ≠ .busy ∧ pendE lp.pending = some e ∧ Q e (mkA N E ({ target := .collected d, args := #[] } :: ds)) (setLoop H2 l { lp with state := .exhausted } le)
  | .error ch => Q (.panic ch) (mkA N E ({ target := .collected d, args := #[] } :: ds)) H2

theorem w_range {t : Tmp} {ps : List Tmp} {assign body : Code} {f : FuncId} {ca : List Value} {Q : Exit → AAct → AHeap → Prop} (ht : t < N) (hv : E t = .func (.func f) ⟨[]⟩ ⟨ca⟩) (hb : hasBody P f = true)
    (h : CallA P f (.func (.yield (H.next + 1)) ⟨[]⟩ ⟨[]⟩ :: ca) (loopH H N E ds ps assign body) (afterC N E ds (H.next + 1) H.next Q)) : wpA P none (.rangeFunc (.tmp t) ⟨ps⟩ assign body) Q (mkA N E ds) H := by
  simp only [wpA, aeval_tmp N E ds t ht, hv, rangeA, enterLoop, aInvoke, enterN, hb, if_true, List.nil_append, List.cons_append]
  refine h.mono fun out H2 hq => ?_
  cases out with
  | ok v => exact hq
  | error ch => exact hq

theorem w_rangeK {t : Tmp} {ps : List Tmp} {assign body : Code} {f : FuncId} {ca : List Value} {Q : Exit → AAct → AHeap → Prop} (hok : H.base ≤ H.next) (ht : t < N) (hv : E t = .func (.func f) ⟨[]⟩ ⟨ca⟩) (hb : hasBody P f = true)
    (h : ∀ K, LoopAt K (H.next + 1) { state := .ready, pending := none, fn := 0, tmps := #[], params := ⟨ps⟩, assign, body, defers := H.next } (rvOf N E) → K.get H.next = some ⟨.deferred (some []), false, ⟨[], 0⟩⟩ → (∀ W, Mod W H K) → K.next = H.next + 2 →
      CallA P f (.func (.yield (H.next + 1)) ⟨[]⟩ ⟨[]⟩ :: ca) K (afterC N E ds (H.next + 1) H.next Q)) : wpA P none (.rangeFunc (.tmp t) ⟨ps⟩ assign body) Q (mkA N E ds) H :=
  w_range ht hv hb (h _ loopH_loop loopH_dfr (fun _ => loopH_mod hok) loopH_next)

theorem lv_mark {fn : Func} {a : AAct} {R : Out → AHeap → Prop} {d : Nat} {ds : List Deferred} (h : ∃ o v, H.get d = some ⟨.deferred (some []), o, v⟩) (hR : leaveA P fn a ds .returning (H.upd d (some ⟨.deferred none, false, ⟨[], 0⟩⟩)) R) :
    leaveA P fn a ({ target := .collected d, args := #[] } :: ds) .returning H R := ⟨h, hR⟩

theorem w_func {f : FuncId} {first captured : List Operand} {ops : Array Oper} {rest : List Oper} {d : Nat} {ty : TypeId} {pos : String} {after : Array Edge} {Q : Exit → AAct → AHeap → Prop} (h1 : first.all (opOk P N) = true) (h2 : captured.all (opOk P N) = true) (hd : d < N) :
    wpOps P ro ops (⟨some d, .makeFunc (.func f) ⟨first⟩ ⟨captured⟩, ty, pos, after, none⟩ :: rest) (mkA N E ds) H Q = wpOps P ro ops rest (mkA N (upd E d (.func (.func f) ⟨first.map (opv E)⟩ ⟨captured.map (opv E)⟩)) ds) H Q := by
  rw [w_op rfl rfl]
  simp only [opA, aop, xFunc, aevals_opv h1, aevals_opv h2, Option.bind_eq_bind, Option.bind_some, funcV, nextA, opC, put_some N E ds d _ hd]

theorem ok_nilfunc : opOk P N (.const .nilFunc) = true := by simp only [opOk, af]

theorem all_sub {l : List Value} (h : l.all one = true) (a b : Nat) : ((l.drop a).take b).all one = true := by
  rw [List.all_eq_true] at h ⊢
  exact fun x hx => h x (List.mem_of_mem_drop (List.mem_of_mem_take hx))

theorem first_rk {sz cnt n off len cap : Nat} {s : Option Nat} {b : Bl} (h : rk H n = some b) (hle : off + cnt * sz ≤ b.l.length) : firstC H sz cnt (.slice (some ⟨n, off, s⟩) len cap) = some ((b.l.drop off).take (cnt * sz)) := by
  obtain ⟨rv, h1, h2, h3⟩ := rk_blk h
  simp only [firstC, h1, Option.bind_eq_bind, Option.bind_some]
  rw [if_pos (by rw [Nat.ble_eq]; omega), Blk.gets h2 h3 _ _ hle]
theorem first_bk {sz cnt n off len cap : Nat} {s : Option Nat} {b : Bl} (h : bk H n = some b) (hle : off + cnt * sz ≤ b.l.length) : firstC H sz cnt (.slice (some ⟨n, off, s⟩) len cap) = some ((b.l.drop off).take (cnt * sz)) := first_rk (rk_of h) hle

theorem app_nilR {st xt e : TypeId} {sz by1 n off cnt cap : Nat} {s : Option Nat} {z : Value} {b : Bl} (hu : P.underlying st = some (.slice e)) (hsz : szOf P e = some sz) (hby : bytesOf P e = some by1) (hz : zeroOf P e = some z) (hzl : z.cells.toList.length = sz) (hi : intTy P xt = some false)
    (hb : rk H n = some b) (hle : off + cnt * sz ≤ b.l.length) (hone : b.l.all one = true) (hc : 0 < cnt) (hsm : small cnt by1 = true) :
    aBuiltin P H .append ⟨[st, xt]⟩ [.slice none 0 0, .slice (some ⟨n, off, s⟩) cnt cap] = (aNew H e ((b.l.drop off).take (cnt * sz)) true).map fun g => (.slice (some ⟨H.next, 0, none⟩) cnt cnt, g) := by
  have hl : ((b.l.drop off).take (cnt * sz)).length = cnt * sz := by simp; omega
  simp only [aBuiltin, aAppend, hu, hsz, hby, hz, hi, Option.bind_eq_bind, Option.bind_some, lenV, first_rk hb hle, hl, hzl, Nat.zero_add, hsm, and_self, if_true, aAppend2]
  rw [if_neg (by omega)]
  simp only [firstC, Option.bind_some, List.length_nil, Nat.zero_mul, List.all_nil, all_sub hone, decide_true, Bool.and_self, if_true, List.nil_append]
  cases aNew H e ((b.l.drop off).take (cnt * sz)) true <;> rfl
theorem app_nil {st xt e : TypeId} {sz by1 n off cnt cap : Nat} {s : Option Nat} {z : Value} {b : Bl} (hu : P.underlying st = some (.slice e)) (hsz : szOf P e = some sz) (hby : bytesOf P e = some by1) (hz : zeroOf P e = some z) (hzl : z.cells.toList.length = sz) (hi : intTy P xt = some false)
    (hb : bk H n = some b) (hle : off + cnt * sz ≤ b.l.length) (hone : b.l.all one = true) (hc : 0 < cnt) (hsm : small cnt by1 = true) :
    aBuiltin P H .append ⟨[st, xt]⟩ [.slice none 0 0, .slice (some ⟨n, off, s⟩) cnt cap] = (aNew H e ((b.l.drop off).take (cnt * sz)) true).map fun g => (.slice (some ⟨H.next, 0, none⟩) cnt cnt, g) := app_nilR hu hsz hby hz hzl hi (rk_of hb) hle hone hc hsm

theorem app_openR {st xt e : TypeId} {sz by1 m k n off cnt cap : Nat} {s : Option Nat} {z : Value} {b : Bl} {old : List Value} (hu : P.underlying st = some (.slice e)) (hsz : szOf P e = some sz) (hby : bytesOf P e = some by1) (hz : zeroOf P e = some z) (hzl : z.cells.toList.length = sz) (hi : intTy P xt = some false)
    (hm : bk H m = some ⟨e, true, old⟩) (ho : old.length = k * sz) (hoo : old.all one = true)
    (hb : rk H n = some b) (hle : off + cnt * sz ≤ b.l.length) (hone : b.l.all one = true) (hc : 0 < cnt) (hsm : small (k + cnt) by1 = true) :
    aBuiltin P H .append ⟨[st, xt]⟩ [.slice (some ⟨m, 0, none⟩) k k, .slice (some ⟨n, off, s⟩) cnt cap] = (aNew (H.upd m none) e (old ++ (b.l.drop off).take (cnt * sz)) true).map fun g => (.slice (some ⟨H.next, 0, none⟩) (k + cnt) (k + cnt), g) := by
  have hl : ((b.l.drop off).take (cnt * sz)).length = cnt * sz := by simp; omega
  obtain ⟨rv, h1, h2, h3⟩ := bk_blk hm
  have hop : isOpen H m = some true := by
    obtain ⟨c0, f0, hg⟩ := cellsAt_get h1
    simp only [isOpen, hg]
  simp only at h1 h2 h3
  have hf := first_bk (sz := sz) (cnt := k) (off := 0) (len := k) (cap := k) (s := none) hm (by simp only; omega)
  simp only [List.drop_zero] at hf
  rw [List.take_of_length_le (by omega)] at hf
  simp only [aBuiltin, aAppend, hu, hsz, hby, hz, hi, Option.bind_eq_bind, Option.bind_some, lenV, first_rk hb hle, hl, hzl, hsm, and_self, if_true, aAppend2]
  rw [if_neg (by omega)]
  simp only [hf, Option.bind_some, ho, hoo, all_sub hone, decide_true, Bool.and_self, if_true, exactAp, exactAt, hop, Option.map_some, Bool.not_true, h1]
  rw [if_pos ⟨trivial, by rw [Nat.ble_eq]; omega⟩]
  cases aNew (H.upd m none) e (old ++ (b.l.drop off).take (cnt * sz)) true <;> rfl
theorem app_open {st xt e : TypeId} {sz by1 m k n off cnt cap : Nat} {s : Option Nat} {z : Value} {b : Bl} {old : List Value} (hu : P.underlying st = some (.slice e)) (hsz : szOf P e = some sz) (hby : bytesOf P e = some by1) (hz : zeroOf P e = some z) (hzl : z.cells.toList.length = sz) (hi : intTy P xt = some false)
    (hm : bk H m = some ⟨e, true, old⟩) (ho : old.length = k * sz) (hoo : old.all one = true)
    (hb : bk H n = some b) (hle : off + cnt * sz ≤ b.l.length) (hone : b.l.all one = true) (hc : 0 < cnt) (hsm : small (k + cnt) by1 = true) :
    aBuiltin P H .append ⟨[st, xt]⟩ [.slice (some ⟨m, 0, none⟩) k k, .slice (some ⟨n, off, s⟩) cnt cap] = (aNew (H.upd m none) e (old ++ (b.l.drop off).take (cnt * sz)) true).map fun g => (.slice (some ⟨H.next, 0, none⟩) (k + cnt) (k + cnt), g) := app_openR hu hsz hby hz hzl hi hm ho hoo (rk_of hb) hle hone hc hsm

theorem app_exactR {st xt e : TypeId} {sz by1 m k n off cnt cap : Nat} {s : Option Nat} {z : Value} {b bm : Bl} (hu : P.underlying st = some (.slice e)) (hsz : szOf P e = some sz) (hby : bytesOf P e = some by1) (hz : zeroOf P e = some z) (hzl : z.cells.toList.length = sz) (hi : intTy P xt = some false)
    (hm : bk H m = some bm) (ho : k * sz ≤ bm.l.length) (hoo : bm.l.all one = true)
    (hb : rk H n = some b) (hle : off + cnt * sz ≤ b.l.length) (hone : b.l.all one = true) (hc : 0 < cnt) (hsm : small (k + cnt) by1 = true) :
    aBuiltin P H .append ⟨[st, xt]⟩ [.slice (some ⟨m, 0, some 0⟩) k k, .slice (some ⟨n, off, s⟩) cnt cap] = (aNew H e (bm.l.take (k * sz) ++ (b.l.drop off).take (cnt * sz)) true).map fun g => (.slice (some ⟨H.next, 0, none⟩) (k + cnt) (k + cnt), g) := by
  have hl : ((b.l.drop off).take (cnt * sz)).length = cnt * sz := by simp; omega
  have hl2 : (bm.l.take (k * sz)).length = k * sz := by simp; omega
  have hf := first_bk (sz := sz) (cnt := k) (off := 0) (len := k) (cap := k) (s := some 0) hm (by omega)
  simp only [List.drop_zero] at hf
  have hoo2 := all_sub hoo 0 (k * sz)
  simp only [List.drop_zero] at hoo2
  simp only [aBuiltin, aAppend, hu, hsz, hby, hz, hi, Option.bind_eq_bind, Option.bind_some, lenV, first_rk hb hle, hl, hzl, hsm, and_self, if_true, aAppend2]
  rw [if_neg (by omega)]
  simp only [hf, Option.bind_some, hl2, hoo2, all_sub hone, decide_true, Bool.and_self, if_true, exactAp, exactAt]
  cases aNew H e (bm.l.take (k * sz) ++ (b.l.drop off).take (cnt * sz)) true <;> rfl
theorem app_exact {st xt e : TypeId} {sz by1 m k n off cnt cap : Nat} {s : Option Nat} {z : Value} {b bm : Bl} (hu : P.underlying st = some (.slice e)) (hsz : szOf P e = some sz) (hby : bytesOf P e = some by1) (hz : zeroOf P e = some z) (hzl : z.cells.toList.length = sz) (hi : intTy P xt = some false)
    (hm : bk H m = some bm) (ho : k * sz ≤ bm.l.length) (hoo : bm.l.all one = true)
    (hb : bk H n = some b) (hle : off + cnt * sz ≤ b.l.length) (hone : b.l.all one = true) (hc : 0 < cnt) (hsm : small (k + cnt) by1 = true) :
    aBuiltin P H .append ⟨[st, xt]⟩ [.slice (some ⟨m, 0, some 0⟩) k k, .slice (some ⟨n, off, s⟩) cnt cap] = (aNew H e (bm.l.take (k * sz) ++ (b.l.drop off).take (cnt * sz)) true).map fun g => (.slice (some ⟨H.next, 0, none⟩) (k + cnt) (k + cnt), g) := app_exactR hu hsz hby hz hzl hi hm ho hoo (rk_of hb) hle hone hc hsm

def dp (H : AHeap) (m : Nat) : AHeap := H.upd m none
theorem dp_next {m : Nat} : (dp H m).next = H.next := rfl
theorem dp_base {m : Nat} : (dp H m).base = H.base := rfl
theorem dp_get {m n : Nat} (h : n ≠ m) : (dp H m).get n = H.get n := by rw [dp, AHeap.get_upd, if_neg h]
theorem bk_dp {m n : Nat} (h : n ≠ m) : bk (dp H m) n = bk H n := bk_get (dp_get h)
theorem ext_dp {m : Nat} (h : m < H.next) : (ext H L).upd m none = ext (dp H m) L := ext_upd_old h
theorem ext_setLoop {l : Nat} {lp : Loop} {e : RV} (h : l < H.next) : setLoop (ext H L) l lp e = ext (setLoop H l lp e) L := ext_upd_old h
theorem setLoop_next {l : Nat} {lp : Loop} {e : RV} : (setLoop H l lp e).next = H.next := rfl
theorem setLoop_base {l : Nat} {lp : Loop} {e : RV} : (setLoop H l lp e).base = H.base := rfl
theorem setLoop_get {l n : Nat} {lp : Loop} {e : RV} (h : n ≠ l) : (setLoop H l lp e).get n = H.get n := by rw [setLoop, AHeap.get_upd, if_neg h]
theorem bk_setLoop {l n : Nat} {lp : Loop} {e : RV} (h : n ≠ l) : bk (setLoop H l lp e) n = bk H n := bk_get (setLoop_get h)


def rangeOf : Code → Option (Code × Code)
  | .seq x y => (match rangeOf x with
    | some r => some r
    | none => rangeOf y)
  | .cond _ x y => (match rangeOf x with
    | some r => some r
    | none => rangeOf y)
  | .block _ b => rangeOf b
  | .scope b => rangeOf b
  | .loop b => rangeOf b
  | .rangeFunc _ _ a b => some (a, b)
  | _ => none

structure Yld (P : Program) (l : Nat) (α : Type) (enc : α → List Value) (go : α → Bool) (cap : Nat) where
  Inv : List α → List Nat → List Nat → AHeap → Prop
  sub : ∀ {rs F W G}, Inv rs F W G → ∀ n ∈ W, n ∈ F
  dom : ∀ {rs F W G}, Inv rs F W G → ∀ n ∈ F, G.get n ≠ none ∧ n < G.next
  loc : ∀ {rs F W G G'}, Inv rs F W G → G.next ≤ G'.next → (∀ n ∈ F, G'.get n = G.get n) → Inv rs F W G'
  step : ∀ {rs F W G r}, Inv rs F W G → (∀ x ∈ rs, go x = true) → rs.length < cap → G.base ≤ G.next → CallY P l (enc r) G (fun out G' => out = .ok (.bool (go r)) ∧ ∃ F' W', Inv (rs ++ [r]) F' W' G' ∧ Mod W G G' ∧ (∀ n ∈ F', n ∈ F ∨ G.next ≤ n) ∧ (∀ n ∈ W', n ∈ W ∨ G.next ≤ n))

def upto {α : Type} (go : α → Bool) : List α → List α
  | [] => []
  | x :: r => if go x then x :: upto go r else [x]

theorem upto_all {α : Type} {go : α → Bool} : ∀ {l : List α}, l.all go = true → upto go l = l
  | [], _ => rfl
  | x :: r, h => by
    simp only [List.all_cons, Bool.and_eq_true] at h
    simp only [upto, h.1, if_true, upto_all h.2]
theorem upto_append {α : Type} {go : α → Bool} : ∀ {l m : List α}, l.all go = true → upto go (l ++ m) = l ++ upto go m
  | [], _, _ => rfl
  | x :: r, m, h => by
    simp only [List.all_cons, Bool.and_eq_true] at h
    simp only [List.cons_append, upto, h.1, if_true, upto_append h.2]
theorem upto_stop {α : Type} {go : α → Bool} : ∀ {l m : List α}, l.all go = false → upto go (l ++ m) = upto go l
  | [], _, h => by cases h
  | x :: r, m, h => by
    simp only [List.all_cons, Bool.and_eq_false_iff] at h
    simp only [List.cons_append, upto]
    by_cases hx : go x = true
    · simp only [hx, if_true]
      rw [upto_stop (h.elim (fun h => by rw [hx] at h; cases h) id)]
    · simp [hx]

theorem le_new {b i k : Nat} : (b + i ≤ b + k) = (i ≤ k) := by simp
theorem idsB_some {x : Bl} : (match (some x : Option Bl) with
    | some x => idsL x.l
    | none => []) = idsL x.l := rfl
def idsB : Option Bl → List Nat
  | some x => idsL x.l
  | none => []
theorem idsB_eq {e : TypeId} {o : Bool} {l : List Value} : idsB (some ⟨e, o, l⟩) = idsL l := by simp only [idsB]
theorem ids_at {b i : Nat} (h : H.next = b) (hi : i < L.length) : idsAt (ext H L) (b + i) = idsB L[i]? := by
  rw [ids_new h hi]
  cases L[i]? <;> rfl

def lenS (n : Nat) : Option TypeDesc → Option Value
  | some (.slice _) => some (goInt n)
  | some (.array m _) => some (goInt m)
  | _ => none
def lenR (n : Nat) : Option TypeDesc → Option Value
  | some (.slice _) => some (goInt n)
  | _ => none
theorem lenS_slice {n : Nat} {e : TypeId} : lenS n (some (.slice e)) = some (goInt n) := by simp only [lenS]
theorem lenR_slice {n : Nat} {e : TypeId} : lenR n (some (.slice e)) = some (goInt n) := by simp only [lenR]
theorem bt_lenS {t : TypeId} {x : Option Addr} {n c : Nat} : aBuiltin P H .len ⟨[t]⟩ [.slice x n c] = (lenS n (P.underlying t)).map fun v => (v, H) := by
  simp only [aBuiltin, aLen]
  cases P.underlying t with
  | none => rfl
  | some d => cases d <;> rfl
theorem rb_lenS {t : TypeId} {x : Option Addr} {n c : Nat} : regBt P .len ⟨[t]⟩ [.slice x n c] = lenR n (P.underlying t) := by
  simp only [regBt]
  cases P.underlying t with
  | none => rfl
  | some d => cases d <;> rfl
theorem go_int {n : Int} : goInt n = .int .i64 n := by simp only [goInt]
theorem ia_slice {t e : TypeId} {sz n off len cap : Nat} {s : Option Nat} {k : IntKind} {i : Int} (hu : P.underlying t = some (.slice e)) (hsz : szOf P e = some sz) (h0 : 0 ≤ i) (h1 : i < len) : aIndexAddr P t (.slice (some ⟨n, off, s⟩) len cap) (.int k i) = some (.pointer (some ⟨n, off + i.toNat * sz, none⟩)) := by
  simp only [aIndexAddr, hu, hsz, Option.bind_eq_bind, Option.bind_some, h0, h1, and_self, if_true]
theorem idsOk_new {anc j lo hi : Nat} {F W O : List Nat} {fps : List Fp} : IdsOk anc (⟨j, F, W, lo, hi⟩ :: fps) O = ((lo < hi → anc.testBit j = true ∨ ∀ n ∈ O, n < lo ∨ hi ≤ n) ∧ IdsOk anc fps O) := by simp [IdsOk]
theorem idsOk_anc {anc j lo hi : Nat} {F W O : List Nat} {fps : List Fp} (h : anc.testBit j = true) : IdsOk anc (⟨j, F, W, lo, hi⟩ :: fps) O = IdsOk anc fps O := by simp [IdsOk, h]
theorem meets_bit {anc j lo hi : Nat} {F W F' W' O : List Nat} (h : anc.testBit j = true) : Meets anc F W O ⟨j, F', W', lo, hi⟩ = True := by simp [Meets, h]
theorem meets_anc {anc j lo hi : Nat} {F W F' W' O : List Nat} {fps : List Fp} (h : anc.testBit j = true) : (∀ r ∈ (⟨j, F', W', lo, hi⟩ : Fp) :: fps, Meets anc F W O r) = ∀ r ∈ fps, Meets anc F W O r := by simp [Meets, h]

end
end Go.Ax

/- Walks over abstract heaps: pointers compared. -/
namespace Go.Ax
section
variable {P : Program} {ro : Option Nat} {H : AHeap} {N : Nat} {E : Env} {ds : List Deferred} {L : List Bl}

theorem isOpen_bk {n : Nat} {b : Bl} (h : bk H n = some b) : isOpen H n = some b.o := by
  unfold bk at h
  cases hc : cellsAt H n with
  | none => rw [hc] at h; cases h
  | some x =>
    rw [hc] at h
    obtain ⟨rv, e, o⟩ := x
    cases h
    obtain ⟨c0, f0, hg⟩ := cellsAt_get hc
    simp only [isOpen, hg]

def ptrTy (P : Program) (t : TypeId) : Bool :=
  match P.underlying t with
  | some (.pointer e) => (match szOf P e with
    | some (_ + 1) => true
    | _ => false)
  | _ => false

theorem aBin_ptr {op : BinOp} {t : TypeId} {a b : Addr} {b1 b2 : Bl} (ht : ptrTy P t = true) (h1 : bk H a.block = some b1) (h2 : bk H b.block = some b2) (o1 : b1.o = false) (o2 : b2.o = false) : aBin P H op t (.pointer (some a)) (.pointer (some b)) = eqOp op (a == b) := by
  unfold ptrTy at ht
  split at ht
  · rename_i e hu
    split at ht
    · rename_i k hs
      have i1 := isOpen_bk h1
      have i2 := isOpen_bk h2
      rw [o1] at i1
      rw [o2] at i2
      simp only [aBin, aBinAddr, aEq, hu, hs, i1, i2, Option.bind_some]
    · cases ht
  · cases ht

theorem addr_beq {n o m o' : Nat} : ((⟨n, o, none⟩ : Addr) == ⟨m, o', none⟩) = decide (n = m ∧ o = o') := by
  have : ((⟨n, o, none⟩ : Addr) == ⟨m, o', none⟩) = decide ((⟨n, o, none⟩ : Addr) = ⟨m, o', none⟩) := by
    first
      | rfl
      | (by_cases h : (⟨n, o, none⟩ : Addr) = ⟨m, o', none⟩
         · rw [h]; simp
         · simp [h])
  rw [this]
  simp

section
variable {ops : Array Oper} {anc : List Nat} {d : Nat} {ty : TypeId} {pos : String} {after : Array Edge} {rest : List Oper} {i : Nat} {fps : List Fp} {Q : AAct → AHeap → Prop}

theorem wd_ptr {op : BinOp} {t u : TypeId} {x y : Operand} {a b : Addr} {b1 b2 : Bl} {r : Bool} (hop : eqOp op (a == b) = some (.bool r)) (hx : opOk P N x = true) (hy : opOk P N y = true) (hd : d < N) (ht : ptrTy P t = true) (ha : opv E x = .pointer (some a)) (hb : opv E y = .pointer (some b)) (h1 : bk H a.block = some b1) (h2 : bk H b.block = some b2) (o1 : b1.o = false) (o2 : b2.o = false)
    (hm : ∀ r ∈ fps, Meets (anc.getD i 0) [a.block, b.block] [] [] r) (h : wkD P ops anc rest (i + 1) (⟨i, [a.block, b.block], [], H.next, H.next⟩ :: fps) (mkA N (upd E d (.bool r)) ds) H Q) :
    wkD P ops anc (⟨some d, .binOp op t x y u, ty, pos, after, none⟩ :: rest) i fps (mkA N E ds) H Q := by
  simp only [wkD, wantA, stepD, pureOp, binD, aeval_opv hx, aeval_opv hy, ha, hb, regBin]
  have hn := restrict_next H [a.block, b.block]
  have g1 : bk (H.restrict [a.block, b.block]) a.block = some b1 := (bk_get (by rw [restrict_get, if_pos (by simp)])).trans h1
  have g2 : bk (H.restrict [a.block, b.block]) b.block = some b2 := (bk_get (by rw [restrict_get, if_pos (by simp)])).trans h2
  refine ⟨[a.block, b.block], .bool r, H.restrict [a.block, b.block], ?_, ?_, (by rw [hn.2.2]; simp), fun r hr => fpOk_of ?_, ?_⟩
  · refine opS_of (x := .value (.bool r)) (g := H.restrict [a.block, b.block]) ?_ ⟨rfl, rfl⟩
    simp only [aop, xBin, aeval_opv hx, aeval_opv hy, ha, hb, Option.bind_eq_bind, Option.bind_some, binV, aBin_ptr ht g1 g2 o1 o2, hop]
  · intro n hn
    simp only [List.mem_cons, List.not_mem_nil, or_false] at hn
    rcases hn with rfl | rfl
    · exact bk_ne h1
    · exact bk_ne h2
  · simp only [outIds, hn.2.2, hn.1, Nat.sub_self, rangeFrom, List.append_nil, List.flatMap_nil, idsV]
    exact hm r hr
  · rw [merge_self, hn.2.2, hn.1]
    simp only [put_some N E ds d _ hd]
    exact h
end
end
end Go.Ax

/- Walks over abstract heaps: where ways meet again, some of which may have left the function. -/
namespace Go.Ax
section
variable {P : Program} {ro : Option Nat} {H : AHeap} {N : Nat} {E : Env} {ds : List Deferred} {L : List Bl}

def joinR (N : Nat) (ds : List Deferred) (J : Env → AHeap → Prop) (Q : Exit → AAct → AHeap → Prop) : Exit → AAct → AHeap → Prop
  | .normal, a, H => ∃ E, a = mkA N E ds ∧ J E H
  | e, a, H => Q e a H
theorem joinR_normal {J : Env → AHeap → Prop} {Q : Exit → AAct → AHeap → Prop} (h : J E H) : joinR N ds J Q .normal (mkA N E ds) H := ⟨E, rfl, h⟩
theorem joinR_ret {J : Env → AHeap → Prop} {Q : Exit → AAct → AHeap → Prop} {a : AAct} : joinR N ds J Q .ret a H = Q .ret a H := Eq.trans rfl rfl
theorem joinR_exit {J : Env → AHeap → Prop} {Q : Exit → AAct → AHeap → Prop} {a : AAct} {id : Nat} : joinR N ds J Q (.exit id) a H = Q (.exit id) a H := Eq.trans rfl rfl

theorem joinR_seq {J : Env → AHeap → Prop} {Q : Exit → AAct → AHeap → Prop} {z : Code} (h3 : ∀ E H, J E H → wpA P ro z Q (mkA N E ds) H) : ∀ e a H, joinR N ds J Q e a H → seqC P ro z Q e a H := by
  intro e a H h
  cases e with
  | normal =>
    obtain ⟨E', rfl, hI⟩ := h
    exact h3 E' H hI
  | _ => exact h

theorem condC_meet {x y z : Code} {Q : Exit → AAct → AHeap → Prop} {v : Value} (J : Env → AHeap → Prop) (h1 : condC P ro x y (joinR N ds J Q) (mkA N E ds) H v) (h3 : ∀ E H, J E H → wpA P ro z Q (mkA N E ds) H) : condC P ro x y (seqC P ro z Q) (mkA N E ds) H v := by
  cases v with
  | bool b =>
    cases b with
    | true => rw [condC_true] at h1 ⊢; exact wpA_mono x _ H (joinR_seq h3) h1
    | false => rw [condC_false] at h1 ⊢; exact wpA_mono y _ H (joinR_seq h3) h1
  | _ => exact h1

theorem blockC_meet {c z : Code} {id : Nat} {Q : Exit → AAct → AHeap → Prop} (J : Env → AHeap → Prop) (h1 : wpA P ro c (blockC id (joinR N ds J Q)) (mkA N E ds) H) (h3 : ∀ E H, J E H → wpA P ro z Q (mkA N E ds) H) : wpA P ro c (blockC id (seqC P ro z Q)) (mkA N E ds) H := by
  refine wpA_mono c _ H (fun e a H h => ?_) h1
  exact joinR_seq h3 _ _ _ h

theorem w_meet {c z : Code} {Q : Exit → AAct → AHeap → Prop} (J : Env → AHeap → Prop) (h1 : wpA P ro c (joinR N ds J Q) (mkA N E ds) H) (h3 : ∀ E H, J E H → wpA P ro z Q (mkA N E ds) H) : wpA P ro c (seqC P ro z Q) (mkA N E ds) H :=
  wpA_mono c _ H (joinR_seq h3) h1

theorem loopC_next {K : Env → AHeap → Prop} {Q : Exit → AAct → AHeap → Prop} (h : K E H) : loopC N ds K Q .normal (mkA N E ds) H := by
  rw [loopC_normal]
  exact ⟨E, rfl, h⟩

theorem putL_same : ∀ (l : List Value) (o : Nat) (v : Value), l[o]? = some v → putL l o [v] = l
  | [], o, v, h => by simp at h
  | x :: r, 0, v, h => by
    simp only [List.getElem?_cons_zero, Option.some.injEq] at h
    subst h
    cases r <;> rfl
  | x :: r, o + 1, v, h => by
    simp only [putL, putL_same r o v (by simpa using h)]
end
end Go.Ax

/- Walks over abstract heaps: structs compared, whose parts are numbers, truth values and strings. -/
namespace Go.Ax
section
variable {P : Program}

theorem peval_bind {α β : Type} (s : Sem α) (f : α → Sem β) : peval P (s >>= f) = (peval P s).bind fun a => peval P (f a) := by
  show peval P (Sem.bind s f) = _
  induction s with
  | pure x => rfl
  | program k ih => simp only [Sem.bind, peval]; exact ih P
  | mark m k ih => simp only [Sem.bind, peval]; exact ih
  | load | store | new | shape | freeze | frozen | getObj | setObj | choose | sys | halt => simp [Sem.bind, peval]

theorem peval_pure {α : Type} (a : α) : peval P (pure a : Sem α) = some a := rfl
theorem peval_program : peval P Go.program = some P := rfl

theorem peval_und {t : TypeId} {d : TypeDesc} (h : P.underlying t = some d) : peval P (underlying t) = some d := by
  simp only [underlying, peval_bind, peval_program, Option.bind_some, h, peval_pure]

theorem peval_agg {t : TypeId} {b : Bool} (h : aggT P t = some b) : peval P (isAgg t) = some b := by
  unfold aggT at h
  cases e : P.underlying t with
  | none => rw [e] at h; cases h
  | some d =>
    rw [e] at h
    simp only [isAgg, peval_bind, peval_und e, Option.bind_some]
    cases d <;> simp only [peval_pure] <;> simpa using h

theorem peval_size {t : TypeId} {n : Nat} (h : szOf P t = some n) : peval P (sizeOf t) = some n := by
  unfold szOf at h
  cases e : P.info? t with
  | none => rw [e] at h; cases h
  | some i =>
    rw [e] at h
    simp only [sizeOf, typeInfo, peval_bind, peval_program, Option.bind_some, e, peval_pure]
    simpa using h

def fit1 (P : Program) (t : TypeId) (v : Value) : Bool :=
  match P.underlying t, v with
  | some .bool, .bool _ => true
  | some (.int k), .int k' _ => k == k'
  | some .string, .string _ => true
  | _, _ => false
def fits (P : Program) : List TypeId → List Value → Bool
  | [], [] => true
  | t :: ts, v :: vs => fit1 P t v && fits P ts vs
  | _, _ => false
def eq1 : Value → Value → Bool
  | .bool a, .bool b => a == b
  | .int _ a, .int _ b => a == b
  | .string a, .string b => a == b
  | _, _ => false
def eqL : List Value → List Value → Bool
  | [], [] => true
  | x :: xs, y :: ys => eq1 x y && eqL xs ys
  | _, _ => false

def flatF (P : Program) (fl : TypeId → Option (List TypeId)) : List Field → Nat → Option (List TypeId)
  | [], _ => some []
  | f :: fs, o =>
    if f.name ≠ "_" ∧ f.offset = o then
      (match fl f.type with
      | some a => if szOf P f.type = some a.length then (match flatF P fl fs (o + a.length) with
        | some b => some (a ++ b)
        | none => none) else none
      | none => none)
    else none
def flat (P : Program) : Nat → TypeId → Option (List TypeId)
  | 0, _ => none
  | d + 1, t =>
    match P.underlying t with
    | some .bool => some [t]
    | some (.int _) => some [t]
    | some .string => some [t]
    | some (.struct fs) => if P.stoodInHeld t then none else flatF P (flat P d) fs.toList 0
    | _ => none

theorem peval_eq1 {d : Nat} {t : TypeId} {x y : Value} (hx : fit1 P t x = true) (hy : fit1 P t y = true) : peval P (Op.equalIn (d + 1) t x y) = some (eq1 x y) := by
  unfold fit1 at hx hy
  split at hx
  · rename_i a e
    rw [e] at hy
    cases y <;> simp only [Bool.false_eq_true] at hy
    simp only [Op.equalIn, peval_bind, peval_und e, Option.bind_some, peval_pure, eq1]
  · rename_i k k1 a e
    rw [e] at hy
    cases y <;> simp only [Bool.false_eq_true] at hy
    simp only [Op.equalIn, peval_bind, peval_und e, Option.bind_some, peval_pure, eq1]
    rw [if_pos ((eq_of_beq hx).symm.trans (eq_of_beq hy))]
    rfl
  · rename_i a e
    rw [e] at hy
    cases y <;> simp only [Bool.false_eq_true] at hy
    simp only [Op.equalIn, peval_bind, peval_und e, Option.bind_some, peval_pure, eq1]
  · cases hx

theorem fits_split : ∀ {ts us : List TypeId} {vs : List Value}, fits P (ts ++ us) vs = true → fits P ts (vs.take ts.length) = true ∧ fits P us (vs.drop ts.length) = true ∧ ts.length ≤ vs.length
  | [], us, vs, h => by simpa [fits] using h
  | t :: ts, us, [], h => by simp [fits] at h
  | t :: ts, us, v :: vs, h => by
    simp only [List.cons_append, fits, Bool.and_eq_true] at h
    have := fits_split h.2
    simp only [List.length_cons, List.take_succ_cons, List.drop_succ_cons, fits, h.1, this.1, this.2.1, Bool.and_self, true_and]
    omega
theorem eqL_split : ∀ {n : Nat} {xs ys : List Value}, n ≤ xs.length → n ≤ ys.length → eqL xs ys = (eqL (xs.take n) (ys.take n) && eqL (xs.drop n) (ys.drop n))
  | 0, xs, ys, _, _ => by simp [eqL]
  | n + 1, [], _, h, _ => by simp at h
  | n + 1, _ :: _, [], _, h => by simp at h
  | n + 1, x :: xs, y :: ys, h1, h2 => by
    simp only [List.length_cons, Nat.add_le_add_iff_right] at h1 h2
    simp only [List.take_succ_cons, List.drop_succ_cons, eqL, eqL_split h1 h2, Bool.and_assoc]
theorem fits_length : ∀ {ts : List TypeId} {vs : List Value}, fits P ts vs = true → ts.length = vs.length
  | [], [], _ => rfl
  | [], _ :: _, h => by simp [fits] at h
  | _ :: _, [], h => by simp [fits] at h
  | t :: ts, v :: vs, h => by
    simp only [fits, Bool.and_eq_true] at h
    simp only [List.length_cons, fits_length h.2]

theorem peval_struct {d : Nat} {t : TypeId} {xs ys : Array Value} {fs : Array Field} (ht : P.underlying t = some (.struct fs)) (hp : P.stoodInHeld t = false) :
    peval P (Op.equalIn (d + 1) t (.agg xs) (.agg ys)) = peval P (Op.eqFields d xs ys fs.toList) := by
  simp only [Op.equalIn, peval_bind, peval_und ht, Option.bind_some, peval_program, hp, Bool.false_eq_true, if_false]
  rw [← Array.forIn_toList]
  generalize fs.toList = l
  clear ht
  induction l with
  | nil => simp [Op.eqFields, peval_pure, peval_bind]
  | cons f fs ih =>
    simp only [List.forIn_cons, Op.eqFields, peval_bind]
    split
    · simp only [peval_bind]
      cases peval P (part f.type xs f.offset) with
      | none => rfl
      | some a =>
        simp only [Option.bind_some]
        cases peval P (part f.type ys f.offset) with
        | none => rfl
        | some b =>
          simp only [Option.bind_some]
          cases peval P (Op.equalIn d f.type a b) with
          | none => rfl
          | some r =>
            cases r
            · simp [peval_pure]
            · simp only [Option.bind_some, Bool.not_true, Bool.false_eq_true, if_false, peval_pure, peval_bind]
              rw [← ih]
    · simp only [peval_pure, peval_bind, Option.bind_some]
      rw [← ih]

theorem peval_part {t : TypeId} {sz o : Nat} {b : Bool} {xs : List Value} (ha : aggT P t = some b) (hs : szOf P t = some sz) (h1 : b = false → sz = 1) (hle : o + sz ≤ xs.length) :
    peval P (part t ⟨xs⟩ o) = some (if b then .agg ⟨(xs.drop o).take sz⟩ else xs.getD o undef) := by
  cases b with
  | true => 
    simp only [part, peval_bind, peval_agg ha, Option.bind_some, if_true, peval_size hs, peval_pure, Option.some.injEq, Value.agg.injEq]
    apply Array.ext'
    simp [Array.toList_extract, List.extract_eq_take_drop]
  | false =>
    have := h1 rfl
    have hlt : o < xs.length := by omega
    simp only [part, peval_bind, peval_agg ha, Option.bind_some, Bool.false_eq_true, if_false]
    simp [List.getElem?_eq_getElem hlt, peval_pure, List.getD_eq_getElem?_getD]

theorem flat_scalar {d : Nat} {t : TypeId} {ts : List TypeId} (h : flat P (d + 1) t = some ts) (ha : aggT P t = some false) : ts = [t] := by
  simp only [flat] at h
  unfold aggT at ha
  cases e : P.underlying t with
  | none => rw [e] at ha; cases ha
  | some td => rw [e] at h ha; cases td <;> simp_all

theorem flat_und {d : Nat} {t : TypeId} {ts : List TypeId} (h : flat P (d + 1) t = some ts) : ∃ b, aggT P t = some b := by
  simp only [flat] at h
  unfold aggT
  cases e : P.underlying t with
  | none => rw [e] at h; cases h
  | some td => rw [e] at h; cases td <;> simp_all

theorem peval_fields {d : Nat} (ih : ∀ t ts xs ys, flat P d t = some ts → aggT P t = some true → fits P ts xs = true → fits P ts ys = true → peval P (Op.equalIn d t (.agg ⟨xs⟩) (.agg ⟨ys⟩)) = some (eqL xs ys)) :
    ∀ (fs : List Field) (o : Nat) (ts : List TypeId) (xs ys : List Value), flatF P (flat P d) fs o = some ts → o ≤ xs.length → o ≤ ys.length → fits P ts (xs.drop o) = true → fits P ts (ys.drop o) = true → peval P (Op.eqFields d ⟨xs⟩ ⟨ys⟩ fs) = some (eqL (xs.drop o) (ys.drop o))
  | [], o, ts, xs, ys, h, _, _, hx, hy => by
    simp only [flatF, Option.some.injEq] at h
    subst h
    have h1 := fits_length hx
    have h2 := fits_length hy
    rw [List.eq_nil_of_length_eq_zero h1.symm, List.eq_nil_of_length_eq_zero h2.symm]
    rfl
  | f :: fs, o, ts, xs, ys, h, hox, hoy, hx, hy => by
    simp only [flatF] at h
    split at h
    · rename_i hf
      obtain ⟨hn, ho⟩ := hf
      cases e1 : flat P d f.type with
      | none => rw [e1] at h; cases h
      | some a =>
        rw [e1] at h
        simp only at h
        split at h
        · rename_i hsz
          cases e2 : flatF P (flat P d) fs (o + a.length) with
          | none => rw [e2] at h; cases h
          | some b =>
            rw [e2] at h
            simp only [Option.some.injEq] at h
            subst h
            obtain ⟨hx1, hx2, hxl⟩ := fits_split hx
            obtain ⟨hy1, hy2, hyl⟩ := fits_split hy
            have hsp := eqL_split hxl hyl
            rw [List.drop_drop] at hx2 hy2
            rw [List.drop_drop, List.drop_drop] at hsp
            rw [List.length_drop] at hxl hyl
            have key := peval_fields ih fs (o + a.length) b xs ys e2 (by omega) (by omega) hx2 hy2
            cases d with
            | zero => simp [flat] at e1
            | succ d =>
              obtain ⟨bb, hag⟩ := flat_und e1
              have h1 : bb = false → a.length = 1 := fun hb => by subst hb; rw [flat_scalar e1 hag]; rfl
              simp only [Op.eqFields, hn, ne_eq, not_false_eq_true, if_true, peval_bind, ho]
              rw [peval_part hag hsz h1 (by omega), peval_part hag hsz h1 (by omega)]
              simp only [Option.bind_some]
              have hr : peval P (Op.equalIn (d + 1) f.type (if bb then .agg ⟨(xs.drop o).take a.length⟩ else xs.getD o undef) (if bb then .agg ⟨(ys.drop o).take a.length⟩ else ys.getD o undef)) = some (eqL ((xs.drop o).take a.length) ((ys.drop o).take a.length)) := by
                cases bb with
                | true => simp only [if_true]; exact ih f.type a _ _ e1 hag hx1 hy1
                | false =>
                  have ha := flat_scalar e1 hag
                  have hl := h1 rfl
                  subst ha
                  have hlx : o < xs.length := by omega
                  have hly : o < ys.length := by omega
                  have gx : (xs.drop o).take 1 = [xs.getD o undef] := by rw [List.take_one, List.head?_drop, List.getElem?_eq_getElem hlx, List.getD_eq_getElem?_getD, List.getElem?_eq_getElem hlx]; rfl
                  have gy : (ys.drop o).take 1 = [ys.getD o undef] := by rw [List.take_one, List.head?_drop, List.getElem?_eq_getElem hly, List.getD_eq_getElem?_getD, List.getElem?_eq_getElem hly]; rfl
                  simp only [List.length_singleton, gx, gy, fits, Bool.and_true] at hx1 hy1 ⊢
                  simp only [Bool.false_eq_true, if_false, peval_eq1 hx1 hy1, eqL, Bool.and_true]
              rw [hr, Option.bind_some, hsp]
              cases eqL ((xs.drop o).take a.length) ((ys.drop o).take a.length) with
              | true => simp only [Bool.not_true, Bool.false_eq_true, if_false, Bool.true_and]; exact key
              | false => simp only [Bool.not_false, if_true, peval_pure, Bool.false_and]
        · cases h
    · cases h

theorem peval_eqS : ∀ (d : Nat) (t : TypeId) (ts : List TypeId) (xs ys : List Value), flat P d t = some ts → aggT P t = some true → fits P ts xs = true → fits P ts ys = true → peval P (Op.equalIn d t (.agg ⟨xs⟩) (.agg ⟨ys⟩)) = some (eqL xs ys)
  | 0, t, ts, xs, ys, h, _, _, _ => by simp [flat] at h
  | d + 1, t, ts, xs, ys, h, ha, hx, hy => by
    simp only [flat] at h
    unfold aggT at ha
    cases e : P.underlying t with
    | none => rw [e] at ha; cases ha
    | some td =>
      rw [e] at h ha
      cases td <;> simp only [reduceCtorEq, Option.some.injEq, Bool.false_eq_true] at ha h
      rename_i fs
      split at h
      · cases h
      · rename_i hp
        rw [peval_struct e (by simpa using hp)]
        exact peval_fields (peval_eqS d) fs.toList 0 ts xs ys h (Nat.zero_le _) (Nat.zero_le _) hx hy

theorem plain_eqS {op : BinOp} {t : TypeId} {ts : List TypeId} {xs ys : List Value} {x y : Operand} {r : Bool} (h : flat P 10000 t = some ts) (ha : aggT P t = some true) (hg : P.eqGuardType P.depth t = false) (hx : fits P ts xs = true) (hy : fits P ts ys = true) (hop : eqOp op (eqL xs ys) = some (.bool r)) :
    aPlain P (do eqGuard op t x y (.agg ⟨xs⟩) (.agg ⟨ys⟩); binOp op t (.agg ⟨xs⟩) (.agg ⟨ys⟩)) = some (.value (.bool r)) := by
  have key := peval_eqS 10000 t ts xs ys h ha hx hy
  cases op <;> simp only [eqOp, Option.some.injEq, Value.bool.injEq, reduceCtorEq] at hop
  all_goals
    subst hop
    simp only [aPlain, peval_bind, eqGuard, peval_program, peval_pure, Option.bind_some, hg, Bool.not_false, Bool.not_true, if_true, Bool.false_eq_true, if_false, binOp, Op.equal, Op.maxDepth, key, af]

theorem aBin_agg {H : AHeap} {op : BinOp} {t : TypeId} {xs : Array Value} {y : Value} : aBin P H op t (.agg xs) y = none := by
  cases y <;> rfl
theorem fits_af : ∀ {ts : List TypeId} {vs : List Value}, fits P ts vs = true → afL vs = true
  | [], [], _ => rfl
  | [], _ :: _, h => by simp [fits] at h
  | _ :: _, [], h => by simp [fits] at h
  | t :: ts, v :: vs, h => by
    simp only [fits, Bool.and_eq_true] at h
    have h1 := h.1
    unfold fit1 at h1
    have : af v = true := by split at h1 <;> first | rfl | cases h1
    simp only [afL, this, fits_af h.2, Bool.and_self]

variable {ro : Option Nat} {H : AHeap} {N : Nat} {E : Env} {ds : List Deferred}
theorem wd_same {op : Op} {ops : Array Oper} {anc : List Nat} {d : Nat} {ty : TypeId} {pos : String} {after : Array Edge} {rest : List Oper} {i : Nat} {fps : List Fp} {Q : AAct → AHeap → Prop} {v : Value}
    (hn : stepD P ⟨some d, op, ty, pos, after, none⟩ (mkA N E ds) H (anc.getD i 0) i fps = genD P ⟨some d, op, ty, pos, after, none⟩ (mkA N E ds) H (anc.getD i 0) i fps) (hx : ∀ G, aop op P (mkA N E ds) G = some (.value v, G)) (hv : idsV v = []) (hd : d < N)
    (h : wkD P ops anc rest (i + 1) (⟨i, [], [], H.next, H.next⟩ :: fps) (mkA N (upd E d v) ds) H Q) : wkD P ops anc (⟨some d, op, ty, pos, after, none⟩ :: rest) i fps (mkA N E ds) H Q := by
  have hr := restrict_next H []
  simp only [wkD, wantA]
  rw [hn]
  refine ⟨[], v, H.restrict [], opS_of (hx _) ⟨rfl, rfl⟩, by simp, (by rw [hr.2.2]; simp), fun r _ => fpOk_of ?_, ?_⟩
  · simp only [outIds, hr.2.2, hr.1, Nat.sub_self, rangeFrom, List.append_nil, List.flatMap_nil, hv]
    exact .inr ⟨by simp, by simp, fun _ => ⟨by simp, by simp⟩⟩
  · rw [merge_self, hr.2.2, hr.1]
    simp only [put_some N E ds d _ hd]
    exact h

theorem wd_eqS {op : BinOp} {t u : TypeId} {x y : Operand} {ts : List TypeId} {xs ys : List Value} {r : Bool} {ops : Array Oper} {anc : List Nat} {d : Nat} {ty : TypeId} {pos : String} {after : Array Edge} {rest : List Oper} {i : Nat} {fps : List Fp} {Q : AAct → AHeap → Prop}
    (h : flat P 10000 t = some ts) (ha : aggT P t = some true) (hg : P.eqGuardType P.depth t = false) (hop : eqOp op (eqL xs ys) = some (.bool r)) (hx : opOk P N x = true) (hy : opOk P N y = true) (hd : d < N) (hvx : opv E x = .agg ⟨xs⟩) (hvy : opv E y = .agg ⟨ys⟩) (fx : fits P ts xs = true) (fy : fits P ts ys = true)
    (hk : wkD P ops anc rest (i + 1) (⟨i, [], [], H.next, H.next⟩ :: fps) (mkA N (upd E d (.bool r)) ds) H Q) : wkD P ops anc (⟨some d, .binOp op t x y u, ty, pos, after, none⟩ :: rest) i fps (mkA N E ds) H Q := by
  refine wd_same ?_ (fun G => ?_) rfl hd hk
  · funext K
    simp only [stepD, pureOp, binD, aeval_opv hx, aeval_opv hy, hvx, hvy, regBin]
  · simp only [aop, xBin, aeval_opv hx, aeval_opv hy, hvx, hvy, Option.bind_eq_bind, Option.bind_some, binV, aBin_agg, af, afA, fits_af fx, fits_af fy, Bool.and_self, if_true, plain_eqS h ha hg fx fy hop, Option.map_some]

theorem w_eqS {op : BinOp} {t u : TypeId} {x y : Operand} {ts : List TypeId} {xs ys : List Value} {r : Bool} {ops : Array Oper} {d : Nat} {ty : TypeId} {pos : String} {after : Array Edge} {rest : List Oper} {Q : Exit → AAct → AHeap → Prop}
    (h : flat P 10000 t = some ts) (ha : aggT P t = some true) (hg : P.eqGuardType P.depth t = false) (hop : eqOp op (eqL xs ys) = some (.bool r)) (hx : opOk P N x = true) (hy : opOk P N y = true) (hd : d < N) (hvx : opv E x = .agg ⟨xs⟩) (hvy : opv E y = .agg ⟨ys⟩) (fx : fits P ts xs = true) (fy : fits P ts ys = true)
    (hk : wpOps P ro ops rest (mkA N (upd E d (.bool r)) ds) H Q) : wpOps P ro ops (⟨some d, .binOp op t x y u, ty, pos, after, none⟩ :: rest) (mkA N E ds) H Q := by
  rw [w_rv (x := some (.bool r)) rfl ?_ hd, valC_some]
  · exact hk
  · simp only [aop, xBin, aeval_opv hx, aeval_opv hy, hvx, hvy, Option.bind_eq_bind, Option.bind_some, binV, aBin_agg, af, afA, fits_af fx, fits_af fy, Bool.and_self, if_true, plain_eqS h ha hg fx fy hop, Option.map_some]
    rfl
end
end Go.Ax

/- Walks over abstract heaps: methods called through interfaces. -/
namespace Go.Ax
section
variable {P : Program} {ro : Option Nat} {H : AHeap}

theorem genV_modE {N : Nat} {E : Env} {ds : List Deferred} {ops : Array Oper} {anc : List Nat} {o : Oper} {vals : List Value} {W : List Nat} {rest : List Oper} {i : Nat} {fps : List Fp} {Q : AAct → AHeap → Prop} {f : FuncId} {v : Value} {g : AHeap}
    (F : List Nat) (hok : H.base ≤ H.next) (hx : ∀ G, aop o.op P (mkA N E ds) G = some (.enter f vals, G)) (hF : ∀ n ∈ F, H.get n ≠ none) (hlt : ∀ n ∈ F, n < H.next) (hW : ∀ n ∈ W, n ∈ F)
    (hc : CallS P f vals (H.restrict F) (.ok v) g) (hmod : Mod W (H.restrict F) g)
    (hm : ∀ r ∈ fps, (anc.getD i 0).testBit r.i = true ∨ (r.hi ≤ r.lo ∧ (∀ n ∈ r.W, n ∉ F) ∧ (∀ n ∈ r.F, n ∉ W)))
    (h : ∀ H' D, Mod W H H' → (∀ n ∈ F, H'.get n = g.get n) → (∀ n, H.next ≤ n → n < g.next → H'.get n = g.get n) → H'.next = g.next → (∀ n ∈ D, n ∈ W) → wkD P ops anc rest (i + 1) (⟨i, F, D, H.next, g.next⟩ :: fps) ((mkA N E ds).put o.dst v) H' Q) :
    genV P ops anc o rest i fps (mkA N E ds) H Q := by
  have hn := restrict_next H F
  have hd : ∀ n ∈ g.dirty, n ∈ W := by
    intro n hg
    rcases hmod.dirty n hg with h | h
    · rw [hn.2.2] at h; cases h
    · exact h.1
  have hle : H.next ≤ g.next := by have := hmod.next; rw [hn.1] at this; exact this
  have hgF : ∀ n ∈ F, (H.merge g).get n = g.get n := by
    intro n hnF
    by_cases hgd : n ∈ g.dirty
    · exact merge_pos H g hle (.inl hgd)
    · rw [merge_neg H g hle]
      · rw [hmod.keep n (by rw [hn.2.1]; exact hlt n hnF) hgd, restrict_get, if_pos hnF]
      · rintro (h' | h')
        · exact hgd h'
        · have := hlt n hnF; omega
  have hmf := merge_facts H g
  refine ⟨F, v, g, ?_, hF, fun n h' => hW n (hd n h'), fun r hr => fpOk_of ?_, ?_⟩
  · exact opS_of (x := .enter f vals) (g := H.restrict F) (hx _) hc
  · rcases hm r hr with h' | ⟨h1, h2, h3⟩
    · exact .inl h'
    · exact .inr ⟨h2, fun n hnr hng => h3 n hnr (hd n hng), fun hlt' => absurd hlt' (by omega)⟩
  · refine h (H.merge g) g.dirty ⟨by rw [hmf.1]; exact hle, hmf.2.1, fun n hnl hnW => ?_, hmf.2.2.1, fun n hnd => ?_, fun n hnb hnd => ?_⟩ hgF (fun n h1 h2 => merge_pos H g hle (.inr ⟨h1, h2⟩)) hmf.1 hd
    · rw [merge_neg H g hle]
      rintro (h' | h')
      · exact hnW (hd n h')
      · omega
    · rcases merge_dirtW H g n hnd with h' | h'
      · exact .inl h'
      · exact .inr ⟨hd n h'.1, h'.2⟩
    · by_cases hgd : n ∈ g.dirty
      · exact absurd (hmf.2.2.2 n hgd hnb) hnd
      · rw [merge_neg H g hle]
        rintro (h' | h')
        · exact hgd h'
        · omega

variable {N : Nat} {E : Env} {ds : List Deferred} {ops : Array Oper} {anc : List Nat} {ty : TypeId} {pos : String} {after : Array Edge} {rest : List Oper} {i : Nat} {fps : List Fp}

theorem wd_invoke {Q : AAct → AHeap → Prop} {x : Operand} {name : String} {args : Array Operand} {ts : Array TypeId} {dst : Option Nat} : wkD P ops anc (⟨dst, .call ⟨.invoke x name, args, ts⟩, ty, pos, after, none⟩ :: rest) i fps (mkA N E ds) H Q = genV P ops anc ⟨dst, .call ⟨.invoke x name, args, ts⟩, ty, pos, after, none⟩ rest i fps (mkA N E ds) H Q := by
  simp only [wkD, wantA, stepD, pureOp, restD, newOp, genV]

theorem invoke_enter {x : Operand} {name : String} {args : List Operand} {ts : Array TypeId} {f : FuncId} {vals : List Value} {G : AHeap} (hx : opOk P N x = true) (ha : args.all (opOk P N) = true) (hi : aInvoke P G (.method name) (opv E x :: args.map (opv E)) [] = some (.enter f vals)) :
    aop (.call ⟨.invoke x name, ⟨args⟩, ts⟩) P (mkA N E ds) G = some (.enter f vals, G) := by
  simp only [aop, xCall, aevals_opv ha, aeval_opv hx, Option.bind_eq_bind, Option.bind_some, hi, Option.map_some]

theorem w_invoke {Q : Exit → AAct → AHeap → Prop} {x : Operand} {name : String} {args : List Operand} {ts : Array TypeId} {dst : Option Nat} {f : FuncId} {vals : List Value} (hx : opOk P N x = true) (ha : args.all (opOk P N) = true) (hi : aInvoke P H (.method name) (opv E x :: args.map (opv E)) [] = some (.enter f vals))
    (h : CallA P f vals H (opC P ro ops rest (mkA N E ds) dst Q)) : wpOps P ro ops (⟨dst, .call ⟨.invoke x name, ⟨args⟩, ts⟩, ty, pos, after, none⟩ :: rest) (mkA N E ds) H Q := by
  rw [w_op rfl rfl]
  simp only [opA, invoke_enter hx ha hi, nextA]
  exact h
end
end Go.Ax

/- Walks over abstract heaps: append within a slice's capacity, to nil, of noughts; cap; slices from the begin. -/
namespace Go.Ax
section
variable {P : Program} {H : AHeap}

theorem app_in {st xt e : TypeId} {sz by1 m off k cap n : Nat} {sp : Option Nat} {z x : Value} {new : List Value} (hu : P.underlying st = some (.slice e)) (hsz : szOf P e = some sz) (hby : bytesOf P e = some by1) (hz : zeroOf P e = some z) (hzl : z.cells.toList.length = sz) (hi : intTy P xt = some false)
    (hx : lenV x = some n) (hf : firstC H sz n x = some new) (hl : new.length = n * sz) (hc : k + n ≤ cap) (hsm : small (k + n) by1 = true) :
    aBuiltin P H .append ⟨[st, xt]⟩ [.slice (some ⟨m, off, sp⟩) k cap, x] = (aWrite H m (off + k * sz) new).map fun g => (.slice (some ⟨m, off, sp⟩) (k + n) cap, g) := by
  simp only [aBuiltin, aAppend, hu, hsz, hby, hz, hi, Option.bind_eq_bind, Option.bind_some, hx, hf, hl, hzl, hsm, and_self, if_true, aAppend2, hc]
  cases aWrite H m (off + k * sz) new <;> rfl

theorem app_nn {st xt e : TypeId} {sz by1 : Nat} {z x : Value} (hu : P.underlying st = some (.slice e)) (hsz : szOf P e = some sz) (hby : bytesOf P e = some by1) (hz : zeroOf P e = some z) (hzl : z.cells.toList.length = sz) (hi : intTy P xt = some false)
    (hx : lenV x = some 0) (hf : firstC H sz 0 x = some []) :
    aBuiltin P H .append ⟨[st, xt]⟩ [.slice none 0 0, x] = some (.slice none 0 0, H) := by
  have hsm : small (0 + 0) by1 = true := by simp [small]
  simp only [aBuiltin, aAppend, hu, hsz, hby, hz, hi, Option.bind_eq_bind, Option.bind_some, hx, hf, List.length_nil, Nat.zero_mul, hzl, hsm, and_self, if_true, aAppend2, Nat.le_refl, Nat.zero_add]

theorem app_zero {st xt e : TypeId} {sz by1 n : Nat} {z : Value} (hu : P.underlying st = some (.slice e)) (hsz : szOf P e = some sz) (hby : bytesOf P e = some by1) (hz : zeroOf P e = some z) (hzl : z.cells.toList.length = sz) (hi : intTy P xt = some true)
    (hn : 0 < n) (ho : (zerosL z.cells.toList n).all one = true) (hsm : small n by1 = true) :
    aBuiltin P H .append ⟨[st, xt]⟩ [.slice none 0 0, .int .i64 (n : Int)] = (aNew H e (zerosL z.cells.toList n) true).map fun g => (.slice (some ⟨H.next, 0, none⟩) n n, g) := by
  have h0 : (0 : Int) ≤ (n : Int) := by omega
  simp only [aBuiltin, aAppend, hu, hsz, hby, hz, hi, Option.bind_eq_bind, Option.bind_some, hzl, Int.toNat_natCast, Nat.zero_add, hsm, h0, and_self, if_true, aAppend2]
  rw [if_neg (by omega)]
  simp only [firstC, Option.bind_some, List.length_nil, Nat.zero_mul, List.all_nil, ho, decide_true, Bool.and_self, if_true, List.nil_append]
  cases aNew H e (zerosL z.cells.toList n) true <;> rfl

theorem bt_capN {t e : TypeId} {l c : Nat} (h : P.underlying t = some (.slice e)) : aBuiltin P H .cap ⟨[t]⟩ [.slice none l c] = some (goInt c, H) := by
  simp only [aBuiltin, aCap, h, Option.map_some]

theorem sl_nil {t e : TypeId} {sz l c : Nat} (h : P.underlying t = some (.slice e)) (hs : szOf P e = some sz) : aSlice P H t (.slice none l c) none (some (.int .i64 0)) none = some (.slice none 0 c, H) := by
  simp only [aSlice, h, hs, Option.bind_eq_bind, Option.bind_some, aSlice2, bound, Int.le_refl, if_true, Int.toNat_zero, Nat.zero_le, and_self, Nat.sub_zero]

theorem sl_open {t e : TypeId} {sz n off l c : Nat} {b : Bl} (h : P.underlying t = some (.slice e)) (hs : szOf P e = some sz) (hb : bk H n = some b) (ho : b.o = true) : aSlice P H t (.slice (some ⟨n, off, none⟩) l c) none (some (.int .i64 0)) none = some (.slice (some ⟨n, off, none⟩) 0 c, H) := by
  simp only [aSlice, h, hs, Option.bind_eq_bind, Option.bind_some, aSlice2, bound, Int.le_refl, if_true, Int.toNat_zero, Nat.zero_le, and_self, exactAt, isOpen_bk hb, ho, Option.map_some, Bool.not_true]

theorem zerosL_length {z : List Value} : ∀ n, (zerosL z n).length = n * z.length
  | 0 => by simp [zerosL]
  | n + 1 => by simp only [zerosL, List.length_append, zerosL_length n, Nat.succ_mul]; omega
theorem zerosL_one {z : List Value} (h : z.all one = true) : ∀ n, (zerosL z n).all one = true
  | 0 => rfl
  | n + 1 => by simp only [zerosL, List.all_append, h, zerosL_one h n, Bool.and_self]
theorem zerosL_sc {z : List Value} {N : Nat} (h : scbL N z = true) : ∀ n, scbL N (zerosL z n) = true
  | 0 => rfl
  | n + 1 => scbL_append h (zerosL_sc h n)
theorem zerosL_drop {z : List Value} : ∀ n k, (zerosL z n).drop (k * z.length) = zerosL z (n - k)
  | n, 0 => by simp
  | 0, k + 1 => by simp [zerosL]
  | n + 1, k + 1 => by
    rw [show (k + 1) * z.length = z.length + k * z.length by rw [Nat.succ_mul]; omega, ← List.drop_drop]
    simp only [zerosL, List.drop_left, Nat.reduceSubDiff]
    exact zerosL_drop n k

theorem genV_modO {N : Nat} {E : Env} {ds : List Deferred} {ops : Array Oper} {anc : List Nat} {o : Oper} {W : List Nat} {rest : List Oper} {i : Nat} {fps : List Fp} {Q : AAct → AHeap → Prop} {v : Value} {g : AHeap}
    (F : List Nat) (hok : H.base ≤ H.next) (hF : ∀ n ∈ F, H.get n ≠ none) (hlt : ∀ n ∈ F, n < H.next) (hW : ∀ n ∈ W, n ∈ F)
    (hc : OpS P (mkA N E ds) (H.restrict F) o (.ok v) g) (hmod : Mod W (H.restrict F) g)
    (hm : ∀ r ∈ fps, (anc.getD i 0).testBit r.i = true ∨ (r.hi ≤ r.lo ∧ (∀ n ∈ r.W, n ∉ F) ∧ (∀ n ∈ r.F, n ∉ W)))
    (h : ∀ H' D, Mod W H H' → (∀ n ∈ F, H'.get n = g.get n) → (∀ n, H.next ≤ n → n < g.next → H'.get n = g.get n) → H'.next = g.next → (∀ n ∈ D, n ∈ W) → wkD P ops anc rest (i + 1) (⟨i, F, D, H.next, g.next⟩ :: fps) ((mkA N E ds).put o.dst v) H' Q) :
    genV P ops anc o rest i fps (mkA N E ds) H Q := by
  have hn := restrict_next H F
  have hd : ∀ n ∈ g.dirty, n ∈ W := by
    intro n hg
    rcases hmod.dirty n hg with h | h
    · rw [hn.2.2] at h; cases h
    · exact h.1
  have hle : H.next ≤ g.next := by have := hmod.next; rw [hn.1] at this; exact this
  have hgF : ∀ n ∈ F, (H.merge g).get n = g.get n := by
    intro n hnF
    by_cases hgd : n ∈ g.dirty
    · exact merge_pos H g hle (.inl hgd)
    · rw [merge_neg H g hle]
      · rw [hmod.keep n (by rw [hn.2.1]; exact hlt n hnF) hgd, restrict_get, if_pos hnF]
      · rintro (h' | h')
        · exact hgd h'
        · have := hlt n hnF; omega
  have hmf := merge_facts H g
  refine ⟨F, v, g, ?_, hF, fun n h' => hW n (hd n h'), fun r hr => fpOk_of ?_, ?_⟩
  · exact hc
  · rcases hm r hr with h' | ⟨h1, h2, h3⟩
    · exact .inl h'
    · exact .inr ⟨h2, fun n hnr hng => h3 n hnr (hd n hng), fun hlt' => absurd hlt' (by omega)⟩
  · refine h (H.merge g) g.dirty ⟨by rw [hmf.1]; exact hle, hmf.2.1, fun n hnl hnW => ?_, hmf.2.2.1, fun n hnd => ?_, fun n hnb hnd => ?_⟩ hgF (fun n h1 h2 => merge_pos H g hle (.inr ⟨h1, h2⟩)) hmf.1 hd
    · rw [merge_neg H g hle]
      rintro (h' | h')
      · exact hnW (hd n h')
      · omega
    · rcases merge_dirtW H g n hnd with h' | h'
      · exact .inl h'
      · exact .inr ⟨hd n h'.1, h'.2⟩
    · by_cases hgd : n ∈ g.dirty
      · exact absurd (hmf.2.2.2 n hgd hnb) hnd
      · rw [merge_neg H g hle]
        rintro (h' | h')
        · exact hgd h'
        · omega

theorem wd_app {N : Nat} {E : Env} {ds : List Deferred} {ops : Array Oper} {anc : List Nat} {ty : TypeId} {pos : String} {after : Array Edge} {rest : List Oper} {i : Nat} {fps : List Fp} {Q : AAct → AHeap → Prop} {args : List Operand} {ts : Array TypeId} {dst : Option Nat} (ha : args.all (opOk P N) = true) : wkD P ops anc (⟨dst, .call ⟨.builtin .append, ⟨args⟩, ts⟩, ty, pos, after, none⟩ :: rest) i fps (mkA N E ds) H Q = genV P ops anc ⟨dst, .call ⟨.builtin .append, ⟨args⟩, ts⟩, ty, pos, after, none⟩ rest i fps (mkA N E ds) H Q := by
  simp only [wkD, wantA, stepD, pureOp, restD, newOp, genV, aevals_opv ha, btD, regBt]

theorem app_op {N : Nat} {E : Env} {ds : List Deferred} {ty : TypeId} {pos : String} {after : Array Edge} {args : List Operand} {ts : Array TypeId} {dst : Option Nat} {v : Value} {G : AHeap} (ha : args.all (opOk P N) = true) (h : aBuiltin P H .append ts (args.map (opv E)) = some (v, G)) : OpS P (mkA N E ds) H ⟨dst, .call ⟨.builtin .append, ⟨args⟩, ts⟩, ty, pos, after, none⟩ (.ok v) G :=
  opS_of (x := .value v) (g := G) (by simp only [aop, xCall, aevals_opv ha, Option.bind_eq_bind, Option.bind_some, h, rvh, Option.map_some]) ⟨rfl, rfl⟩

theorem genV_extO {N : Nat} {E : Env} {ds : List Deferred} {ops : Array Oper} {anc : List Nat} {o : Oper} {d : Nat} {rest : List Oper} {i : Nat} {fps : List Fp} {Q : AAct → AHeap → Prop} {v : Value} {M : List Bl} (F : List Nat) (hdst : o.dst = some d) (hd : d < N) (hF : ∀ n ∈ F, H.get n ≠ none)
    (hc : ∀ G : AHeap, G.next = H.next → (∀ n ∈ F, G.get n = H.get n) → OpS P (mkA N E ds) G o (.ok v) (ext G M)) (hm : ∀ r ∈ fps, Meets (anc.getD i 0) F [] (idsV v ++ M.flatMap fun x => idsL x.l) r)
    (h : wkD P ops anc rest (i + 1) (⟨i, F, [], H.next, H.next + M.length⟩ :: fps) (mkA N (upd E d v) ds) (ext H M) Q) : genV P ops anc o rest i fps (mkA N E ds) H Q := by
  have hn := restrict_next H F
  have hd' : (ext (H.restrict F) M).dirty = [] := by rw [ext_dirty, hn.2.2]
  have hnx : (ext (H.restrict F) M).next = H.next + M.length := by rw [ext_next, hn.1]
  have hget : ∀ j, j < M.length → (ext (H.restrict F) M).get (H.next + j) = M[j]?.map Bl.obj := by
    intro j hj
    rw [← hn.1]
    exact ext_get_new hj
  have hmn : ∀ (M : List Bl) (K g : AHeap) (m : Nat), K.next = m → (∀ j, j < M.length → g.get (m + j) = M[j]?.map Bl.obj) → ∀ h', h' = AHeap.mergeN K g m M.length → (⟨h'.root, m + M.length, h'.base, h'.dirty⟩ : AHeap) = ext K M := by
    intro M
    induction M with
    | nil => intro K g m hK _ h' hh; subst hK; subst hh; rfl
    | cons x M ih =>
      intro K g m hK hg h' hh
      have h0 := hg 0 (by simp)
      simp only [Nat.add_zero, List.getElem?_cons_zero, Option.map_some] at h0
      rw [List.length_cons] at hh
      simp only [AHeap.mergeN, h0] at hh
      have := ih (nw K x.e x.l x.o) g (m + 1) (by rw [nw_next, hK]) (fun j hj => by
        have := hg (j + 1) (by simpa using hj)
        simp only [List.getElem?_cons_succ] at this
        rw [show m + 1 + j = m + (j + 1) by omega]
        exact this) (AHeap.mergeN (nw K x.e x.l x.o) g (m + 1) M.length) rfl
      have key : ∀ (A B : AHeap) (n k : Nat), A.root = B.root → A.base = B.base → A.dirty = B.dirty → (AHeap.mergeN A g n k).root = (AHeap.mergeN B g n k).root ∧ (AHeap.mergeN A g n k).base = (AHeap.mergeN B g n k).base ∧ (AHeap.mergeN A g n k).dirty = (AHeap.mergeN B g n k).dirty := by
        intro A B n k
        induction k generalizing A B n with
        | zero => exact fun h1 h2 h3 => ⟨h1, h2, h3⟩
        | succ k ihk =>
          intro h1 h2 h3
          simp only [AHeap.mergeN]
          exact ihk _ _ _ (by simp only [AHeap.put, h1]) h2 h3
      have k2 := key (nw K x.e x.l x.o) (K.put m (some x.obj)) (m + 1) M.length (by simp only [nw, AHeap.new, AHeap.put, hK, Bl.obj]) rfl rfl
      rw [ext, ← this, hh, k2.1, k2.2.1, k2.2.2, List.length_cons, show m + (M.length + 1) = m + 1 + M.length by omega]
  have hmg : H.merge (ext (H.restrict F) M) = ext H M := by
    unfold AHeap.merge
    rw [hd', hnx, Nat.add_sub_cancel_left]
    simp only [AHeap.mergeW]
    exact hmn M H _ H.next rfl hget _ rfl
  refine ⟨F, v, ext (H.restrict F) M, ?_, hF, (by rw [hd']; simp), fun r hr => fpOk_of ?_, ?_⟩
  · exact hc _ hn.1 (fun n hn' => by rw [restrict_get, if_pos hn'])
  · have hids : ∀ (k s : Nat), s + k = M.length → (rangeFrom (H.next + s) k).flatMap (idsAt (ext (H.restrict F) M)) = (M.drop s).flatMap fun x => idsL x.l := by
      intro k
      induction k with
      | zero => intro s hs; rw [rangeFrom, List.drop_eq_nil_of_le (by omega)]; rfl
      | succ k ih =>
        intro s hs
        have hlt : s < M.length := by omega
        rw [rangeFrom, List.flatMap_cons, List.drop_eq_getElem_cons hlt, List.flatMap_cons]
        have := ih (s + 1) (by omega)
        rw [show H.next + (s + 1) = H.next + s + 1 by omega] at this
        rw [this]
        congr 1
        simp only [idsAt, hget s hlt, List.getElem?_eq_getElem hlt, Option.map_some, Bl.obj, idsO, RV.n_ofList, RV.gets_ofList]
    have := hids M.length 0 (by omega)
    simp only [Nat.add_zero, List.drop_zero] at this
    rw [hd']
    simp only [outIds, hd', hnx, Nat.add_sub_cancel_left, List.nil_append, this]
    exact hm r hr
  · rw [hmg, hd', hnx]
    simp only [hdst, put_some N E ds d v hd]
    exact h

theorem putL_at : ∀ (pre old new : List Value), new.length ≤ old.length → putL (pre ++ old) pre.length new = pre ++ (new ++ old.drop new.length)
  | [], old, new, h => by
    simp only [List.nil_append, List.length_nil]
    induction new generalizing old with
    | nil => cases old <;> rfl
    | cons y ys ih =>
      cases old with
      | nil => simp at h
      | cons x xs =>
        simp only [List.length_cons, Nat.add_le_add_iff_right] at h
        simp only [putL, ih xs h, List.length_cons, List.drop_succ_cons, List.cons_append]
  | p :: pre, old, new, h => by
    simp only [List.cons_append, List.length_cons, putL, putL_at pre old new h]

end
section
variable {P : Program} {ro : Option Nat} {H : AHeap} {N : Nat} {E : Env} {ds : List Deferred}
variable {ops : Array Oper} {anc : List Nat} {d : Nat} {ty : TypeId} {pos : String} {after : Array Edge} {rest : List Oper} {i : Nat} {fps : List Fp} {Q : AAct → AHeap → Prop}
theorem wd_not {x : Operand} {t : TypeId} (hx : opOk P N x = true) (hd : d < N) (h : (notV (opv E x)).isSome = true) : wkD P ops anc (⟨some d, .unOp .not t x, ty, pos, after, none⟩ :: rest) i fps (mkA N E ds) H Q = valD P ops anc rest i fps N E ds d H Q (notV (opv E x)) :=
  wd_rv rfl (by
    simp only [aop, xUn, aeval_opv hx, Option.bind_eq_bind, Option.bind_some]
    cases hv : opv E x with
    | bool b => rfl
    | _ => rw [hv] at h; cases h) hd
theorem guardC_un {N : Nat} {E : Env} {ds : List Deferred} {ro : Option Nat} {ops : Array Oper} {o : Oper} {rest : List Oper} {Q : Exit → AAct → AHeap → Prop} {want : Bool} : guardC P ro ops o rest N E ds H Q want undef = wpOps P ro ops rest ((mkA N E ds).put o.dst undef) H Q := by simp only [guardC, undef]
theorem guardV_un {N : Nat} {E : Env} {ds : List Deferred} {ops : Array Oper} {anc : List Nat} {o : Oper} {rest : List Oper} {i : Nat} {fps : List Fp} {Q : AAct → AHeap → Prop} {want : Bool} : guardV P ops anc o rest i fps N E ds H Q want undef = wkD P ops anc rest (i + 1) fps ((mkA N E ds).put o.dst undef) H Q := by simp only [guardV, undef]

end
end Go.Ax

/- The lists of rewriting rules, by a program of ours (wip/tools/lists.py). -/
namespace Go.Ax
theorem m_bind_some {α β : Type} (a : α) (f : α → Option β) : (some a).bind f = f a := rfl
theorem m_map_some {α β : Type} (a : α) (f : α → β) : (some a).map f = some (f a) := rfl
theorem m_map_cons {α β : Type} (f : α → β) (a : α) (l : List α) : (a :: l).map f = f a :: l.map f := rfl
theorem m_map_nil {α β : Type} (f : α → β) : ([] : List α).map f = [] := rfl
theorem m_getElem_cons_zero {α : Type} (a : α) (l : List α) : (a :: l)[0]? = some a := rfl
theorem m_getElem_cons_succ {α : Type} (a : α) (l : List α) (i : Nat) : (a :: l)[i + 1]? = l[i]? := List.getElem?_cons_succ
theorem m_ne_eq {α : Type} (a b : α) : (a ≠ b) = ¬ a = b := rfl
theorem m_not_false_eq_true : (¬ False) = True := not_false_eq_true
theorem m_not_false : (!false) = true := rfl
theorem m_not_true : (!true) = false := rfl
theorem m_length_cons {α : Type} (a : α) (l : List α) : (a :: l).length = l.length + 1 := rfl
theorem m_length_nil {α : Type} : ([] : List α).length = 0 := rfl
theorem m_set_cons_zero {α : Type} (a b : α) (l : List α) : (a :: l).set 0 b = b :: l := rfl
theorem m_set_cons_succ {α : Type} (a b : α) (l : List α) (i : Nat) : (a :: l).set (i + 1) b = a :: l.set i b := rfl
theorem m_nil_append {α : Type} (l : List α) : [] ++ l = l := rfl
theorem m_cons_append {α : Type} (a : α) (l m : List α) : (a :: l) ++ m = a :: (l ++ m) := rfl
theorem m_drop_succ_cons {α : Type} (a : α) (l : List α) (i : Nat) : (a :: l).drop (i + 1) = l.drop i := rfl
theorem m_drop_zero {α : Type} (l : List α) : l.drop 0 = l := rfl
theorem m_take_succ_cons {α : Type} (a : α) (l : List α) (i : Nat) : (a :: l).take (i + 1) = a :: l.take i := rfl
theorem m_take_zero {α : Type} (l : List α) : l.take 0 = [] := List.take_zero
theorem m_if_true {α : Type} (a b : α) : (if True then a else b) = a := if_true a b
theorem m_true_and (p : Prop) : (True ∧ p) = p := true_and p
theorem m_and_true (p : Prop) : (p ∧ True) = p := and_true p
theorem m_or_true (p : Prop) : (p ∨ True) = True := or_true p
theorem m_true_or (p : Prop) : (True ∨ p) = True := true_or p
theorem m_and_self (p : Prop) : (p ∧ p) = p := and_self p
theorem m_implies_true (p : Prop) : (p → True) = True := eq_true fun _ => trivial
theorem m_false_implies (p : Prop) : (False → p) = True := eq_true fun h => h.elim
theorem m_true_implies (p : Prop) : (True → p) = p := propext ⟨fun h => h trivial, fun h _ => h⟩
theorem m_all_true {α : Type} : (α → True) = True := eq_true fun _ => trivial
theorem m_not_true_eq_false : (¬ True) = False := not_true_eq_false
theorem ruU : type_of% (And.intro (And.intro (And.intro (And.intro (And.intro (@upd_same) (@upd_ne)) (And.intro (@ok_tmp) (@ok_int))) (And.intro (And.intro (@ok_bool) (@ok_string)) (And.intro (@ok_nilptr) (@ok_nilslice)))) (And.intro (And.intro (And.intro (@ok_niliface) (@ok_nilmap)) (And.intro (@ok_nilfunc) (@ok_func))) (And.intro (And.intro (@opv_const) (@opv_tmp)) (And.intro (@opv_func) (And.intro (@opv_global) (@all_nil)))))) (And.intro (And.intro (And.intro (And.intro (@all_cons) (@and_tt)) (And.intro (@pok_nil) (@pok_cons))) (And.intro (And.intro (@pmap_nil) (@pmap_cons)) (And.intro (@pairs_ok) (@isSome_some)))) (And.intro (And.intro (And.intro (@m_bind_some) (@m_map_cons)) (And.intro (@m_map_nil) (@m_getElem_cons_zero))) (And.intro (And.intro (@m_getElem_cons_succ) (@m_ne_eq)) (And.intro (@m_not_false_eq_true) (And.intro (@m_not_false) (@m_not_true))))))) :=
  And.intro (And.intro (And.intro (And.intro (And.intro (@upd_same) (@upd_ne)) (And.intro (@ok_tmp) (@ok_int))) (And.intro (And.intro (@ok_bool) (@ok_string)) (And.intro (@ok_nilptr) (@ok_nilslice)))) (And.intro (And.intro (And.intro (@ok_niliface) (@ok_nilmap)) (And.intro (@ok_nilfunc) (@ok_func))) (And.intro (And.intro (@opv_const) (@opv_tmp)) (And.intro (@opv_func) (And.intro (@opv_global) (@all_nil)))))) (And.intro (And.intro (And.intro (And.intro (@all_cons) (@and_tt)) (And.intro (@pok_nil) (@pok_cons))) (And.intro (And.intro (@pmap_nil) (@pmap_cons)) (And.intro (@pairs_ok) (@isSome_some)))) (And.intro (And.intro (And.intro (@m_bind_some) (@m_map_cons)) (And.intro (@m_map_nil) (@m_getElem_cons_zero))) (And.intro (And.intro (@m_getElem_cons_succ) (@m_ne_eq)) (And.intro (@m_not_false_eq_true) (And.intro (@m_not_false) (@m_not_true))))))
theorem ruW : type_of% (And.intro (And.intro (And.intro (And.intro (And.intro (And.intro (And.intro (@w_gd) (@gdC_some)) (And.intro (@guardC_true) (And.intro (@guardC_ff) (@guardC_tt)))) (And.intro (And.intro (@guardC_un) (@put_at)) (And.intro (@dst_list) (And.intro (@w_seq) (@w_region))))) (And.intro (And.intro (And.intro (@w_move) (@w_assign)) (And.intro (@w_nil) (And.intro (@w_cond) (@w_ret)))) (And.intro (And.intro (@w_skip) (And.intro (@w_exit) (@w_block))) (And.intro (@w_typeAssert) (And.intro (@w_extract) (@w_not)))))) (And.intro (And.intro (And.intro (And.intro (@w_neg) (@w_build)) (And.intro (@w_call) (And.intro (@w_builtin) (@w_bin)))) (And.intro (And.intro (@w_nilCheck) (And.intro (@w_fieldAddr) (@w_field))) (And.intro (@w_indexAddr) (And.intro (@w_index) (@w_load))))) (And.intro (And.intro (And.intro (@w_store) (@w_box)) (And.intro (@w_alloc) (And.intro (@w_buildSlice) (@w_makeSlice)))) (And.intro (And.intro (@w_slice) (And.intro (@bnds_none) (@bnds_some))) (And.intro (@bndsOk_none) (And.intro (@bndsOk_some) (@w_pick))))))) (And.intro (And.intro (And.intro (And.intro (And.intro (@w_iface) (@w_func)) (And.intro (@valC_some) (And.intro (@heapC_some) (@heapC_skip)))) (And.intro (And.intro (@storeC_some) (@seqC_normal)) (And.intro (@seqC_ret) (And.intro (@seqC_exit) (@blockC_normal))))) (And.intro (And.intro (And.intro (@blockC_ret) (@blockC_exit)) (And.intro (@loopC_exit) (And.intro (@loopC_ret) (@condC_true)))) (And.intro (And.intro (@condC_false) (And.intro (@endA_ret) (@endA_normal))) (And.intro (@opC_ok) (And.intro (@opC_skip) (@exV_tuple)))))) (And.intro (And.intro (And.intro (And.intro (@notV_bool) (@negV_int)) (And.intro (@nilW_ptr) (And.intro (@pickV_true) (@pickV_false)))) (And.intro (And.intro (@bin_add) (And.intro (@bin_sub) (@bin_mul))) (And.intro (@bin_quo) (And.intro (@bin_rem) (@bin_eql))))) (And.intro (And.intro (And.intro (@bin_neq) (@bin_lss)) (And.intro (@bin_leq) (And.intro (@bin_gtr) (@bin_geq)))) (And.intro (And.intro (@bin_eqb) (And.intro (@bin_neb) (@bt_max))) (And.intro (@bt_min) (And.intro (@bt_lenS) (@lenS_slice)))))))) (And.intro (And.intro (And.intro (And.intro (And.intro (And.intro (@lenR_slice) (@go_int)) (And.intro (@new_nw) (And.intro (@ext_append) (@ext_next)))) (And.intro (And.intro (@ext_base) (@load_bk)) (And.intro (@orr_some) (And.intro (@bk_at) (@bk_old))))) (And.intro (And.intro (And.intro (@ld_one) (@ld_agg)) (And.intro (@store_new) (And.intro (@store_old) (@stB_ok)))) (And.intro (And.intro (@uw_next) (And.intro (@uw_base) (@bk_uw_ne))) (And.intro (@bk_uw_eq) (And.intro (@putB_eq) (@allocV_some)))))) (And.intro (And.intro (And.intro (And.intro (@new_ext) (@m_map_some)) (And.intro (@cells_int) (And.intro (@cells_bool) (@cells_ptr)))) (And.intro (And.intro (@cells_slice) (And.intro (@cells_iface) (@cells_niliface))) (And.intro (@cells_string) (And.intro (@cells_func) (@cells_nilfunc))))) (And.intro (And.intro (And.intro (@cells_agg) (@allOne_nil)) (And.intro (@allOne_cons) (And.intro (@one_int) (@one_bool)))) (And.intro (And.intro (@one_ptr) (And.intro (@one_slice) (@one_iface))) (And.intro (@one_niliface) (And.intro (@one_string) (@one_func))))))) (And.intro (And.intro (And.intro (And.intro (And.intro (@one_nilfunc) (@sc_nil)) (And.intro (@sc_cons) (And.intro (@sc_int) (@sc_bool)))) (And.intro (And.intro (@sc_string) (And.intro (@sc_nilptr) (@sc_nilslice))) (And.intro (@sc_niliface) (And.intro (@sc_nilfunc) (@sc_iface))))) (And.intro (And.intro (And.intro (@sc_agg) (@sc_tuple)) (And.intro (@sc_func) (And.intro (@sc_yield) (@sc_ptr)))) (And.intro (And.intro (@sc_slice) (And.intro (@sc_add) (@sc_addL))) (And.intro (@lt_new) (And.intro (@lt_old) (@ne_new)))))) (And.intro (And.intro (And.intro (And.intro (@ne_old) (@ne_old')) (And.intro (@add_add) (And.intro (@m_length_cons) (@m_length_nil)))) (And.intro (And.intro (@m_set_cons_zero) (And.intro (@m_set_cons_succ) (@m_nil_append))) (And.intro (@m_cons_append) (And.intro (@m_drop_succ_cons) (@m_drop_zero))))) (And.intro (And.intro (And.intro (@m_take_succ_cons) (@m_take_zero)) (And.intro (@m_if_true) (And.intro (@lv_nil) (@leaveO_some)))) (And.intro (And.intro (@rs_nil) (And.intro (@rs_tmp) (@rs_cell))) (And.intro (@tup_nil) (And.intro (@tup_one) (@tup_two))))))))) :=
  And.intro (And.intro (And.intro (And.intro (And.intro (And.intro (And.intro (@w_gd) (@gdC_some)) (And.intro (@guardC_true) (And.intro (@guardC_ff) (@guardC_tt)))) (And.intro (And.intro (@guardC_un) (@put_at)) (And.intro (@dst_list) (And.intro (@w_seq) (@w_region))))) (And.intro (And.intro (And.intro (@w_move) (@w_assign)) (And.intro (@w_nil) (And.intro (@w_cond) (@w_ret)))) (And.intro (And.intro (@w_skip) (And.intro (@w_exit) (@w_block))) (And.intro (@w_typeAssert) (And.intro (@w_extract) (@w_not)))))) (And.intro (And.intro (And.intro (And.intro (@w_neg) (@w_build)) (And.intro (@w_call) (And.intro (@w_builtin) (@w_bin)))) (And.intro (And.intro (@w_nilCheck) (And.intro (@w_fieldAddr) (@w_field))) (And.intro (@w_indexAddr) (And.intro (@w_index) (@w_load))))) (And.intro (And.intro (And.intro (@w_store) (@w_box)) (And.intro (@w_alloc) (And.intro (@w_buildSlice) (@w_makeSlice)))) (And.intro (And.intro (@w_slice) (And.intro (@bnds_none) (@bnds_some))) (And.intro (@bndsOk_none) (And.intro (@bndsOk_some) (@w_pick))))))) (And.intro (And.intro (And.intro (And.intro (And.intro (@w_iface) (@w_func)) (And.intro (@valC_some) (And.intro (@heapC_some) (@heapC_skip)))) (And.intro (And.intro (@storeC_some) (@seqC_normal)) (And.intro (@seqC_ret) (And.intro (@seqC_exit) (@blockC_normal))))) (And.intro (And.intro (And.intro (@blockC_ret) (@blockC_exit)) (And.intro (@loopC_exit) (And.intro (@loopC_ret) (@condC_true)))) (And.intro (And.intro (@condC_false) (And.intro (@endA_ret) (@endA_normal))) (And.intro (@opC_ok) (And.intro (@opC_skip) (@exV_tuple)))))) (And.intro (And.intro (And.intro (And.intro (@notV_bool) (@negV_int)) (And.intro (@nilW_ptr) (And.intro (@pickV_true) (@pickV_false)))) (And.intro (And.intro (@bin_add) (And.intro (@bin_sub) (@bin_mul))) (And.intro (@bin_quo) (And.intro (@bin_rem) (@bin_eql))))) (And.intro (And.intro (And.intro (@bin_neq) (@bin_lss)) (And.intro (@bin_leq) (And.intro (@bin_gtr) (@bin_geq)))) (And.intro (And.intro (@bin_eqb) (And.intro (@bin_neb) (@bt_max))) (And.intro (@bt_min) (And.intro (@bt_lenS) (@lenS_slice)))))))) (And.intro (And.intro (And.intro (And.intro (And.intro (And.intro (@lenR_slice) (@go_int)) (And.intro (@new_nw) (And.intro (@ext_append) (@ext_next)))) (And.intro (And.intro (@ext_base) (@load_bk)) (And.intro (@orr_some) (And.intro (@bk_at) (@bk_old))))) (And.intro (And.intro (And.intro (@ld_one) (@ld_agg)) (And.intro (@store_new) (And.intro (@store_old) (@stB_ok)))) (And.intro (And.intro (@uw_next) (And.intro (@uw_base) (@bk_uw_ne))) (And.intro (@bk_uw_eq) (And.intro (@putB_eq) (@allocV_some)))))) (And.intro (And.intro (And.intro (And.intro (@new_ext) (@m_map_some)) (And.intro (@cells_int) (And.intro (@cells_bool) (@cells_ptr)))) (And.intro (And.intro (@cells_slice) (And.intro (@cells_iface) (@cells_niliface))) (And.intro (@cells_string) (And.intro (@cells_func) (@cells_nilfunc))))) (And.intro (And.intro (And.intro (@cells_agg) (@allOne_nil)) (And.intro (@allOne_cons) (And.intro (@one_int) (@one_bool)))) (And.intro (And.intro (@one_ptr) (And.intro (@one_slice) (@one_iface))) (And.intro (@one_niliface) (And.intro (@one_string) (@one_func))))))) (And.intro (And.intro (And.intro (And.intro (And.intro (@one_nilfunc) (@sc_nil)) (And.intro (@sc_cons) (And.intro (@sc_int) (@sc_bool)))) (And.intro (And.intro (@sc_string) (And.intro (@sc_nilptr) (@sc_nilslice))) (And.intro (@sc_niliface) (And.intro (@sc_nilfunc) (@sc_iface))))) (And.intro (And.intro (And.intro (@sc_agg) (@sc_tuple)) (And.intro (@sc_func) (And.intro (@sc_yield) (@sc_ptr)))) (And.intro (And.intro (@sc_slice) (And.intro (@sc_add) (@sc_addL))) (And.intro (@lt_new) (And.intro (@lt_old) (@ne_new)))))) (And.intro (And.intro (And.intro (And.intro (@ne_old) (@ne_old')) (And.intro (@add_add) (And.intro (@m_length_cons) (@m_length_nil)))) (And.intro (And.intro (@m_set_cons_zero) (And.intro (@m_set_cons_succ) (@m_nil_append))) (And.intro (@m_cons_append) (And.intro (@m_drop_succ_cons) (@m_drop_zero))))) (And.intro (And.intro (And.intro (@m_take_succ_cons) (@m_take_zero)) (And.intro (@m_if_true) (And.intro (@lv_nil) (@leaveO_some)))) (And.intro (And.intro (@rs_nil) (And.intro (@rs_tmp) (@rs_cell))) (And.intro (@tup_nil) (And.intro (@tup_one) (@tup_two))))))))
theorem ruD : type_of% (And.intro (And.intro (And.intro (And.intro (And.intro (And.intro (@wd_store) (@storeV_some)) (And.intro (@wd_alloc) (And.intro (@wd_box) (@wd_buildSlice)))) (And.intro (And.intro (@newV_some) (And.intro (@wd_builtin) (@rb_max))) (And.intro (@rb_min) (And.intro (@rb_lenS) (@wd_gd))))) (And.intro (And.intro (And.intro (@gdV_some) (@guardV_true)) (And.intro (@guardV_ff) (And.intro (@guardV_tt) (@guardV_un)))) (And.intro (And.intro (@wd_move) (And.intro (@wd_assign) (@wd_nil))) (And.intro (@wd_not) (And.intro (@wd_nilCheck) (@wd_fieldAddr)))))) (And.intro (And.intro (And.intro (And.intro (@wd_field) (@wd_indexAddr)) (And.intro (@wd_load) (And.intro (@wd_call) (@wd_typeAssert)))) (And.intro (And.intro (@wd_extract) (And.intro (@wd_build) (@wd_pick))) (And.intro (@wd_iface) (And.intro (@wd_bin) (@reg_add))))) (And.intro (And.intro (And.intro (@reg_sub) (@reg_mul)) (And.intro (@reg_quo) (And.intro (@reg_rem) (@reg_lss)))) (And.intro (And.intro (@reg_leq) (And.intro (@reg_gtr) (@reg_geq))) (And.intro (@reg_eql) (And.intro (@reg_neq) (@reg_eqb))))))) (And.intro (And.intro (And.intro (And.intro (And.intro (@reg_neb) (@valD_some)) (And.intro (@loadV_some) (And.intro (@plainPtr_eq) (@ptrB_eq)))) (And.intro (And.intro (@wd_index) (And.intro (@idsOk_nil) (@idsOk_quiet))) (And.intro (@idsOk_empty) (And.intro (@ids_int) (@ids_bool))))) (And.intro (And.intro (And.intro (@ids_func) (@ids_nil)) (And.intro (@ids_ptr) (And.intro (@meets_nil) (@meets_quiet)))) (And.intro (And.intro (@m_true_and) (And.intro (@idsOk_anc) (@idsOk_new))) (And.intro (@m_false_implies) (And.intro (@m_true_implies) (@meets_anc)))))) (And.intro (And.intro (And.intro (And.intro (@meets_bit) (@meets_cons)) (And.intro (@meets_eq) (And.intro (@meets_newer) (@ids_at)))) (And.intro (And.intro (@idsB_eq) (And.intro (@ids_iface) (@ids_agg))) (And.intro (@idsL_nil) (And.intro (@idsL_cons) (@le_new))))) (And.intro (And.intro (And.intro (@all2_nil) (And.intro (@all2_cons) (@nmem_one))) (And.intro (@nmem_nil) (And.intro (@nmem_cons) (@m_not_true_eq_false)))) (And.intro (And.intro (@m_implies_true) (And.intro (@m_and_true) (@m_or_true))) (And.intro (@m_true_or) (And.intro (@m_and_self) (@m_all_true)))))))) :=
  And.intro (And.intro (And.intro (And.intro (And.intro (And.intro (@wd_store) (@storeV_some)) (And.intro (@wd_alloc) (And.intro (@wd_box) (@wd_buildSlice)))) (And.intro (And.intro (@newV_some) (And.intro (@wd_builtin) (@rb_max))) (And.intro (@rb_min) (And.intro (@rb_lenS) (@wd_gd))))) (And.intro (And.intro (And.intro (@gdV_some) (@guardV_true)) (And.intro (@guardV_ff) (And.intro (@guardV_tt) (@guardV_un)))) (And.intro (And.intro (@wd_move) (And.intro (@wd_assign) (@wd_nil))) (And.intro (@wd_not) (And.intro (@wd_nilCheck) (@wd_fieldAddr)))))) (And.intro (And.intro (And.intro (And.intro (@wd_field) (@wd_indexAddr)) (And.intro (@wd_load) (And.intro (@wd_call) (@wd_typeAssert)))) (And.intro (And.intro (@wd_extract) (And.intro (@wd_build) (@wd_pick))) (And.intro (@wd_iface) (And.intro (@wd_bin) (@reg_add))))) (And.intro (And.intro (And.intro (@reg_sub) (@reg_mul)) (And.intro (@reg_quo) (And.intro (@reg_rem) (@reg_lss)))) (And.intro (And.intro (@reg_leq) (And.intro (@reg_gtr) (@reg_geq))) (And.intro (@reg_eql) (And.intro (@reg_neq) (@reg_eqb))))))) (And.intro (And.intro (And.intro (And.intro (And.intro (@reg_neb) (@valD_some)) (And.intro (@loadV_some) (And.intro (@plainPtr_eq) (@ptrB_eq)))) (And.intro (And.intro (@wd_index) (And.intro (@idsOk_nil) (@idsOk_quiet))) (And.intro (@idsOk_empty) (And.intro (@ids_int) (@ids_bool))))) (And.intro (And.intro (And.intro (@ids_func) (@ids_nil)) (And.intro (@ids_ptr) (And.intro (@meets_nil) (@meets_quiet)))) (And.intro (And.intro (@m_true_and) (And.intro (@idsOk_anc) (@idsOk_new))) (And.intro (@m_false_implies) (And.intro (@m_true_implies) (@meets_anc)))))) (And.intro (And.intro (And.intro (And.intro (@meets_bit) (@meets_cons)) (And.intro (@meets_eq) (And.intro (@meets_newer) (@ids_at)))) (And.intro (And.intro (@idsB_eq) (And.intro (@ids_iface) (@ids_agg))) (And.intro (@idsL_nil) (And.intro (@idsL_cons) (@le_new))))) (And.intro (And.intro (And.intro (@all2_nil) (And.intro (@all2_cons) (@nmem_one))) (And.intro (@nmem_nil) (And.intro (@nmem_cons) (@m_not_true_eq_false)))) (And.intro (And.intro (@m_implies_true) (And.intro (@m_and_true) (@m_or_true))) (And.intro (@m_true_or) (And.intro (@m_and_self) (@m_all_true)))))))
end Go.Ax

/- Facts about the types and the functions of the program, by a program of ours (wip/tools/facts.py). -/
namespace Go.Proofs.YtfpckllenkifkaaDoor
open Go.Ax
set_option maxRecDepth 100000

theorem xU4 : Tryd.prog.underlying 4 = some .bool := by kernel_rfl
theorem mixed : Tryd.prog.follows .mixedOrders = true := by kernel_rfl

theorem xFA :
    (∀ n off : Nat, aFieldAddr Tryd.prog 38 (.pointer (some ⟨n, off, none⟩)) 0 = some (.pointer (some ⟨n, off, none⟩))) ∧
    (∀ n off : Nat, aFieldAddr Tryd.prog 38 (.pointer (some ⟨n, off, none⟩)) 1 = some (.pointer (some ⟨n, off + 1, none⟩))) ∧
    (∀ n off : Nat, aFieldAddr Tryd.prog 129 (.pointer (some ⟨n, off, none⟩)) 0 = some (.pointer (some ⟨n, off, none⟩))) ∧
    (∀ n off : Nat, aFieldAddr Tryd.prog 129 (.pointer (some ⟨n, off, none⟩)) 1 = some (.pointer (some ⟨n, off + 1, none⟩))) := by
  refine ⟨?_, ?_, ?_, ?_⟩
  all_goals first | trivial | (intros; kernel_rfl)

theorem xFD :
    (True) := by
  refine ?_
  all_goals first | trivial | (intros; kernel_rfl)

theorem xIA :
    (True) := by
  refine ?_
  all_goals first | trivial | (intros; kernel_rfl)

theorem xSz :
    (szOf Tryd.prog 3 = some 1) ∧
    (aggT Tryd.prog 3 = some false) ∧
    (szOf Tryd.prog 38 = some 5) ∧
    (aggT Tryd.prog 38 = some true) ∧
    (szOf Tryd.prog 68 = some 6) ∧
    (aggT Tryd.prog 68 = some true) ∧
    (szOf Tryd.prog 129 = some 2) ∧
    (aggT Tryd.prog 129 = some true) ∧
    (szOf Tryd.prog 130 = some 14) ∧
    (aggT Tryd.prog 130 = some true) ∧
    (szOf Tryd.prog 131 = some 28) ∧
    (aggT Tryd.prog 131 = some true) ∧
    (szOf Tryd.prog 133 = some 1) ∧
    (aggT Tryd.prog 133 = some false) := by
  refine ⟨?_, ?_, ?_, ?_, ?_, ?_, ?_, ?_, ?_, ?_, ?_, ?_, ?_, ?_⟩
  all_goals first | trivial | (intros; kernel_rfl)

theorem xZ :
    (zeroOf Tryd.prog 3 = some (.int .i64 0)) ∧
    (zeroOf Tryd.prog 38 = some (.agg #[.int .i64 0, .int .i64 0, .bool false, .bool false, .bool false])) ∧
    (zeroOf Tryd.prog 68 = some (.agg #[.int .i64 0, .int .i64 0, .int .i64 0, .bool false, .bool false, .bool false])) ∧
    (zeroOf Tryd.prog 129 = some (.agg #[.int .i64 0, .int .i64 0])) ∧
    (zeroOf Tryd.prog 130 = some (.agg #[.int .i64 0, .int .i64 0, .int .i64 0, .int .i64 0, .int .i64 0, .int .i64 0, .int .i64 0, .int .i64 0, .int .i64 0, .int .i64 0, .int .i64 0, .int .i64 0, .int .i64 0, .int .i64 0])) ∧
    (zeroOf Tryd.prog 131 = some (.agg #[.int .i64 0, .int .i64 0, .int .i64 0, .int .i64 0, .int .i64 0, .int .i64 0, .int .i64 0, .int .i64 0, .int .i64 0, .int .i64 0, .int .i64 0, .int .i64 0, .int .i64 0, .int .i64 0, .int .i64 0, .int .i64 0, .int .i64 0, .int .i64 0, .int .i64 0, .int .i64 0, .int .i64 0, .int .i64 0, .int .i64 0, .int .i64 0, .int .i64 0, .int .i64 0, .int .i64 0, .int .i64 0])) ∧
    (zeroOf Tryd.prog 133 = some (.slice none 0 0)) := by
  refine ⟨?_, ?_, ?_, ?_, ?_, ?_, ?_⟩
  all_goals first | trivial | (intros; kernel_rfl)

theorem xSl :
    (Tryd.prog.underlying 39 = some (.slice 68)) ∧
    (Tryd.prog.underlying 56 = some (.slice 3)) ∧
    (Tryd.prog.underlying 133 = some (.slice 129)) ∧
    (Tryd.prog.underlying 9 = some .string) ∧
    (bytesOf Tryd.prog 3 = some 8) ∧
    (bytesOf Tryd.prog 68 = some 32) ∧
    (bytesOf Tryd.prog 129 = some 16) ∧
    (intTy Tryd.prog 39 = some false) ∧
    (intTy Tryd.prog 56 = some false) ∧
    (intTy Tryd.prog 133 = some false) := by
  refine ⟨?_, ?_, ?_, ?_, ?_, ?_, ?_, ?_, ?_, ?_⟩
  all_goals first | trivial | (intros; kernel_rfl)

theorem xBd :
    (∀ (x1 : Int) (c2_0 c2_1 c2_2 c2_3 c2_4 : Value), aBuild Tryd.prog 68 [(0, .int .i64 x1), (1, .agg #[c2_0, c2_1, c2_2, c2_3, c2_4])] = some (.agg #[.int .i64 x1, c2_0, c2_1, c2_2, c2_3, c2_4])) ∧
    (∀ (x3 : Int) (x4 : Int), aBuild Tryd.prog 129 [(0, .int .i64 x3), (1, .int .i64 x4)] = some (.agg #[.int .i64 x3, .int .i64 x4])) ∧
    (∀ (c5_0 c5_1 : Value) (c6_0 c6_1 : Value) (c7_0 c7_1 : Value) (c8_0 c8_1 : Value) (c9_0 c9_1 : Value) (c10_0 c10_1 : Value) (c11_0 c11_1 : Value), aBuild Tryd.prog 130 [(0, .agg #[c5_0, c5_1]), (1, .agg #[c6_0, c6_1]), (2, .agg #[c7_0, c7_1]), (3, .agg #[c8_0, c8_1]), (4, .agg #[c9_0, c9_1]), (5, .agg #[c10_0, c10_1]), (6, .agg #[c11_0, c11_1])] = some (.agg #[c5_0, c5_1, c6_0, c6_1, c7_0, c7_1, c8_0, c8_1, c9_0, c9_1, c10_0, c10_1, c11_0, c11_1])) ∧
    (∀ (c12_0 c12_1 : Value) (c13_0 c13_1 : Value) (c14_0 c14_1 : Value) (c15_0 c15_1 : Value) (c16_0 c16_1 : Value) (c17_0 c17_1 : Value) (c18_0 c18_1 : Value) (c19_0 c19_1 : Value) (c20_0 c20_1 : Value) (c21_0 c21_1 : Value) (c22_0 c22_1 : Value) (c23_0 c23_1 : Value) (c24_0 c24_1 : Value) (c25_0 c25_1 : Value), aBuild Tryd.prog 131 [(0, .agg #[c12_0, c12_1]), (1, .agg #[c13_0, c13_1]), (2, .agg #[c14_0, c14_1]), (3, .agg #[c15_0, c15_1]), (4, .agg #[c16_0, c16_1]), (5, .agg #[c17_0, c17_1]), (6, .agg #[c18_0, c18_1]), (7, .agg #[c19_0, c19_1]), (8, .agg #[c20_0, c20_1]), (9, .agg #[c21_0, c21_1]), (10, .agg #[c22_0, c22_1]), (11, .agg #[c23_0, c23_1]), (12, .agg #[c24_0, c24_1]), (13, .agg #[c25_0, c25_1])] = some (.agg #[c12_0, c12_1, c13_0, c13_1, c14_0, c14_1, c15_0, c15_1, c16_0, c16_1, c17_0, c17_1, c18_0, c18_1, c19_0, c19_1, c20_0, c20_1, c21_0, c21_1, c22_0, c22_1, c23_0, c23_1, c24_0, c24_1, c25_0, c25_1])) := by
  refine ⟨?_, ?_, ?_, ?_⟩
  all_goals first | trivial | (intros; kernel_rfl)

theorem xBs :
    (∀ H : AHeap, ∀ (c26_0 c26_1 c26_2 c26_3 c26_4 c26_5 : Value), aBuildSlice Tryd.prog H 39 1 [(0, .agg #[c26_0, c26_1, c26_2, c26_3, c26_4, c26_5])] = (aNew H 68 [c26_0, c26_1, c26_2, c26_3, c26_4, c26_5] false).map fun g => (.slice (some ⟨H.next, 0, some 0⟩) 1 1, g)) ∧
    (∀ H : AHeap, ∀ (c27_0 c27_1 c27_2 c27_3 c27_4 c27_5 : Value) (c28_0 c28_1 c28_2 c28_3 c28_4 c28_5 : Value), aBuildSlice Tryd.prog H 39 2 [(0, .agg #[c27_0, c27_1, c27_2, c27_3, c27_4, c27_5]), (1, .agg #[c28_0, c28_1, c28_2, c28_3, c28_4, c28_5])] = (aNew H 68 [c27_0, c27_1, c27_2, c27_3, c27_4, c27_5, c28_0, c28_1, c28_2, c28_3, c28_4, c28_5] false).map fun g => (.slice (some ⟨H.next, 0, some 0⟩) 2 2, g)) ∧
    (∀ H : AHeap, ∀ (x29 : Int), aBuildSlice Tryd.prog H 56 1 [(0, .int .i64 x29)] = (aNew H 3 [.int .i64 x29] false).map fun g => (.slice (some ⟨H.next, 0, some 0⟩) 1 1, g)) ∧
    (∀ H : AHeap, ∀ (x30 : Int) (x31 : Int) (x32 : Int) (x33 : Int) (x34 : Int) (x35 : Int) (x36 : Int) (x37 : Int) (x38 : Int) (x39 : Int) (x40 : Int) (x41 : Int) (x42 : Int) (x43 : Int), aBuildSlice Tryd.prog H 56 14 [(0, .int .i64 x30), (1, .int .i64 x31), (2, .int .i64 x32), (3, .int .i64 x33), (4, .int .i64 x34), (5, .int .i64 x35), (6, .int .i64 x36), (7, .int .i64 x37), (8, .int .i64 x38), (9, .int .i64 x39), (10, .int .i64 x40), (11, .int .i64 x41), (12, .int .i64 x42), (13, .int .i64 x43)] = (aNew H 3 [.int .i64 x30, .int .i64 x31, .int .i64 x32, .int .i64 x33, .int .i64 x34, .int .i64 x35, .int .i64 x36, .int .i64 x37, .int .i64 x38, .int .i64 x39, .int .i64 x40, .int .i64 x41, .int .i64 x42, .int .i64 x43] false).map fun g => (.slice (some ⟨H.next, 0, some 0⟩) 14 14, g)) ∧
    (∀ H : AHeap, ∀ (x44 : Int) (x45 : Int) (x46 : Int) (x47 : Int) (x48 : Int) (x49 : Int) (x50 : Int) (x51 : Int) (x52 : Int) (x53 : Int) (x54 : Int) (x55 : Int) (x56 : Int) (x57 : Int) (x58 : Int) (x59 : Int) (x60 : Int) (x61 : Int) (x62 : Int) (x63 : Int) (x64 : Int) (x65 : Int) (x66 : Int) (x67 : Int) (x68 : Int) (x69 : Int) (x70 : Int) (x71 : Int), aBuildSlice Tryd.prog H 56 28 [(0, .int .i64 x44), (1, .int .i64 x45), (2, .int .i64 x46), (3, .int .i64 x47), (4, .int .i64 x48), (5, .int .i64 x49), (6, .int .i64 x50), (7, .int .i64 x51), (8, .int .i64 x52), (9, .int .i64 x53), (10, .int .i64 x54), (11, .int .i64 x55), (12, .int .i64 x56), (13, .int .i64 x57), (14, .int .i64 x58), (15, .int .i64 x59), (16, .int .i64 x60), (17, .int .i64 x61), (18, .int .i64 x62), (19, .int .i64 x63), (20, .int .i64 x64), (21, .int .i64 x65), (22, .int .i64 x66), (23, .int .i64 x67), (24, .int .i64 x68), (25, .int .i64 x69), (26, .int .i64 x70), (27, .int .i64 x71)] = (aNew H 3 [.int .i64 x44, .int .i64 x45, .int .i64 x46, .int .i64 x47, .int .i64 x48, .int .i64 x49, .int .i64 x50, .int .i64 x51, .int .i64 x52, .int .i64 x53, .int .i64 x54, .int .i64 x55, .int .i64 x56, .int .i64 x57, .int .i64 x58, .int .i64 x59, .int .i64 x60, .int .i64 x61, .int .i64 x62, .int .i64 x63, .int .i64 x64, .int .i64 x65, .int .i64 x66, .int .i64 x67, .int .i64 x68, .int .i64 x69, .int .i64 x70, .int .i64 x71] false).map fun g => (.slice (some ⟨H.next, 0, some 0⟩) 28 28, g)) := by
  refine ⟨?_, ?_, ?_, ?_, ?_⟩
  all_goals first | trivial | (intros; kernel_rfl)

theorem xTA :
    (True) := by
  refine ?_
  all_goals first | trivial | (intros; kernel_rfl)

theorem xMI :
    (∀ v : Value, ifaceW Tryd.prog 9 v = some (.iface 9 v)) := by
  refine ?_
  all_goals first | trivial | (intros; kernel_rfl)

theorem xCm :
    (True) := by
  refine ?_
  all_goals first | trivial | (intros; kernel_rfl)

theorem xHB :
    (hasBody Tryd.prog 4 = true) ∧
    (hasBody Tryd.prog 7 = true) ∧
    (hasBody Tryd.prog 13 = true) ∧
    (hasBody Tryd.prog 14 = true) ∧
    (hasBody Tryd.prog 15 = true) ∧
    (hasBody Tryd.prog 24 = true) ∧
    (hasBody Tryd.prog 36 = true) ∧
    (hasBody Tryd.prog 37 = true) ∧
    (hasBody Tryd.prog 38 = true) ∧
    (hasBody Tryd.prog 39 = true) ∧
    (hasBody Tryd.prog 40 = true) ∧
    (hasBody Tryd.prog 41 = true) ∧
    (hasBody Tryd.prog 43 = true) ∧
    (hasBody Tryd.prog 54 = true) ∧
    (hasBody Tryd.prog 57 = true) ∧
    (hasBody Tryd.prog 58 = true) ∧
    (hasBody Tryd.prog 63 = true) ∧
    (hasBody Tryd.prog 64 = true) ∧
    (hasBody Tryd.prog 65 = true) ∧
    (hasBody Tryd.prog 66 = true) ∧
    (hasBody Tryd.prog 68 = true) ∧
    (hasBody Tryd.prog 90 = true) ∧
    (hasBody Tryd.prog 91 = true) ∧
    (hasBody Tryd.prog 93 = true) ∧
    (hasBody Tryd.prog 94 = true) ∧
    (hasBody Tryd.prog 95 = true) ∧
    (hasBody Tryd.prog 107 = true) ∧
    (hasBody Tryd.prog 108 = true) := by
  refine ⟨?_, ?_, ?_, ?_, ?_, ?_, ?_, ?_, ?_, ?_, ?_, ?_, ?_, ?_, ?_, ?_, ?_, ?_, ?_, ?_, ?_, ?_, ?_, ?_, ?_, ?_, ?_, ?_⟩
  all_goals first | trivial | (intros; kernel_rfl)

theorem xGl :
    (True) := by
  refine ?_
  all_goals first | trivial | (intros; kernel_rfl)

theorem xF : type_of% (And.intro @xFA ( And.intro @xFD ( And.intro @xIA ( And.intro @xSz ( And.intro @xZ ( And.intro @xSl ( And.intro @xBd ( And.intro @xBs ( And.intro @xTA ( And.intro @xMI ( And.intro @xCm ( And.intro @xHB ( And.intro @xGl (@xU4)))))))))))))) :=
  And.intro @xFA ( And.intro @xFD ( And.intro @xIA ( And.intro @xSz ( And.intro @xZ ( And.intro @xSl ( And.intro @xBd ( And.intro @xBs ( And.intro @xTA ( And.intro @xMI ( And.intro @xCm ( And.intro @xHB ( And.intro @xGl (@xU4)))))))))))))

end Go.Proofs.YtfpckllenkifkaaDoor

/- The executor at work: a call that it walks to 'true' answers true, and keeps all that was. -/
namespace Go.Ax

def Ren.same : Ren := ⟨fun n => n, fun _ => 0, fun _ => 0, fun _ => .nilIface, fun _ => rfl⟩

theorem rel_none (P : Program) (w : World) : Rel P Ren.same (AHeap.none P.globals.size) w :=
  ⟨Nat.le_refl _, ⟨Nat.le_refl _, fun _ _ => ⟨rfl, rfl⟩⟩, fun m _ h => absurd (none_get _ m) h, fun n o h => (by rw [none_get] at h; cases h), fun n o h => (by rw [none_get] at h; cases h)⟩

theorem wide_wide : WideF Fence.wide := ⟨fun _ => trivial, rfl, rfl⟩

theorem call_in {P : Program} (hmix : P.follows .mixedOrders = true) {K : FuncId → List Value → AHeap → Option Value} (hK : Known P K) {fuel : Nat} {f : FuncId} {args : List Value} {v : Value} {H H1 : AHeap} {ρ : Ren} {w : World} (r : Rel P ρ H w)
    (h : call P K fuel f args H = some (.ok v, H1)) (hsc : scbL H.next args = true) {F : Fence} {n : Nat} (hF : WideF F) : CallsIn F n P f (args.map ρ.val).toArray w (fun e w' => ∃ ρ1, e = .returned (ρ1.val v) ∧ St P ρ H w ρ1 H1 w') :=
  enterF_run (exec_sound hmix hK fuel).1 r h hsc hF (fun ρ1 w1 s _ => ⟨ρ1, rfl, s⟩)

theorem sameV_eq {u v : Value} (h : sameV u v = true) : u = v ∧ af v = true := by
  unfold sameV at h
  split at h
  · simp only [Bool.and_eq_true, decide_eq_true_eq] at h
    obtain ⟨rfl, rfl⟩ := h
    exact ⟨rfl, rfl⟩
  · simp only [beq_iff_eq] at h
    subst h
    exact ⟨rfl, rfl⟩
  · cases h

theorem sameL_eq : ∀ {u v : List Value}, sameL u v = true → u = v ∧ ∀ x ∈ v, af x = true
  | [], [], _ => ⟨rfl, fun _ h => by cases h⟩
  | a :: r, b :: q, h => by
    simp only [sameL, Bool.and_eq_true] at h
    obtain ⟨h1, h2⟩ := sameV_eq h.1
    obtain ⟨h3, h4⟩ := sameL_eq h.2
    refine ⟨by rw [h1, h3], fun x hx => ?_⟩
    rcases List.mem_cons.1 hx with rfl | hx
    · exact h2
    · exact h4 x hx
  | [], _ :: _, h => by cases h
  | _ :: _, [], h => by cases h

theorem afL_of : ∀ {l : List Value}, (∀ x ∈ l, af x = true) → afL l = true
  | [], _ => rfl
  | x :: l, h => by rw [afL, h x (List.mem_cons_self ..), afL_of fun y hy => h y (List.mem_cons_of_mem _ hy)]; rfl

theorem sameW_eq {u v : Value} (h : sameW u v = true) : u = v ∧ af v = true := by
  unfold sameW at h
  split at h
  · rename_i a b
    obtain ⟨h1, h2⟩ := sameL_eq h
    obtain ⟨a⟩ := a
    obtain ⟨b⟩ := b
    simp only at h1 h2
    subst h1
    exact ⟨rfl, by rw [af, afA]; exact afL_of h2⟩
  · rename_i a b
    obtain ⟨h1, h2⟩ := sameL_eq h
    obtain ⟨a⟩ := a
    obtain ⟨b⟩ := b
    simp only at h1 h2
    subst h1
    exact ⟨rfl, by rw [af, afA]; exact afL_of h2⟩
  · exact sameV_eq h

theorem sameM_eq : ∀ {u v : List Value}, sameM u v = true → u = v ∧ ∀ x ∈ v, af x = true
  | [], [], _ => ⟨rfl, fun _ h => by cases h⟩
  | a :: r, b :: q, h => by
    simp only [sameM, Bool.and_eq_true] at h
    obtain ⟨h1, h2⟩ := sameW_eq h.1
    obtain ⟨h3, h4⟩ := sameM_eq h.2
    refine ⟨by rw [h1, h3], fun x hx => ?_⟩
    rcases List.mem_cons.1 hx with rfl | hx
    · exact h2
    · exact h4 x hx
  | [], _ :: _, h => by cases h
  | _ :: _, [], h => by cases h

theorem ans_in {P : Program} (hmix : P.follows .mixedOrders = true) {K : FuncId → List Value → AHeap → Option Value} (hK : Known P K) {fuel : Nat} {f : FuncId} {args : List Value} {v : Value} (ha : args.all af = true) (h : ansB P K fuel f args v = true) (F : Fence) (n : Nat) (w : World) (hF : WideF F) :
    CallsIn F n P f args.toArray w (fun e w' => e = .returned v ∧ RowKit.Below w.heap.size w w') := by
  unfold ansB at h
  split at h
  · rename_i u H1 hc
    obtain ⟨rfl, hv⟩ := sameW_eq h
    have := call_in hmix hK (rel_none P w) hc (scbL_of_af _ (afL_of fun x hx => List.all_eq_true.1 ha x hx)) (F := F) (n := n) hF
    rw [map_af _ args (fun x hx => List.all_eq_true.1 ha x hx)] at this
    refine this.mono ?_
    rintro e w' ⟨ρ1, rfl, s⟩
    exact ⟨by rw [val_af ρ1 _ hv], s.os, s.tape, s.output, s.size, fun b hb => s.old b hb fun n _ _ hg => absurd (none_get _ n) hg⟩
  · cases h

theorem known_nil (P : Program) : Known P (lookK []) := fun f args v H h => by cases h

theorem known_cons {P : Program} (hmix : P.follows .mixedOrders = true) {L : List (FuncId × List Value × Value)} (hK : Known P (lookK L)) (fuel : Nat) {f : FuncId} {args : List Value} {v : Value} (ha : args.all af = true) (h : ansB P (lookK L) fuel f args v = true) :
    Known P (lookK ((f, args, v) :: L)) := by
  intro g bs u H hu
  unfold lookK at hu
  split at hu
  · rename_i hc
    simp only [Bool.and_eq_true] at hc
    have h1 : f = g := Nat.eq_of_beq_eq_true hc.1
    obtain ⟨h2, _⟩ := sameM_eq hc.2
    subst h1 h2
    simp only [Option.some.injEq] at hu
    subst hu
    have hv : af v = true := by
      unfold ansB at h
      split at h
      · exact (sameW_eq h).2
      · cases h
    exact ⟨hv, fun ρ F n w _ _ hF => by
      rw [map_af ρ _ (fun x hx => List.all_eq_true.1 ha x hx)]
      exact ans_in hmix hK ha h F n w hF⟩
  · exact hK g bs u H hu

theorem true_calls {P : Program} (hmix : P.follows .mixedOrders = true) {K : FuncId → List Value → AHeap → Option Value} (hK : Known P K) {fuel : Nat} {f : FuncId} (h : ansB P K fuel f [] (.bool true) = true) (w : World) :
    Calls P f #[] w (fun e w' => e = .returned (.bool true) ∧ RowKit.Below w.heap.size w w') :=
  (callsIn_wide (n := 0)).1 (ans_in hmix hK rfl h Fence.wide 0 w wide_wide)

end Go.Ax

/- A call's arguments, one of which is a slice of structs of numbers, truth values and strings: an abstract heap that holds its cells. -/
namespace Go.Ax
open Go.ChangeShapes
section
variable {P : Program} {K : Type} {enc : TypeId × Value → K} {w : World} {base : Nat} {spare : Nat → Bool} {held : Bool}

theorem mapM_each {α β : Type} {g : α → Option β} : ∀ {l : List α} {r : List β}, l.mapM g = some r → ∀ x ∈ l, ∃ y, g x = some y
  | [], _, _, x, hx => by cases hx
  | a :: l, r, h, x, hx => by
    rw [List.mapM_cons] at h
    cases hg : g a with
    | none => rw [hg] at h; cases h
    | some y =>
      rw [hg] at h
      cases hl : l.mapM g with
      | none => simp [hl] at h
      | some r' =>
        rcases List.mem_cons.1 hx with rfl | hx
        · exact ⟨y, hg⟩
        · exact mapM_each hl x hx

theorem fits_append : ∀ {ts us : List TypeId} {a b : List Value}, fits P ts a = true → fits P us b = true → fits P (ts ++ us) (a ++ b) = true
  | [], us, [], b, _, h => h
  | [], _, _ :: _, _, h, _ => by simp [fits] at h
  | _ :: _, _, [], _, h, _ => by simp [fits] at h
  | t :: ts, us, v :: a, b, h, h2 => by
    simp only [fits, Bool.and_eq_true] at h
    simp only [List.cons_append, fits, h.1, fits_append h.2 h2, Bool.and_self]

theorem trod_fieldsF {fuel d : Nat} {cs : List Value} (ih : ∀ (t : TypeId) (ts : List TypeId) (cs : List Value) (x : DataW K × List MemPlace), flat P d t = some ts → szOf P t = some ts.length → DataW.trod enc P w base spare held fuel t cs = some x → fits P ts cs = true) :
    ∀ (fs : List Field) (o : Nat) (ts : List TypeId), flatF P (flat P d) fs o = some ts → (∀ f ∈ fs, ∃ y, DataW.trod enc P w base spare held fuel f.type ((cs.drop f.offset).take (P.cellsOf f.type)) = some y) → o + ts.length ≤ cs.length → fits P ts ((cs.drop o).take ts.length) = true
  | [], o, ts, h, _, _ => by
    simp only [flatF, Option.some.injEq] at h
    subst h
    rfl
  | f :: fs, o, ts, h, hy, hle => by
    simp only [flatF] at h
    split at h
    · rename_i hf
      obtain ⟨_, ho⟩ := hf
      cases e1 : flat P d f.type with
      | none => rw [e1] at h; cases h
      | some a =>
        rw [e1] at h
        simp only at h
        split at h
        · rename_i hsz
          cases e2 : flatF P (flat P d) fs (o + a.length) with
          | none => rw [e2] at h; cases h
          | some b =>
            rw [e2] at h
            simp only [Option.some.injEq] at h
            subst h
            rw [List.length_append] at hle
            obtain ⟨y, hy0⟩ := hy f (by simp)
            rw [ho, cellsOf_szOf hsz] at hy0
            have h1 := ih f.type a _ y e1 hsz hy0
            have h2 := trod_fieldsF ih fs (o + a.length) b e2 (fun g hg => hy g (by simp [hg])) (by omega)
            have : (cs.drop o).take (a ++ b).length = (cs.drop o).take a.length ++ (cs.drop (o + a.length)).take b.length := by
              rw [List.length_append, List.take_add, List.drop_drop]
            rw [this]
            exact fits_append h1 h2
        · cases h
    · cases h

theorem trod_fits : ∀ (fuel d : Nat) (t : TypeId) (ts : List TypeId) (cs : List Value) (x : DataW K × List MemPlace), flat P d t = some ts → szOf P t = some ts.length → DataW.trod enc P w base spare held fuel t cs = some x → fits P ts cs = true
  | 0, _, _, _, _, _, _, _, h => by simp [DataW.trod] at h
  | _ + 1, 0, _, _, _, _, h, _, _ => by simp [flat] at h
  | fuel + 1, d + 1, t, ts, cs, x, hf, hs, h => by
    simp only [flat] at hf
    unfold DataW.trod at h
    cases e : P.underlying t with
    | none => rw [e] at hf; cases hf
    | some td =>
      rw [e] at hf h
      cases td with
      | bool =>
        simp only [Option.some.injEq] at hf
        subst hf
        split at h <;> first | cases h | skip
        all_goals first | (rename_i hh; cases hh; done) | skip
        all_goals simp_all [fits, fit1]
      | int k =>
        simp only [Option.some.injEq] at hf
        subst hf
        split at h <;> simp_all [fits, fit1]
      | string =>
        simp only [Option.some.injEq] at hf
        subst hf
        split at h <;> simp_all [fits, fit1]
      | struct fs =>
        simp only at hf
        split at hf
        · cases hf
        · simp only at h
          split at h
          · rename_i hlen
            rw [cellsOf_szOf hs] at hlen
            cases hm : fs.toList.mapM fun f => DataW.trod enc P w base spare held fuel f.type ((cs.drop f.offset).take (P.cellsOf f.type)) with
            | none => rw [hm] at h; cases h
            | some xs =>
              have := trod_fieldsF (cs := cs) (fun t ts cs x => trod_fits fuel d t ts cs x) fs.toList 0 ts hf (mapM_each hm) (by omega)
              rw [List.drop_zero, List.take_of_length_le (by omega)] at this
              exact this
          · cases h
      | _ => simp at hf

theorem trod_slice {fuel : Nat} {t e : TypeId} {ts : List TypeId} {D : Nat} (ht : P.underlying t = some (.slice e)) (hsz : szOf P e = some ts.length) (hfl : flat P D e = some ts) {b off len cap : Nat} {x : DataW K × List MemPlace}
    (h : DataW.trod enc P w 0 spare held fuel t [.slice (some ⟨b, off, none⟩) len cap] = some x) (hnf : w.noneFrozen x.2) :
    len ≤ cap ∧ (len * ts.length = 0 ∨ ∃ (c : Array Value) (e' : TypeId) (fz : Nat × Nat) (vs : List Value), w.heap[b]? = some (.cells c e' fz) ∧ vs.length = len * ts.length ∧ (∀ i, i < vs.length → c[off + i]? = some (vs.getD i undef)) ∧
      (∀ i, i < len → fits P ts ((vs.drop (i * ts.length)).take ts.length) = true) ∧ ∀ i, off ≤ i → i < off + len * ts.length → ¬ (fz.1 ≤ i ∧ i < fz.2)) := by
  cases fuel with
  | zero => simp [DataW.trod] at h
  | succ fuel =>
    unfold DataW.trod at h
    rw [ht] at h
    simp only [cellsOf_szOf hsz] at h
    split at h
    · rename_i hc
      refine ⟨hc.2.1, ?_⟩
      by_cases h0 : len * ts.length = 0
      · exact .inl h0
      right
      cases hm : (List.range len).mapM fun i => (w.cells? 0 ((⟨b, off, none⟩ : Addr).add (i * ts.length)) ts.length).bind (DataW.trod enc P w 0 spare held fuel e) with
      | none => rw [hm] at h; cases h
      | some elems =>
        rw [hm, Option.bind_some] at h
        have hel : elems.length = len := by have := mapM_len hm; simpa using this
        have each : ∀ i, i < len → ∃ cs y, w.cells? 0 ((⟨b, off, none⟩ : Addr).add (i * ts.length)) ts.length = some cs ∧ DataW.trod enc P w 0 spare held fuel e cs = some y := fun i hi => by
          obtain ⟨y, hy⟩ := mapM_each hm i (by simpa using hi)
          cases hcs : w.cells? 0 ((⟨b, off, none⟩ : Addr).add (i * ts.length)) ts.length with
          | none => rw [hcs] at hy; cases hy
          | some cs => rw [hcs] at hy; exact ⟨cs, y, rfl, hy⟩
        have cell : ∀ i, i < len * ts.length → ∃ v, w.cell? ⟨b, off + i, none⟩ = some v := fun i hi => by
          have hp : 0 < ts.length := Nat.pos_of_ne_zero fun h => h0 (by rw [h, Nat.mul_zero])
          have hq : i / ts.length < len := (Nat.div_lt_iff_lt_mul hp).2 hi
          obtain ⟨cs, y, hcs, _⟩ := each _ hq
          unfold World.cells? at hcs
          rw [if_pos (Nat.zero_le _)] at hcs
          obtain ⟨v, hv⟩ := mapM_each hcs (i % ts.length) (by simpa using Nat.mod_lt _ hp)
          rw [addr_add, addr_add] at hv
          have : off + i / ts.length * ts.length + i % ts.length = off + i := by rw [Nat.add_assoc, Nat.mul_comm, Nat.div_add_mod]
          rw [this] at hv
          exact ⟨v, hv⟩
        obtain ⟨v0, hv0⟩ := cell 0 (by omega)
        unfold World.cell? at hv0
        cases hb : w.heap[b]? with
        | none => simp [hb] at hv0
        | some o =>
          cases o with
          | cells c e' fz =>
            have cell' : ∀ i, i < len * ts.length → ∃ v, c[off + i]? = some v := fun i hi => by
              obtain ⟨v, hv⟩ := cell i hi
              simp only [World.cell?, hb] at hv
              exact ⟨v, by simpa using hv⟩
            obtain ⟨vs, hvs⟩ : ∃ vs : List Value, vs = (List.range (len * ts.length)).map fun i => (c[off + i]?).getD undef := ⟨_, rfl⟩
            have hvl : vs.length = len * ts.length := by simp [hvs]
            have hvg : ∀ i, i < vs.length → c[off + i]? = some (vs.getD i undef) := fun i hi => by
              rw [hvl] at hi
              obtain ⟨v, hv⟩ := cell' i hi
              simp [hvs, hi, hv, List.getD_eq_getElem?_getD]
            refine ⟨c, e', fz, vs, rfl, hvl, hvg, fun i hi => ?_, fun i h1 h2 => ?_⟩
            · obtain ⟨cs, y, hcs, hy⟩ := each i hi
              have hcs' : (vs.drop (i * ts.length)).take ts.length = cs := by
                unfold World.cells? at hcs
                rw [if_pos (Nat.zero_le _)] at hcs
                have hin : i * ts.length + ts.length ≤ len * ts.length := by rw [← Nat.succ_mul]; exact Nat.mul_le_mul_right _ hi
                have hr := mapM_range_of (f := fun j => w.cell? (((⟨b, off, none⟩ : Addr).add (i * ts.length)).add j)) (g := fun j => vs.getD (i * ts.length + j) undef) ts.length (fun j hj => by
                  have h3 := hvg (i * ts.length + j) (by rw [hvl]; omega)
                  rw [addr_add, addr_add, Nat.add_assoc]
                  simp [World.cell?, hb, h3])
                rw [hr] at hcs
                cases hcs
                apply List.ext_getElem?
                intro j
                by_cases hj : j < ts.length
                · rw [List.getElem?_take, if_pos hj, List.getElem?_drop, List.getElem?_map, List.getElem?_range hj, List.getElem?_eq_getElem (by rw [hvl]; omega)]
                  simp only [Option.map_some, List.getD_eq_getElem?_getD]
                  rw [List.getElem?_eq_getElem (by rw [hvl]; omega)]
                  rfl
                · rw [List.getElem?_eq_none (by simp; omega), List.getElem?_eq_none (by simp; omega)]
              rw [hcs']
              exact trod_fits fuel D e ts cs y hfl hsz hy
            · have hmem : MemPlace.cell b i ∈ x.2 := by
                cases hrest : (if spare b then (List.range (cap - len)).mapM fun j => (w.cells? 0 ((⟨b, off, none⟩ : Addr).add ((len + j) * ts.length)) ts.length).bind (DataW.trod enc P w 0 spare held fuel e) else some []) with
                | none => rw [hrest] at h; cases h
                | some rest =>
                  rw [hrest] at h
                  simp only [Option.map_some, Option.some.injEq] at h
                  subst h
                  simp only [List.mem_append]
                  left
                  unfold MemPlace.row
                  rw [List.mem_map]
                  refine ⟨i - off, ?_, by simp only [MemPlace.cell.injEq, true_and]; omega⟩
                  rw [List.mem_range, hel, Nat.add_mul]
                  omega
              have := hnf b i hmem
              intro hh
              simp only [World.frozen?, hb] at this
              simp [hh.1, hh.2] at this
          | _ => simp [hb] at hv0
    · cases h

def enH (N : Nat) (e : TypeId) (vs : List Value) : AHeap := { nw (AHeap.none N) e vs true with base := N + 1 }
theorem enH_next {N : Nat} {e : TypeId} {vs : List Value} : (enH N e vs).next = N + 1 := rfl
theorem enH_bk {N : Nat} {e : TypeId} {vs : List Value} : bk (enH N e vs) N = some ⟨e, true, vs⟩ := by
  have := blk_bk (Blk.nw_new (H := AHeap.none N) e true vs)
  exact this
theorem enH_get {N m : Nat} {e : TypeId} {vs : List Value} (h : m ≠ N) : (enH N e vs).get m = none := by
  have := nw_get (H := AHeap.none N) e vs true (m := m) h
  rw [none_get] at this
  exact this

def enR (N b off : Nat) : Ren := ⟨fun n => if n = N then b else n, fun n => if n = N then off else 0, fun _ => 0, fun _ => .nilIface, fun _ => rfl⟩

theorem rel_en {N b off : Nat} {e : TypeId} {vs : List Value} {c : Array Value} {fz : Nat × Nat} (hN : P.globals.size ≤ N) (hb : w.heap[b]? = some (.cells c e fz)) (hc : ∀ i, i < vs.length → c[off + i]? = some (vs.getD i undef)) (h0 : 0 < vs.length) (ha : afL vs = true) (hf : ∀ i, off ≤ i → i < off + vs.length → ¬ (fz.1 ≤ i ∧ i < fz.2)) :
    Rel P (enR N b off) (enH N e vs) w := by
  have hget : (enH N e vs).get N = some ⟨.cells #[] e, true, RV.ofList vs⟩ := by
    have : (nw (AHeap.none N) e vs true).get N = some ⟨.cells #[] e, true, RV.ofList vs⟩ := by rw [nw, AHeap.get_new, if_pos (show N = (AHeap.none N).next from rfl)]
    exact this
  have hav : ∀ x ∈ vs, af x = true := by
    intro x hx
    clear hc hf hget h0
    induction vs with
    | nil => cases hx
    | cons y ys ih =>
      simp only [afL, Bool.and_eq_true] at ha
      rcases List.mem_cons.1 hx with rfl | hx
      · exact ha.1
      · exact ih ha.2 hx
  have hgd : ∀ i, i < vs.length → af (vs.getD i undef) = true := fun i hi => hav _ (by simp [List.getD_eq_getElem?_getD, List.getElem?_eq_getElem hi])
  refine ⟨Nat.le_refl _, ⟨Nat.le_succ_of_le hN, fun g hg => ?_⟩, fun m n hm hn _ => ?_, fun n o hn => ?_, fun n o hn => ?_⟩
  · have : g ≠ N := by omega
    exact ⟨if_neg this, if_neg this⟩
  · have e1 : m = N := Decidable.byContradiction fun h => hm (enH_get h)
    have e2 : n = N := Decidable.byContradiction fun h => hn (enH_get h)
    exact .inl (e1.trans e2.symm)
  · by_cases h : n = N
    · subst h
      rw [hget] at hn
      cases hn
      refine ⟨Nat.lt_succ_self _, ?_⟩
      simp only [sco, RV.n_ofList, RV.get_ofList]
      intro i hi
      exact scb_of_af _ (hgd i hi)
    · rw [enH_get h] at hn; cases hn
  · by_cases h : n = N
    · subst h
      rw [hget] at hn
      cases hn
      refine ⟨_, by simp only [enR, if_pos]; exact hb, ?_⟩
      simp only [Fits]
      refine ⟨c, fz, rfl, fun i hi => ?_, fun h => (by cases h), fun _ _ => ⟨?_, ?_⟩⟩
      · simp only [RV.n_ofList] at hi
        rw [RV.get_ofList, val_af _ _ (hgd i hi)]
        simp only [enR, if_pos]
        rw [Nat.add_comm]
        exact hc i hi
      · simp only [enR, if_pos, RV.n_ofList, Nat.zero_mul, Nat.add_zero]
        have := hc (vs.length - 1) (by omega)
        rcases Nat.lt_or_ge (off + (vs.length - 1)) c.size with h1 | h1
        · omega
        · rw [Array.getElem?_eq_none h1] at this; cases this
      · simp only [enR, if_pos, RV.n_ofList, Nat.zero_mul, Nat.add_zero]
        exact hf
    · rw [enH_get h] at hn; cases hn

theorem rel_calls {f : FuncId} {args : List Value} {H : AHeap} {ρ : Ren} (r : Rel P ρ H w) (hsc : scbL H.next args = true) (hbase : H.base = H.next) (hd : H.dirty = []) (h : CallA P f args H fun out H1 => out = .ok (.bool true) ∧ Mod [] H H1) :
    Calls P f (args.map ρ.val).toArray w (fun e w' => e = .returned (.bool true) ∧ RowKit.Below w.heap.size w w') := by
  obtain ⟨_, H1, hc, rfl, m⟩ := h
  refine (callsIn_wide (n := 0)).1 (hc ρ w r hsc Fence.wide 0 _ wide_wide ?_)
  intro ρ1 w1 s _
  refine ⟨by rw [Ren.val], s.os, s.tape, s.output, s.size, fun b hb => s.old b hb fun n hn hor _ => ?_⟩
  rcases hor with h | h
  · omega
  · rcases m.dirty n h with h | h
    · rw [hd] at h; cases h
    · exact absurd h.1 (by simp)

theorem callS_ans (hmix : P.follows .mixedOrders = true) {L : FuncId → List Value → AHeap → Option Value} (hK : Known P L) {fuel : Nat} {f : FuncId} {args : List Value} {v : Value} (ha : args.all af = true) (h : ansB P L fuel f args v = true) (H : AHeap) : CallS P f args H (.ok v) H := by
  intro ρ w r hsc F n R hF hR
  rw [map_af ρ args (fun x hx => List.all_eq_true.1 ha x hx)]
  have hv : af v = true := by
    unfold ansB at h
    split at h
    · exact (sameW_eq h).2
    · cases h
  refine (ans_in hmix hK ha h F n w hF).mono ?_
  rintro e w' ⟨rfl, hb⟩
  have := hR ρ w' (St.below r hb) (scb_of_af _ hv)
  rwa [val_af ρ _ hv] at this
end
end Go.Ax

/- Calls that leave the memory as it is; numbers that do not wrap. -/
namespace Go.Proofs.YtfpckllenkifkaaDoor
open Go.Ax

abbrev Pure (f : FuncId) (args : List Value) (H : AHeap) (v : Value) : Prop := CallS Tryd.prog f args H (.ok v) H

abbrev w64 (n : Int) : Int := IntKind.i64.wrap n
theorem wrap_sm {n : Int} (h1 : -4000000000000 < n) (h2 : n < 4000000000000) : w64 n = n := by
  simp only [w64, IntKind.wrap, IntKind.signed, IntKind.bits]
  simp
  omega
theorem wrap_succ {k : Nat} (h : k < 1000000) : IntKind.i64.wrap ((k : Int) + 1) = ((k + 1 : Nat) : Int) := by
  have := wrap_sm (n := (k : Int) + 1) (by omega) (by omega)
  rw [show IntKind.i64.wrap ((k : Int) + 1) = _ from this]; omega

end Go.Proofs.YtfpckllenkifkaaDoor

/- Cells and rows of cells in the abstract heap; what SameCells comes to. -/
namespace Go.Proofs.YtfpckllenkifkaaDoor
open Go.Ax
set_option linter.unusedSimpArgs false
set_option maxRecDepth 10000

structure Ce where
  rune : Int
  fore : Int
  back : Int
  bold : Bool
  under : Bool
  inv : Bool
deriving DecidableEq

def Ce.cells (c : Ce) : List Value := [.int .i64 c.rune, .int .i64 c.fore, .int .i64 c.back, .bool c.bold, .bool c.under, .bool c.inv]
def Ce.val (c : Ce) : Value := .agg #[.int .i64 c.rune, .int .i64 c.fore, .int .i64 c.back, .bool c.bold, .bool c.under, .bool c.inv]
def csOf (l : List Ce) : List Value := l.flatMap Ce.cells
theorem csOf_cons (c : Ce) (l : List Ce) : csOf (c :: l) = c.cells ++ csOf l := rfl
theorem csOf_append (l m : List Ce) : csOf (l ++ m) = csOf l ++ csOf m := by simp [csOf]
theorem csOf_length (l : List Ce) : (csOf l).length = l.length * 6 := by
  induction l with
  | nil => rfl
  | cons c l ih => rw [csOf_cons, List.length_append, ih]; simp [Ce.cells]; omega
theorem csOf_one (l : List Ce) : (csOf l).all one = true := by
  induction l with
  | nil => rfl
  | cons c l ih => rw [csOf_cons, List.all_append, ih]; rfl
theorem csOf_sc (l : List Ce) (n : Nat) : scbL n (csOf l) = true := by
  induction l with
  | nil => rfl
  | cons c l ih =>
    rw [csOf_cons]
    simp only [Ce.cells, List.cons_append, List.nil_append, scbL, scb, ih, Bool.and_self]

def RowAt (H : AHeap) (v : Value) (l : List Ce) : Prop :=
  (l = [] ∧ ∃ a c, v = .slice a 0 c) ∨ (l ≠ [] ∧ ∃ n off s c e o L, v = .slice (some ⟨n, off, s⟩) l.length c ∧ rk H n = some ⟨e, o, L⟩ ∧ n < H.next ∧ off + l.length * 6 ≤ L.length ∧ (L.drop off).take (l.length * 6) = csOf l)

theorem RowAt.sl {H : AHeap} {v : Value} {l : List Ce} (h : RowAt H v l) : ∃ a c, v = .slice a l.length c := by
  rcases h with ⟨rfl, a, c, rfl⟩ | ⟨_, n, off, s, c, e, o, L, rfl, _⟩
  · exact ⟨a, c, rfl⟩
  · exact ⟨_, _, rfl⟩

theorem RowAt.of {H G : AHeap} {v : Value} {l : List Ce} (h : RowAt H v l) (hn : H.next ≤ G.next) (hg : ∀ n ∈ idsV v, G.get n = H.get n) : RowAt G v l := by
  rcases h with ⟨rfl, a, c, rfl⟩ | ⟨hl, n, off, s, c, e, o, L, rfl, hb, hlt, hle, ht⟩
  · exact .inl ⟨rfl, a, c, rfl⟩
  · exact .inr ⟨hl, n, off, s, c, e, o, L, rfl, (rk_get (hg n (by simp [idsV]))).trans hb, by omega, hle, ht⟩

theorem take_get : ∀ (l : List Ce) (k : Nat) (c : Ce) (L : List Value) (off : Nat), l[k]? = some c → (L.drop off).take (l.length * 6) = csOf l → (L.drop (off + k * 6)).take 6 = c.cells := by
  intro l k c L off hk h
  have hlt : k < l.length := by
    rcases Nat.lt_or_ge k l.length with h' | h'
    · exact h'
    · rw [List.getElem?_eq_none h'] at hk; cases hk
  have key : ∀ (l : List Ce) (k : Nat), l[k]? = some c → ((csOf l).drop (k * 6)).take 6 = c.cells := by
    intro l
    induction l with
    | nil => intro k h; simp at h
    | cons q ps ih =>
      intro k h
      cases k with
      | zero =>
        simp only [List.getElem?_cons_zero, Option.some.injEq] at h
        subst h
        simp [csOf, Ce.cells]
      | succ k =>
        have ih := ih k (by simpa using h)
        rw [csOf_cons, show (k + 1) * 6 = q.cells.length + k * 6 by simp [Ce.cells]; omega, List.drop_append, List.drop_eq_nil_of_le (by omega), List.nil_append, Nat.add_sub_cancel_left]
        exact ih
  have h2 := key l k hk
  rw [← h, List.drop_take, List.drop_drop, List.take_take, Nat.min_eq_left (by omega)] at h2
  exact h2

theorem row_load {l : List Ce} {k : Nat} {c : Ce} {e : TypeId} {o : Bool} {L : List Value} {off : Nat} (hk : l[k]? = some c) (hle : off + l.length * 6 ≤ L.length) (h : (L.drop off).take (l.length * 6) = csOf l) : ldB Tryd.prog 68 (off + k * 6) (some ⟨e, o, L⟩) = some c.val := by
  have hlt : k < l.length := by
    rcases Nat.lt_or_ge k l.length with h' | h'
    · exact h'
    · rw [List.getElem?_eq_none h'] at hk; cases hk
  have h1 : aggT Tryd.prog 68 = some true := by kernel_rfl
  have h2 : szOf Tryd.prog 68 = some 6 := by kernel_rfl
  simp only [ldB, h1, h2, Option.bind_some, take_get l k c L off hk h]
  rw [if_pos (by omega)]
  rfl

theorem row_ia {len cap n off : Nat} {s : Option Nat} {i : Int} {k : Nat} (hi : i = k) (hk : k < len) : aIndexAddr Tryd.prog 39 (.slice (some ⟨n, off, s⟩) len cap) (.int .i64 i) = some (.pointer (some ⟨n, off + k * 6, none⟩)) := by
  subst hi
  rw [ia_slice (e := 68) (sz := 6) (by kernel_rfl) (by kernel_rfl) (by omega) (by omega)]
  simp

theorem ce_eqL (r s : Ce) : eqL r.cells s.cells = decide (r = s) := by
  obtain ⟨a, b, c, d, e, f⟩ := r
  obtain ⟨a', b', c', d', e', f'⟩ := s
  simp only [Ce.cells, eqL, eq1, Bool.and_true, Ce.mk.injEq]
  by_cases h1 : a = a' <;> by_cases h2 : b = b' <;> by_cases h3 : c = c' <;> by_cases h4 : d = d' <;> by_cases h5 : e = e' <;> by_cases h6 : f = f' <;> simp [h1, h2, h3, h4, h5, h6]
theorem fl55 : flat Tryd.prog 10000 68 = some [3, 3, 3, 4, 4, 4] := by kernel_rfl
theorem ag55 : aggT Tryd.prog 68 = some true := by kernel_rfl
theorem gd55 : Tryd.prog.eqGuardType Tryd.prog.depth 68 = false := by kernel_rfl
theorem ce_fits (r : Ce) : fits Tryd.prog [3, 3, 3, 4, 4, 4] r.cells = true := by
  have h3 : ∀ n, fit1 Tryd.prog 3 (.int .i64 n) = true := fun n => by kernel_rfl
  have h4 : ∀ n, fit1 Tryd.prog 4 (.bool n) = true := fun n => by kernel_rfl
  simp only [Ce.cells, fits, h3, h4, Bool.and_self]

theorem sameCells_c (H : AHeap) (v1 v2 : Value) (l1 l2 : List Ce) (h1 : RowAt H v1 l1) (h2 : RowAt H v2 l2) (hl : l1.length < 1000000) : Pure 15 [v1, v2] H (.bool (decide (l1 = l2))) := by
  obtain ⟨b, hb⟩ : ∃ b, H.next = b := ⟨_, rfl⟩
  refine callS_fn mixed Tryd.func15 rfl Tryd.ntmps15 (Nat.le_of_ble_eq_true rfl) fun wf hsc => ?_
  obtain ⟨a1, c1, e1⟩ := h1.sl
  obtain ⟨a2, c2, e2⟩ := h2.sl
  rw [e1, e2]
  simp (maxDischargeDepth := 6) only [ruW, putL, Nat.reduceLeDiff, xF, ruU, entryE, Nat.reduceLT, Nat.reduceAdd, Nat.reduceMul, Nat.reduceEqDiff]
  rw [← e1, ← e2]
  refine w_env fun E hE => ?_
  have g0 : E 0 = v1 := by rw [hE]; simp only [ruU, entryE, Nat.reduceLT, Nat.reduceAdd, Nat.reduceMul, Nat.reduceEqDiff]
  have g1 : E 1 = v2 := by rw [hE]; simp only [ruU, entryE, Nat.reduceLT, Nat.reduceAdd, Nat.reduceMul, Nat.reduceEqDiff]
  have g5 : E 5 = .bool (decide ((l1.length : Int) = (l2.length : Int))) := by rw [hE]; simp only [ruU, entryE, Nat.reduceLT, Nat.reduceAdd, Nat.reduceMul, Nat.reduceEqDiff]
  have g6 : E 6 = .int .i64 0 := by rw [hE]; simp only [ruU, entryE, Nat.reduceLT, Nat.reduceAdd, Nat.reduceMul, Nat.reduceEqDiff]
  clear hE
  have hfin : ∀ s : Bool, (s = true → l1 = l2) → (s = false → l1 ≠ l2) → s = decide (l1 = l2) := fun s h1 h2 => by
    cases s
    · rw [decide_eq_false (h2 rfl)]
    · rw [decide_eq_true (h1 rfl)]
  refine blockC_meet (fun E' H' => H' = ext H [] ∧ E' 5 = .bool (decide (l1 = l2))) ?_ ?_
  · refine w_loop (fun (k : Nat × Bool) E' H' => H' = ext H [] ∧ E' 0 = v1 ∧ E' 1 = v2 ∧ E' 5 = .bool k.2 ∧ E' 6 = .int .i64 (k.1 : Int) ∧ k.1 ≤ l1.length ∧ (k.2 = true → l1.length = l2.length ∧ l1.take k.1 = l2.take k.1) ∧ (k.2 = false → l1 ≠ l2)) (fun k => l1.length - k.1) (0, decide ((l1.length : Int) = (l2.length : Int)))
      ⟨rfl, g0, g1, g5, g6, Nat.zero_le _, fun h => ⟨by have := of_decide_eq_true h; omega, rfl⟩, fun h e => by rw [e] at h; simp at h⟩ ?_
    clear g0 g1 g5 g6
    rintro ⟨k, s⟩ E H' ⟨hH, g0, g1, g5, g6, hk, hs1, hs2⟩
    simp only at g5 g6 hk hs1 hs2
    rw [hH]
    cases s with
    | false =>
      simp (maxDischargeDepth := 6) only [g0, g1, g5, g6, ruW, putL, Nat.reduceLeDiff, xF, ruU, entryE, Nat.reduceLT, Nat.reduceAdd, Nat.reduceMul, Nat.reduceEqDiff]
      refine joinR_normal ⟨rfl, ?_⟩
      simp only [g5, ruU, entryE, Nat.reduceLT, Nat.reduceAdd, Nat.reduceMul, Nat.reduceEqDiff]
      rw [decide_eq_false (hs2 rfl)]
    | true =>
      obtain ⟨hlen, hpre⟩ := hs1 rfl
      by_cases hkl : k = l1.length
      · have hc : decide ((k : Int) < (l1.length : Int)) = false := by simp [hkl]
        rw [e1] at g0
        simp (maxDischargeDepth := 6) only [g0, g1, g5, g6, hc, ruW, putL, Nat.reduceLeDiff, xF, ruU, entryE, Nat.reduceLT, Nat.reduceAdd, Nat.reduceMul, Nat.reduceEqDiff]
        refine joinR_normal ⟨rfl, ?_⟩
        simp only [g5, ruU, entryE, Nat.reduceLT, Nat.reduceAdd, Nat.reduceMul, Nat.reduceEqDiff]
        have : l1 = l2 := by
          have e3 := hpre
          rw [hkl, List.take_length, hlen, List.take_length] at e3
          exact e3
        rw [decide_eq_true this]
      · have hlt : k < l1.length := by omega
        have hc : decide ((k : Int) < (l1.length : Int)) = true := decide_eq_true (by omega)
        rcases h1 with ⟨h, _⟩ | ⟨_, n1, o1, s1, c1, t1, p1, L1, rfl, b1, n1l, le1, tk1⟩
        · rw [h] at hlt; simp at hlt
        rcases h2 with ⟨h, _⟩ | ⟨_, n2, o2, s2, c2, t2, p2, L2, rfl, b2, n2l, le2, tk2⟩
        · rw [h] at hlen; simp at hlen; simp [hlen] at hlt
        obtain ⟨r1, hr1⟩ : ∃ r, l1[k]? = some r := ⟨_, List.getElem?_eq_getElem hlt⟩
        obtain ⟨r2, hr2⟩ : ∃ r, l2[k]? = some r := ⟨_, List.getElem?_eq_getElem (by omega)⟩
        have i1 := row_ia (n := n1) (off := o1) (s := s1) (cap := c1) (i := (k : Int)) rfl hlt
        have i2 := row_ia (n := n2) (off := o2) (s := s2) (cap := c2) (i := (k : Int)) (len := l2.length) rfl (by omega)
        have q1 := row_load (e := t1) (o := p1) hr1 le1 tk1
        have q2 := row_load (e := t2) (o := p2) hr2 le2 tk2
        rw [hb] at n1l n2l
        simp (maxDischargeDepth := 6) only [g0, g1, g5, g6, hc, ruW, putL, Nat.reduceLeDiff, xF, ruU, entryE, Nat.reduceLT, Nat.reduceAdd, Nat.reduceMul, Nat.reduceEqDiff]
        refine w_drawB [] [] (by kernel_rfl) rfl rfl fun ops anc hA hG => ?_
        simp (maxDischargeDepth := 6) only [g0, g1, g5, g6, hb, i1, i2, b1, b2, n1l, n2l, q1, q2, qk_old, Ce.val, ruD, ruW, putL, Nat.reduceLeDiff, xF, ruU, entryE, Nat.reduceLT, Nat.reduceAdd, Nat.reduceMul, Nat.reduceEqDiff]
        refine wd_eqS (ts := [3, 3, 3, 4, 4, 4]) (xs := r1.cells) (ys := r2.cells) (r := decide (r1 = r2)) fl55 ag55 gd55 (by rw [ce_eqL]; rfl) (by simp only [ruU, entryE, Nat.reduceLT, Nat.reduceAdd, Nat.reduceMul, Nat.reduceEqDiff]) (by simp only [ruU, entryE, Nat.reduceLT, Nat.reduceAdd, Nat.reduceMul, Nat.reduceEqDiff]) (by decide) (by simp only [ruU, entryE, Nat.reduceLT, Nat.reduceAdd, Nat.reduceMul, Nat.reduceEqDiff]; rfl) (by simp only [ruU, entryE, Nat.reduceLT, Nat.reduceAdd, Nat.reduceMul, Nat.reduceEqDiff]; rfl) (ce_fits _) (ce_fits _) ?_
        simp (maxDischargeDepth := 6) only [g0, g1, g5, g6, wrap_succ (show k < 1000000 by omega), ruD, ruW, putL, Nat.reduceLeDiff, xF, ruU, entryE, Nat.reduceLT, Nat.reduceAdd, Nat.reduceMul, Nat.reduceEqDiff]
        refine loopC_next ⟨(k + 1, decide (r1 = r2)), by simp only; omega, rfl, ?_, ?_, ?_, ?_, by simp only; omega, fun h => ⟨hlen, ?_⟩, fun h e => ?_⟩ <;> try simp only [g0, g1, g5, g6, ruU, entryE, Nat.reduceLT, Nat.reduceAdd, Nat.reduceMul, Nat.reduceEqDiff]
        · have h := of_decide_eq_true h
          rw [List.take_add_one, List.take_add_one, hr1, hr2, hpre, h]
        · have h := of_decide_eq_false h
          rw [e] at hr1
          rw [hr1] at hr2
          exact h (Option.some.inj hr2)
  · rintro E H' ⟨hH, g5⟩
    rw [hH]
    simp (maxDischargeDepth := 6) only [g5, Tryd.results15, ruW, putL, Nat.reduceLeDiff, xF, ruU, entryE, Nat.reduceLT, Nat.reduceAdd, Nat.reduceMul, Nat.reduceEqDiff]
    exact Fin.pure rfl

end Go.Proofs.YtfpckllenkifkaaDoor

/- Package variables whose contents are known (tables of numbers): heaps that hold them. -/
namespace Go.Ax
section
variable {P : Program} {K : Type} {enc : TypeId × Value → K} {w : World} {base : Nat} {spare : Nat → Bool} {held : Bool}

mutual
def dc : DataW K → List Value
  | .lit (.int k z) => [.int k z]
  | .lit (.bool b) => [.bool b]
  | .agg l => dcL l
  | _ => []
def dcL : List (DataW K) → List Value
  | [] => []
  | d :: r => dc d ++ dcL r
end
mutual
def dok : DataW K → Bool
  | .lit (.int _ _) => true
  | .lit (.bool _) => true
  | .agg l => dokL l
  | _ => false
def dokL : List (DataW K) → Bool
  | [] => true
  | d :: r => dok d && dokL r
end

theorem mapM_cons_some {α β : Type} {g : α → Option β} {a : α} {l : List α} {r : List β} (h : (a :: l).mapM g = some r) : ∃ y ys, g a = some y ∧ l.mapM g = some ys ∧ r = y :: ys := by
  rw [List.mapM_cons] at h
  cases hg : g a with
  | none => rw [hg] at h; cases h
  | some y =>
    rw [hg] at h
    cases hl : l.mapM g with
    | none => simp [hl] at h
    | some ys => simp [hl] at h; exact ⟨y, ys, rfl, rfl, h.symm⟩

theorem trod_fieldsD {fuel d : Nat} {cs : List Value} (ih : ∀ (t : TypeId) (ts : List TypeId) (cs : List Value) (x : DataW K × List MemPlace), flat P d t = some ts → szOf P t = some ts.length → DataW.trod enc P w base spare held fuel t cs = some x → dok x.1 = true → cs = dc x.1) :
    ∀ (fs : List Field) (o : Nat) (ts : List TypeId) (xs : List (DataW K × List MemPlace)), flatF P (flat P d) fs o = some ts → (fs.mapM fun f => DataW.trod enc P w base spare held fuel f.type ((cs.drop f.offset).take (P.cellsOf f.type))) = some xs → dokL (xs.map (·.1)) = true → o + ts.length ≤ cs.length → (cs.drop o).take ts.length = dcL (xs.map (·.1))
  | [], o, ts, xs, h, hm, _, _ => by
    simp only [flatF, Option.some.injEq] at h
    subst h
    simp at hm
    subst hm
    simp [dcL]
  | f :: fs, o, ts, xs, h, hm, hk, hle => by
    simp only [flatF] at h
    split at h
    · rename_i hf
      obtain ⟨_, ho⟩ := hf
      cases e1 : flat P d f.type with
      | none => rw [e1] at h; cases h
      | some a =>
        rw [e1] at h
        simp only at h
        split at h
        · rename_i hsz
          cases e2 : flatF P (flat P d) fs (o + a.length) with
          | none => rw [e2] at h; cases h
          | some b =>
            rw [e2] at h
            simp only [Option.some.injEq] at h
            subst h
            rw [List.length_append] at hle
            obtain ⟨y, ys, hy, hys, rfl⟩ := mapM_cons_some hm
            simp only [List.map_cons, dokL, Bool.and_eq_true] at hk
            rw [ho, cellsOf_szOf hsz] at hy
            have h1 := ih f.type a _ y e1 hsz hy hk.1
            have h2 := trod_fieldsD ih fs (o + a.length) b ys e2 hys hk.2 (by omega)
            have : (cs.drop o).take (a ++ b).length = (cs.drop o).take a.length ++ (cs.drop (o + a.length)).take b.length := by
              rw [List.length_append, List.take_add, List.drop_drop]
            rw [this, h1, h2]
            simp only [List.map_cons, dcL]
        · cases h
    · cases h

theorem trod_dc : ∀ (fuel d : Nat) (t : TypeId) (ts : List TypeId) (cs : List Value) (x : DataW K × List MemPlace), flat P d t = some ts → szOf P t = some ts.length → DataW.trod enc P w base spare held fuel t cs = some x → dok x.1 = true → cs = dc x.1
  | 0, _, _, _, _, _, _, _, h, _ => by simp [DataW.trod] at h
  | _ + 1, 0, _, _, _, _, h, _, _, _ => by simp [flat] at h
  | fuel + 1, d + 1, t, ts, cs, x, hf, hs, h, hk => by
    simp only [flat] at hf
    unfold DataW.trod at h
    cases e : P.underlying t with
    | none => rw [e] at hf; cases hf
    | some td =>
      rw [e] at hf h
      cases td with
      | bool =>
        simp only at h
        split at h <;> first | (simp only [Option.some.injEq] at h; subst h; rfl) | cases h | skip
        all_goals (rename_i hh; cases hh)
      | int k =>
        simp only at h
        split at h <;> first | (simp only [Option.some.injEq] at h; subst h; simp_all [dc]; done) | cases h | skip
        all_goals simp_all [dc]
        all_goals (obtain ⟨h1, rfl⟩ := h; simp [dc])
      | string =>
        simp only at h
        split at h <;> first | (simp only [Option.some.injEq] at h; subst h; simp [dok] at hk; done) | cases h | skip
        all_goals simp_all
        all_goals (obtain ⟨_, rfl⟩ := h; simp [dok] at hk)
      | struct fs =>
        simp only at hf
        split at hf
        · cases hf
        · simp only at h
          split at h
          · rename_i hlen
            rw [cellsOf_szOf hs] at hlen
            cases hm : fs.toList.mapM fun f => DataW.trod enc P w base spare held fuel f.type ((cs.drop f.offset).take (P.cellsOf f.type)) with
            | none => rw [hm] at h; cases h
            | some xs =>
              rw [hm] at h
              simp only [Option.map_some, Option.some.injEq] at h
              subst h
              simp only [dok] at hk
              have := trod_fieldsD (cs := cs) (fun t ts cs x => trod_dc fuel d t ts cs x) fs.toList 0 ts xs hf hm hk (by omega)
              rw [List.drop_zero, List.take_of_length_le (by omega)] at this
              rw [this, dc]
          · cases h
      | _ => simp at hf

theorem cut_flat {α : Type} {m : Nat} : ∀ (n : Nat) (cs : List α), cs.length = n * m → cs = ((List.range n).map fun i => (cs.drop (i * m)).take m).flatten
  | 0, cs, h => by
    have : cs = [] := List.eq_nil_of_length_eq_zero (by simpa using h)
    subst this
    rfl
  | n + 1, cs, h => by
    have h1 : (cs.drop m).length = n * m := by rw [List.length_drop, h, Nat.succ_mul]; omega
    have h2 := cut_flat n (cs.drop m) h1
    rw [List.range_succ_eq_map, List.map_cons, List.flatten_cons, List.map_map, Nat.zero_mul, List.drop_zero]
    have : ((List.range n).map ((fun i => (cs.drop (i * m)).take m) ∘ Nat.succ)) = (List.range n).map fun i => ((cs.drop m).drop (i * m)).take m := by
      apply List.map_congr_left
      intro i _
      simp only [Function.comp, List.drop_drop, Nat.succ_mul]
      rw [Nat.add_comm]
    rw [this, ← h2, List.take_append_drop]

theorem dcL_flat : ∀ (ds : List (DataW K)), dcL ds = (ds.map dc).flatten
  | [] => rfl
  | d :: r => by simp only [dcL, List.map_cons, List.flatten_cons, dcL_flat r]
theorem dokL_all : ∀ {ds : List (DataW K)}, dokL ds = true → ∀ d ∈ ds, dok d = true
  | [], _, _, h => by cases h
  | d :: r, h, x, hx => by
    simp only [dokL, Bool.and_eq_true] at h
    rcases List.mem_cons.1 hx with rfl | hx
    · exact h.1
    · exact dokL_all h.2 x hx

theorem mapM_map {α β γ : Type} {f : α → Option β} {g : α → γ} {h : β → γ} : ∀ {l : List α} {r : List β}, l.mapM f = some r → (∀ a ∈ l, ∀ b ∈ r, f a = some b → g a = h b) → l.map g = r.map h
  | [], r, hm, _ => by simp at hm; subst hm; rfl
  | a :: l, r, hm, hg => by
    obtain ⟨y, ys, h1, h2, rfl⟩ := mapM_cons_some hm
    rw [List.map_cons, List.map_cons, hg a (by simp) y (by simp) h1, mapM_map h2 fun a ha b hb => hg a (by simp [ha]) b (by simp [hb])]

theorem trod_arr {fuel : Nat} {t e : TypeId} {ts : List TypeId} {D n : Nat} {cs : List Value} {x : DataW K × List MemPlace} (hu : P.underlying t = some (.array n e)) (hsz : szOf P e = some ts.length) (hfl : flat P D e = some ts) (hst : szOf P t = some (n * ts.length))
    (h : DataW.trod enc P w base spare held fuel t cs = some x) (hk : dok x.1 = true) : cs = dc x.1 := by
  cases fuel with
  | zero => simp [DataW.trod] at h
  | succ fuel =>
    unfold DataW.trod at h
    rw [hu] at h
    simp only [cellsOf_szOf hsz, cellsOf_szOf hst] at h
    split at h
    · rename_i hl
      cases hm : (List.range n).mapM fun i => DataW.trod enc P w base spare held fuel e ((cs.drop (i * ts.length)).take ts.length) with
      | none => rw [hm] at h; cases h
      | some xs =>
        rw [hm] at h
        simp only [Option.map_some, Option.some.injEq] at h
        subst h
        simp only [dok] at hk
        rw [dc, dcL_flat, List.map_map]
        refine (cut_flat n cs hl).trans (congrArg List.flatten (mapM_map hm fun i _ y hy hf => ?_))
        exact trod_dc fuel D e ts _ y hfl hsz hf (dokL_all hk _ (List.mem_map_of_mem hy))
    · cases h

theorem laid_at : ∀ {laid : List (String × DataW Unit)} {ps : List MemPlace}, DataW.LaidVars P w laid ps → ∀ {x : String × DataW Unit}, x ∈ laid → ∃ g t cs fuel p, P.globalNamed x.1 = some g ∧ (P.globals[g]?).map (·.type) = some t ∧ w.var? P x.1 = some cs ∧ DataW.trod (fun _ => ()) P w 0 (fun _ => true) false fuel t cs.toList = some (x.2, p) ∧ ∀ y ∈ MemPlace.row ⟨g, 0, none⟩ cs.size, y ∈ ps
  | [], _, _, _, hx => by cases hx
  | (n, d) :: r, ps, h, x, hx => by
    obtain ⟨g, t, cs, fuel, p, q, h1, h2, h3, h4, h5, rfl⟩ := h
    rcases List.mem_cons.1 hx with rfl | hx
    · exact ⟨g, t, cs, fuel, p, h1, h2, h3, h4, fun y hy => by simp [hy]⟩
    · obtain ⟨g, t, cs, fuel, p, k1, k2, k3, k4, k5⟩ := laid_at h5 hx
      exact ⟨g, t, cs, fuel, p, k1, k2, k3, k4, fun y hy => by simp [k5 y hy]⟩

theorem laid_tab {laid : List (String × DataW Unit)} (h : laidMet P laid w) {name : String} {d : DataW Unit} (hx : (name, d) ∈ laid) {g : Nat} {t e : TypeId} {ts : List TypeId} {D n : Nat} (hg : P.globalNamed name = some g) (ht : (P.globals[g]?).map (·.type) = some t)
    (hu : P.underlying t = some (.array n e)) (hsz : szOf P e = some ts.length) (hfl : flat P D e = some ts) (hst : szOf P t = some (n * ts.length)) (hk : dok d = true) (hpos : 0 < (dc d).length) :
    ∃ (c : Array Value) (ty : TypeId), w.heap[g]? = some (.cells c ty (0, 0)) ∧ c.toList = dc d := by
  obtain ⟨ps, hl, _, hz⟩ := h
  obtain ⟨g', t', cs, fuel, p, h1, h2, h3, h4, h5⟩ := laid_at hl hx
  obtain rfl := Option.some.inj (hg.symm.trans h1)
  obtain rfl := Option.some.inj (ht.symm.trans h2)
  have hcs := trod_arr hu hsz hfl hst h4 hk
  have hpos' : 0 < cs.size := by rw [← hcs] at hpos; simpa using hpos
  obtain ⟨⟨c, ty, hb⟩, _⟩ := hz g 0 (h5 _ (by unfold MemPlace.row; rw [List.mem_map]; exact ⟨0, by simpa using hpos', rfl⟩))
  refine ⟨c, ty, hb, ?_⟩
  have : w.var? P name = some c := by simp only [World.var?, hg, Option.bind_some, hb]
  obtain rfl := Option.some.inj (this.symm.trans h3)
  exact hcs

def tabO (e : TypeId) (vs : List Value) : AObj := ⟨.cells #[] e, false, RV.ofList vs⟩

theorem rel_tab {ρ : Ren} {H : AHeap} {g : Nat} {e : TypeId} {c : Array Value} {vs : List Value} (r : Rel P ρ H w) (hg : g < P.globals.size) (hex : ρ.ex g = 0) (hinj : ∀ n, H.get n ≠ none → ρ.blk n = g → n = g)
    (hb : w.heap[g]? = some (.cells c e (0, 0))) (hc : c.toList = vs) (ha : afL vs = true) : Rel P ρ (H.put g (some (tabO e vs))) w := by
  obtain ⟨hbk, hsh⟩ := r.glob.2 g hg
  have hav : ∀ x ∈ vs, af x = true := by
    intro x hx
    clear hc hinj
    induction vs with
    | nil => cases hx
    | cons y ys ih =>
      simp only [afL, Bool.and_eq_true] at ha
      rcases List.mem_cons.1 hx with rfl | hx
      · exact ha.1
      · exact ih ha.2 hx
  have hgd : ∀ i, i < vs.length → af (vs.getD i undef) = true := fun i hi => hav _ (by simp [List.getD_eq_getElem?_getD, List.getElem?_eq_getElem hi])
  have hget : ∀ m, (H.put g (some (tabO e vs))).get m = if m = g then some (tabO e vs) else H.get m := fun m => AHeap.get_put H g _ m
  refine ⟨r.base, r.glob, fun m n hm hn he => ?_, fun n o hn => ?_, fun n o hn => ?_⟩
  · rw [hget] at hm hn
    by_cases h1 : m = g
    · subst h1
      by_cases h2 : n = m
      · exact .inl h2.symm
      · rw [if_neg h2] at hn
        exact .inl (hinj n hn (he.symm.trans hbk)).symm
    · rw [if_neg h1] at hm
      by_cases h2 : n = g
      · subst h2
        exact .inl (hinj m hm (he.trans hbk))
      · rw [if_neg h2] at hn
        rw [hget, hget, if_neg h1, if_neg h2]
        exact r.inj m n hm hn he
  · rw [hget] at hn
    by_cases h : n = g
    · subst h
      rw [if_pos rfl] at hn
      cases hn
      refine ⟨Nat.lt_of_lt_of_le hg r.glob.1, ?_⟩
      simp only [sco, tabO, RV.n_ofList, RV.get_ofList]
      intro i hi
      exact scb_of_af _ (hgd i hi)
    · rw [if_neg h] at hn
      exact r.dom n o hn
  · rw [hget] at hn
    by_cases h : n = g
    · subst h
      rw [if_pos rfl] at hn
      cases hn
      refine ⟨_, by rw [hbk]; exact hb, ?_⟩
      have hcs : c.size = vs.length := by rw [← hc]; simp
      simp only [Fits, tabO]
      refine ⟨c, (0, 0), rfl, fun i hi => ?_, fun _ => ⟨by rw [RV.n_ofList, hcs], hsh, hex, rfl⟩, fun h => (by cases h)⟩
      simp only [RV.n_ofList] at hi
      rw [RV.get_ofList, val_af _ _ (hgd i hi), hsh, Nat.add_zero]
      subst hc
      have : i < c.size := by simpa using hi
      simp [List.getD_eq_getElem?_getD, this]
    · rw [if_neg h] at hn
      exact r.obj n o hn

def tabsH (N : Nat) : List (Nat × TypeId × List Value) → AHeap
  | [] => AHeap.none N
  | (g, e, vs) :: r => (tabsH N r).put g (some (tabO e vs))
theorem tabsH_next (N : Nat) : ∀ T, (tabsH N T).next = N ∧ (tabsH N T).base = N ∧ (tabsH N T).dirty = []
  | [] => ⟨rfl, rfl, rfl⟩
  | (_, _, _) :: r => tabsH_next N r

def ansT (P : Program) (K : FuncId → List Value → AHeap → Option Value) (fuel : Nat) (f : FuncId) (args : List Value) (v : Value) (T : List (Nat × TypeId × List Value)) : Bool :=
  match call P K fuel f args (tabsH P.globals.size T) with
  | some (.ok u, H1) => sameW u v && H1.dirty.isEmpty
  | _ => false

theorem rel_tabs : ∀ (T : List (Nat × TypeId × List Value)), (∀ x ∈ T, x.1 < P.globals.size ∧ afL x.2.2 = true ∧ ∃ c, w.heap[x.1]? = some (.cells c x.2.1 (0, 0)) ∧ c.toList = x.2.2) → Rel P Ren.same (tabsH P.globals.size T) w
  | [], _ => rel_none P w
  | (g, e, vs) :: r, h => by
    obtain ⟨h1, h2, c, h3, h4⟩ := h (g, e, vs) (by simp)
    exact rel_tab (rel_tabs r fun x hx => h x (by simp [hx])) h1 rfl (fun n _ hn => hn) h3 h4 h2

theorem ansT_in (hmix : P.follows .mixedOrders = true) {L : FuncId → List Value → AHeap → Option Value} (hK : Known P L) {fuel : Nat} {f : FuncId} {args : List Value} {v : Value} {T : List (Nat × TypeId × List Value)} (ha : args.all af = true) (h : ansT P L fuel f args v T = true)
    (hT : ∀ x ∈ T, x.1 < P.globals.size ∧ afL x.2.2 = true ∧ ∃ c, w.heap[x.1]? = some (.cells c x.2.1 (0, 0)) ∧ c.toList = x.2.2) (F : Fence) (n : Nat) (hF : WideF F) :
    CallsIn F n P f args.toArray w (fun e w' => e = .returned v ∧ RowKit.Below w.heap.size w w') ∧ af v = true := by
  unfold ansT at h
  split at h
  · rename_i u H1 hc
    simp only [Bool.and_eq_true] at h
    obtain ⟨h, hd⟩ := h
    obtain ⟨rfl, hv⟩ := sameW_eq h
    refine ⟨?_, hv⟩
    have := call_in hmix hK (rel_tabs T hT) hc (scbL_of_af _ (afL_of fun x hx => List.all_eq_true.1 ha x hx)) (F := F) (n := n) hF
    rw [map_af _ args (fun x hx => List.all_eq_true.1 ha x hx)] at this
    refine this.mono ?_
    rintro e w' ⟨ρ1, rfl, s⟩
    refine ⟨by rw [val_af ρ1 _ hv], s.os, s.tape, s.output, s.size, fun b hb => s.old b hb fun n hn hor _ => ?_⟩
    obtain ⟨t1, t2, _⟩ := tabsH_next P.globals.size T
    rcases hor with h | h
    · omega
    · rw [List.isEmpty_iff.1 hd] at h
      cases h
  · cases h

theorem tab_world {ρ : Ren} {H : AHeap} {g : Nat} {e : TypeId} {vs : List Value} (r : Rel P ρ H w) (hg : g < P.globals.size) (hb : bk H g = some ⟨e, false, vs⟩) (ha : afL vs = true) : ∃ c, w.heap[g]? = some (.cells c e (0, 0)) ∧ c.toList = vs := by
  obtain ⟨hbk, hsh⟩ := r.glob.2 g hg
  have hav : ∀ x ∈ vs, af x = true := by
    intro x hx
    clear hb
    induction vs with
    | nil => cases hx
    | cons y ys ih =>
      simp only [afL, Bool.and_eq_true] at ha
      rcases List.mem_cons.1 hx with rfl | hx
      · exact ha.1
      · exact ih ha.2 hx
  simp only [bk, Option.map_eq_some_iff] at hb
  obtain ⟨⟨rv, e', o⟩, hc, hx⟩ := hb
  simp only [Bl.mk.injEq] at hx
  obtain ⟨rfl, rfl, rfl⟩ := hx
  obtain ⟨z, q, hgt⟩ := cellsAt_get hc
  obtain ⟨o', hw, hfit⟩ := r.obj _ _ hgt
  simp only [Fits] at hfit
  obtain ⟨c, fz, rfl, hcs, hcl, _⟩ := hfit
  obtain ⟨k1, k2, k3, rfl⟩ := hcl trivial
  rw [hbk] at hw
  refine ⟨c, hw, ?_⟩
  apply List.ext_getElem?
  intro i
  rw [RV.gets_eq]
  by_cases hi : i < rv.n
  · have h1 := hcs i hi
    rw [k2, Nat.add_zero] at h1
    have h2 : rv.get i ∈ rv.gets 0 rv.n := by rw [RV.gets_eq, List.mem_map]; exact ⟨i, by simpa using hi, by simp⟩
    rw [val_af ρ _ (hav _ h2)] at h1
    rw [List.getElem?_map, List.getElem?_range hi]
    simpa using h1
  · rw [List.getElem?_eq_none (by simp; omega), List.getElem?_eq_none (by simp; omega)]

theorem callS_tab (hmix : P.follows .mixedOrders = true) {L : FuncId → List Value → AHeap → Option Value} (hK : Known P L) {fuel : Nat} {f : FuncId} {args : List Value} {v : Value} {T : List (Nat × TypeId × List Value)} {H : AHeap} (ha : args.all af = true) (h : ansT P L fuel f args v T = true)
    (hT : ∀ x ∈ T, x.1 < P.globals.size ∧ afL x.2.2 = true ∧ bk H x.1 = some ⟨x.2.1, false, x.2.2⟩) : CallS P f args H (.ok v) H := by
  intro ρ w r hsc F n R hF hR
  rw [map_af ρ args (fun x hx => List.all_eq_true.1 ha x hx)]
  obtain ⟨h1, hv⟩ := ansT_in (w := w) hmix hK ha h (fun x hx => ⟨(hT x hx).1, (hT x hx).2.1, tab_world r (hT x hx).1 (hT x hx).2.2 (hT x hx).2.1⟩) F n hF
  refine h1.mono ?_
  rintro e w' ⟨rfl, hb⟩
  have := hR ρ w' (St.below r hb) (scb_of_af _ hv)
  rwa [val_af ρ _ hv] at this
end
end Go.Ax

/- Walk rules: operations on bits, comparisons of strings, maps that are new, function values. -/
namespace Go.Ax
set_option linter.unusedSimpArgs false

section
variable {P : Program} {ro : Option Nat} {H : AHeap} {N : Nat} {E : Env} {ds : List Deferred} {ops : Array Oper} {rest : List Oper} {d : Nat} {ty : TypeId} {pos : String} {after : Array Edge} {Q : Exit → AAct → AHeap → Prop}

theorem w_plain {op : BinOp} {t u : TypeId} {x y : Operand} {p q v : Value} (hx : opOk P N x = true) (hy : opOk P N y = true) (hp : opv E x = p) (hq : opv E y = q) (hd : d < N) (h0 : aBin P H op t p q = none) (h1 : af p = true) (h2 : af q = true) (h : peval P (do eqGuard op t x y p q; binOp op t p q) = some v) (h3 : af v = true) :
    wpOps P ro ops (⟨some d, .binOp op t x y u, ty, pos, after, none⟩ :: rest) (mkA N E ds) H Q = wpOps P ro ops rest (mkA N (upd E d v) ds) H Q :=
  (w_rv (x := some v) rfl (by simp only [aop, xBin, aeval_opv hx, aeval_opv hy, hp, hq, Option.bind_eq_bind, Option.bind_some, binV, h0, h1, h2, aPlain, h, h3, Bool.and_self, if_true, Option.map_some]; rfl) hd).trans valC_some

def bAnd (k : IntKind) (x y : Int) : Int := k.wrap ((BitVec.ofInt k.bits x &&& BitVec.ofInt k.bits y).toNat : Int)
def bOr (k : IntKind) (x y : Int) : Int := k.wrap ((BitVec.ofInt k.bits x ||| BitVec.ofInt k.bits y).toNat : Int)
def bNot (k : IntKind) (x y : Int) : Int := k.wrap ((BitVec.ofInt k.bits x &&& ~~~BitVec.ofInt k.bits y).toNat : Int)
def bShl (k : IntKind) (x : Int) (n : Nat) : Int := k.wrap (x * 2 ^ (min n k.bits))
def bShr (k : IntKind) (x : Int) (n : Nat) : Int := x.fdiv (2 ^ (min n k.bits))

def bitV (op : BinOp) : Value → Value → Option Value
  | .int k a, .int k' b => (match op with
    | .and => if k = k' then some (.int k (bAnd k a b)) else none
    | .or => if k = k' then some (.int k (bOr k a b)) else none
    | .andNot => if k = k' then some (.int k (bNot k a b)) else none
    | .shl => if 0 ≤ b then some (.int k (bShl k a b.toNat)) else none
    | .shr => if 0 ≤ b then some (.int k (bShr k a b.toNat)) else none
    | _ => none)
  | .string a, .string b => (match op with
    | .eql => some (.bool (a.toList == b.toList))
    | _ => none)
  | _, _ => none

theorem w_bits {op : BinOp} {t u : TypeId} {x y : Operand} {p q v : Value} (hx : opOk P N x = true) (hy : opOk P N y = true) (hp : opv E x = p) (hq : opv E y = q) (hd : d < N) (h : bitV op p q = some v) (h0 : aBin P H op t p q = none) :
    wpOps P ro ops (⟨some d, .binOp op t x y u, ty, pos, after, none⟩ :: rest) (mkA N E ds) H Q = wpOps P ro ops rest (mkA N (upd E d v) ds) H Q := by
  unfold bitV at h
  split at h
  · rename_i k a k' b
    split at h <;> try split at h
    · rename_i hk
      subst hk
      simp only [Option.some.injEq] at h
      subst h
      exact w_plain hx hy hp hq hd h0 rfl rfl (by simp [eqGuard, binOp, peval, Op.intBits, bAnd, pure, bind, Sem.bind]) rfl
    · cases h
    · rename_i hk
      subst hk
      simp only [Option.some.injEq] at h
      subst h
      exact w_plain hx hy hp hq hd h0 rfl rfl (by simp [eqGuard, binOp, peval, Op.intBits, bOr, pure, bind, Sem.bind]) rfl
    · cases h
    · rename_i hk
      subst hk
      simp only [Option.some.injEq] at h
      subst h
      exact w_plain hx hy hp hq hd h0 rfl rfl (by simp [eqGuard, binOp, peval, Op.intBits, bNot, pure, bind, Sem.bind]) rfl
    · cases h
    · rename_i hb
      simp only [Option.some.injEq] at h
      subst h
      exact w_plain hx hy hp hq hd h0 rfl rfl (by simp [eqGuard, binOp, peval, Op.shift, bShl, pure, bind, Sem.bind, show ¬ b < 0 by omega]) rfl
    · cases h
    · rename_i hb
      simp only [Option.some.injEq] at h
      subst h
      exact w_plain hx hy hp hq hd h0 rfl rfl (by simp [eqGuard, binOp, peval, Op.shift, bShr, pure, bind, Sem.bind, show ¬ b < 0 by omega]) rfl
    · cases h
    all_goals cases h
  · rename_i a b
    split at h
    · simp only [Option.some.injEq] at h
      subst h
      exact w_plain hx hy hp hq hd h0 rfl rfl (by simp [eqGuard, binOp, peval, Op.stringOp, pure, bind, Sem.bind]) rfl
    · cases h
  · cases h

theorem bin_nobit {op : BinOp} {t : TypeId} {p q v : Value} (hop : op = .and ∨ op = .or ∨ op = .andNot ∨ op = .shl ∨ op = .shr) (h : bitV op p q = some v) : aBin P H op t p q = none := by
  unfold bitV at h
  split at h
  · rename_i k a k' b
    simp only [aBin]
    split
    · rcases hop with rfl | rfl | rfl | rfl | rfl <;> rfl
    · rfl
  · rcases hop with rfl | rfl | rfl | rfl | rfl <;> cases h
  · cases h
theorem w_bit {op : BinOp} {t u : TypeId} {x y : Operand} (hop : op = .and ∨ op = .or ∨ op = .andNot ∨ op = .shl ∨ op = .shr) (hx : opOk P N x = true) (hy : opOk P N y = true) (hd : d < N) (h : (bitV op (opv E x) (opv E y)).isSome = true) :
    wpOps P ro ops (⟨some d, .binOp op t x y u, ty, pos, after, none⟩ :: rest) (mkA N E ds) H Q = valC P ro ops rest N E ds d H Q (bitV op (opv E x) (opv E y)) := by
  cases hv : bitV op (opv E x) (opv E y) with
  | none => rw [hv] at h; cases h
  | some v => exact (w_bits hx hy rfl rfl hd hv (bin_nobit hop hv)).trans valC_some.symm
theorem w_and {t u : TypeId} {x y : Operand} (hx : opOk P N x = true) (hy : opOk P N y = true) (hd : d < N) (h : (bitV .and (opv E x) (opv E y)).isSome = true) : wpOps P ro ops (⟨some d, .binOp .and t x y u, ty, pos, after, none⟩ :: rest) (mkA N E ds) H Q = valC P ro ops rest N E ds d H Q (bitV .and (opv E x) (opv E y)) := w_bit (by simp) hx hy hd h
theorem w_or {t u : TypeId} {x y : Operand} (hx : opOk P N x = true) (hy : opOk P N y = true) (hd : d < N) (h : (bitV .or (opv E x) (opv E y)).isSome = true) : wpOps P ro ops (⟨some d, .binOp .or t x y u, ty, pos, after, none⟩ :: rest) (mkA N E ds) H Q = valC P ro ops rest N E ds d H Q (bitV .or (opv E x) (opv E y)) := w_bit (by simp) hx hy hd h
theorem w_andNot {t u : TypeId} {x y : Operand} (hx : opOk P N x = true) (hy : opOk P N y = true) (hd : d < N) (h : (bitV .andNot (opv E x) (opv E y)).isSome = true) : wpOps P ro ops (⟨some d, .binOp .andNot t x y u, ty, pos, after, none⟩ :: rest) (mkA N E ds) H Q = valC P ro ops rest N E ds d H Q (bitV .andNot (opv E x) (opv E y)) := w_bit (by simp) hx hy hd h
theorem w_shl {t u : TypeId} {x y : Operand} (hx : opOk P N x = true) (hy : opOk P N y = true) (hd : d < N) (h : (bitV .shl (opv E x) (opv E y)).isSome = true) : wpOps P ro ops (⟨some d, .binOp .shl t x y u, ty, pos, after, none⟩ :: rest) (mkA N E ds) H Q = valC P ro ops rest N E ds d H Q (bitV .shl (opv E x) (opv E y)) := w_bit (by simp) hx hy hd h
theorem w_shr {t u : TypeId} {x y : Operand} (hx : opOk P N x = true) (hy : opOk P N y = true) (hd : d < N) (h : (bitV .shr (opv E x) (opv E y)).isSome = true) : wpOps P ro ops (⟨some d, .binOp .shr t x y u, ty, pos, after, none⟩ :: rest) (mkA N E ds) H Q = valC P ro ops rest N E ds d H Q (bitV .shr (opv E x) (opv E y)) := w_bit (by simp) hx hy hd h
theorem bit_and {k : IntKind} {a b : Int} : bitV .and (.int k a) (.int k b) = some (.int k (bAnd k a b)) := by simp only [bitV, if_true]
theorem bit_or {k : IntKind} {a b : Int} : bitV .or (.int k a) (.int k b) = some (.int k (bOr k a b)) := by simp only [bitV, if_true]
theorem bit_andNot {k : IntKind} {a b : Int} : bitV .andNot (.int k a) (.int k b) = some (.int k (bNot k a b)) := by simp only [bitV, if_true]
theorem bit_shl {k k' : IntKind} {a b : Int} (h : 0 ≤ b) : bitV .shl (.int k a) (.int k' b) = some (.int k (bShl k a b.toNat)) := by simp only [bitV, h, if_true]
theorem bit_shr {k k' : IntKind} {a b : Int} (h : 0 ≤ b) : bitV .shr (.int k a) (.int k' b) = some (.int k (bShr k a b.toNat)) := by simp only [bitV, h, if_true]
theorem w_eqStr {t u : TypeId} {x y : Operand} {a b : ByteArray} (hx : opOk P N x = true) (hy : opOk P N y = true) (hp : opv E x = .string a) (hq : opv E y = .string b) (hd : d < N) (h0 : aBin P H .eql t (.string a) (.string b) = none) : wpOps P ro ops (⟨some d, .binOp .eql t x y u, ty, pos, after, none⟩ :: rest) (mkA N E ds) H Q = wpOps P ro ops rest (mkA N (upd E d (.bool (a.toList == b.toList))) ds) H Q :=
  w_bits hx hy hp hq hd rfl h0

def mapO (es : List MapEntry) (c : Nat) : AObj := ⟨.map ⟨es⟩ c, false, ⟨[], 0⟩⟩
theorem w_mkmap {t : TypeId} (hd : d < N) : wpOps P ro ops (⟨some d, .makeMap t none, ty, pos, after, none⟩ :: rest) (mkA N E ds) H Q = wpOps P ro ops rest (mkA N (upd E d (.map (some H.next))) ds) (H.new (mapO [] 0)) Q := by
  rw [w_op rfl rfl]
  simp only [opA, aop, xMakeMap, mapNew, nextA, opC, put_some N E ds d _ hd]
  rfl
theorem w_ins {t : TypeId} {x k y : Operand} (hx : opOk P N x = true) (hk : opOk P N k = true) (hy : opOk P N y = true) : wpOps P ro ops (⟨none, .insert t x k y, ty, pos, after, none⟩ :: rest) (mkA N E ds) H Q = storeC P ro ops rest (mkA N E ds) Q (aMapUpdate P H t (opv E x) (opv E k) (opv E y)) := by
  rw [w_op rfl rfl]
  simp only [opA, aop, xMapUpdate, aeval_opv hx, aeval_opv hk, aeval_opv hy, ruh, Option.bind_eq_bind, Option.bind_some]
  cases aMapUpdate P H t (opv E x) (opv E k) (opv E y) with
  | none => rfl
  | some H1 => simp only [Option.map_some, nextA, opC, put_none, storeC]
theorem w_lookup {t : TypeId} {x k : Operand} {ok : Bool} (hx : opOk P N x = true) (hk : opOk P N k = true) (hd : d < N) : wpOps P ro ops (⟨some d, .lookup t x k ok, ty, pos, after, none⟩ :: rest) (mkA N E ds) H Q = valC P ro ops rest N E ds d H Q (aLookup P H t (opv E x) (opv E k) ok) :=
  w_rv rfl (by simp only [aop, xLookup, aeval_opv hx, aeval_opv hk, Option.bind_eq_bind, Option.bind_some]) hd

theorem upd_newMap {t key el : TypeId} {kd : TypeDesc} {k v : Value} {es : List MapEntry} {c m : Nat} (hm : H.next = m) (hok : H.base ≤ H.next) (hu : P.underlying t = some (.map key el)) (hk : P.underlying key = some kd) (h1 : (keyOk k && keyKind kd) = true) (h2 : scb (H.next + 1) v = true) (hf : Instr.findNow kd k es 0 = some none) :
    aMapUpdate P (H.new (mapO es c)) t (.map (some m)) k v = some (H.new (mapO (es ++ [{ key := k, val := v, born := c }]) (c + 1))) := by
  subst hm
  have hg : (H.new (mapO es c)).get H.next = some ⟨.map ⟨es⟩ c, false, ⟨[], 0⟩⟩ := by rw [AHeap.get_new, if_pos rfl]; rfl
  have h3 : (keyOk k && keyKind kd && scb (H.new (mapO es c)).next v) = true := by rw [h1, Bool.true_and]; exact h2
  have e := new_upd (H := H) (x := mapO es c) (o := mapO (es ++ [{ key := k, val := v, born := c }]) (c + 1)) hok
  unfold aMapUpdate
  rw [hu]
  simp only [hg, hk, Option.bind_eq_bind, Option.bind_some, h3, if_true, hf]
  rw [← e]
  simp [mapO]
end

end Go.Ax

/- Walks over abstract heaps: conversions of numbers, copy, slices of exact slices. -/
namespace Go.Ax
section
variable {P : Program} {H : AHeap} {N : Nat} {E : Env} {ds : List Deferred} {ro : Option Nat} {ops : Array Oper} {rest : List Oper} {d : Nat} {ty : TypeId} {pos : String} {after : Array Edge}

theorem w_convert {Q : Exit → AAct → AHeap → Prop} {x : Operand} {s t : TypeId} (hx : opOk P N x = true) : wpOps P ro ops (⟨some d, .convert s t x, ty, pos, after, none⟩ :: rest) (mkA N E ds) H Q = heapC P ro ops rest N E ds (some d) Q (aConvert P H s t (opv E x)) :=
  w_rvh rfl (by simp only [aop, xConvert, aeval_opv hx, Option.bind_eq_bind, Option.bind_some])

theorem cv_int {s t : TypeId} {u : TypeDesc} {k k0 : IntKind} {n : Int} (hs : P.underlying s = some u) (ht : P.underlying t = some (.int k)) : aConvert P H s t (.int k0 n) = some (.int k (k.wrap n), H) := by
  simp only [aConvert, hs, ht]

theorem mk_slice {t e : TypeId} {sz by1 n : Nat} {z : Value} (hu : P.underlying t = some (.slice e)) (hsz : szOf P e = some sz) (hby : bytesOf P e = some by1) (hz : zeroOf P e = some z) (hzl : z.cells.toList.length = sz) (hsm : small n by1 = true) :
    aMakeSlice P H t (.int .i64 (n : Int)) (.int .i64 (n : Int)) = (aNew H e (zerosL z.cells.toList n) false).map fun g => (.slice (some ⟨H.next, 0, some 0⟩) n n, g) := by
  simp only [aMakeSlice, hu, hsz, hby, hz, Option.bind_eq_bind, Option.bind_some, Int.toNat_natCast]
  rw [if_pos ⟨by omega, Int.le_refl _, hsm, hzl⟩]
  cases aNew H e (zerosL z.cells.toList n) false <;> rfl

theorem cp_sliceR {dt st e : TypeId} {sz m off dl dc n off2 sl sc : Nat} {s s2 : Option Nat} {b : Bl} (hu : P.underlying dt = some (.slice e)) (hsz : szOf P e = some sz) (hs : s.getD 0 = 0) (hb : rk H n = some b) (hle : off2 + Nat.min sl dl * sz ≤ b.l.length) :
    aBuiltin P H .copy ⟨[dt, st]⟩ [.slice (some ⟨m, off, s⟩) dl dc, .slice (some ⟨n, off2, s2⟩) sl sc] = (aWrite H m off ((b.l.drop off2).take (Nat.min sl dl * sz))).map fun g => (goInt (Nat.min sl dl), g) := by
  simp only [aBuiltin, aCopy, hu, hsz, Option.bind_eq_bind, Option.bind_some, lenV, first_rk hb hle]
  rw [if_pos (.inl hs)]
  cases aWrite H m off ((b.l.drop off2).take (Nat.min sl dl * sz)) <;> rfl
theorem cp_slice {dt st e : TypeId} {sz m off dl dc n off2 sl sc : Nat} {s s2 : Option Nat} {b : Bl} (hu : P.underlying dt = some (.slice e)) (hsz : szOf P e = some sz) (hs : s.getD 0 = 0) (hb : bk H n = some b) (hle : off2 + Nat.min sl dl * sz ≤ b.l.length) :
    aBuiltin P H .copy ⟨[dt, st]⟩ [.slice (some ⟨m, off, s⟩) dl dc, .slice (some ⟨n, off2, s2⟩) sl sc] = (aWrite H m off ((b.l.drop off2).take (Nat.min sl dl * sz))).map fun g => (goInt (Nat.min sl dl), g) := cp_sliceR hu hsz hs (rk_of hb) hle

theorem sl_exact {t e : TypeId} {sz n off len cap : Nat} {lo hi : Option Value} {l h : Nat} (hu : P.underlying t = some (.slice e)) (hsz : szOf P e = some sz) (hl : bound 0 lo = some l) (hh : bound len hi = some h) (h1 : h ≤ cap) (h2 : l ≤ h) (h3 : l < cap) :
    aSlice P H t (.slice (some ⟨n, off, some 0⟩) len cap) lo hi none = some (.slice (some ⟨n, off + l * sz, some 0⟩) (h - l) (cap - l), H) := by
  simp only [aSlice, hu, hsz, aSlice2, hl, hh, Option.bind_eq_bind, Option.bind_some, exactAt]
  rw [if_pos ⟨h1, h2⟩, if_neg (by omega)]

theorem wd_slice {Q : AAct → AHeap → Prop} {i : Nat} {fps : List Fp} {anc : List Nat} {t : TypeId} {x : Operand} {lo hi mx : Option Operand} {dst : Option Nat} :
    wkD P ops anc (⟨dst, .slice t x lo hi mx, ty, pos, after, none⟩ :: rest) i fps (mkA N E ds) H Q = genV P ops anc ⟨dst, .slice t x lo hi mx, ty, pos, after, none⟩ rest i fps (mkA N E ds) H Q := by
  simp only [wkD, wantA, stepD, pureOp, restD, newOp, genV]
theorem wd_copy {Q : AAct → AHeap → Prop} {i : Nat} {fps : List Fp} {anc : List Nat} {args : List Operand} {ts : Array TypeId} {dst : Option Nat} (ha : args.all (opOk P N) = true) :
    wkD P ops anc (⟨dst, .call ⟨.builtin .copy, ⟨args⟩, ts⟩, ty, pos, after, none⟩ :: rest) i fps (mkA N E ds) H Q = genV P ops anc ⟨dst, .call ⟨.builtin .copy, ⟨args⟩, ts⟩, ty, pos, after, none⟩ rest i fps (mkA N E ds) H Q := by
  simp only [wkD, wantA, stepD, pureOp, restD, newOp, genV, aevals_opv ha, btD, regBt]

theorem genV_val {o : Oper} {Q : AAct → AHeap → Prop} {i : Nat} {fps : List Fp} {anc : List Nat} {v : Value} (hdst : o.dst = some d) (hd : d < N) (hop : ∀ G, aop o.op P (mkA N E ds) G = some (.value v, G)) (hm : ∀ r ∈ fps, Meets (anc.getD i 0) [] [] (idsV v ++ ([] : List Bl).flatMap fun x => idsL x.l) r)
    (h : wkD P ops anc rest (i + 1) (⟨i, [], [], H.next, H.next + 0⟩ :: fps) (mkA N (upd E d v) ds) H Q) : genV P ops anc o rest i fps (mkA N E ds) H Q :=
  genV_extO (v := v) (M := []) [] hdst hd (fun _ h => by cases h) (fun G _ _ => opS_of (x := .value v) (g := G) (hop G) ⟨rfl, rfl⟩) hm h

theorem slice_aop {t : TypeId} {x : Operand} {lo hi mx : Option Operand} {v : Value} {G : AHeap} (hx : opOk P N x = true) (h1 : bndsOk P N lo = true) (h2 : bndsOk P N hi = true) (h3 : bndsOk P N mx = true) (h : aSlice P G t (opv E x) (bnds E lo) (bnds E hi) (bnds E mx) = some (v, G)) :
    aop (.slice t x lo hi mx) P (mkA N E ds) G = some (.value v, G) := by
  simp only [aop, xSlice, aeval_opv hx, optEval_b h1, optEval_b h2, optEval_b h3, Option.bind_eq_bind, Option.bind_some, h, rvh, Option.map_some]
theorem builtin_op {args : List Operand} {b : Builtin} {ts : Array TypeId} {dst : Option Nat} {v : Value} {G : AHeap} (ha : args.all (opOk P N) = true) (h : aBuiltin P H b ts (args.map (opv E)) = some (v, G)) : OpS P (mkA N E ds) H ⟨dst, .call ⟨.builtin b, ⟨args⟩, ts⟩, ty, pos, after, none⟩ (.ok v) G :=
  opS_of (x := .value v) (g := G) (by simp only [aop, xCall, aevals_opv ha, Option.bind_eq_bind, Option.bind_some, h, rvh, Option.map_some]) ⟨rfl, rfl⟩

end
end Go.Ax

/- Products: the kit's contract of bits.Mul64, for the abstract heap. -/
namespace Go.Ax
theorem w_condK {P : Program} {ro : Option Nat} {b : Bool} {x y : Code} {Q : Exit → AAct → AHeap → Prop} {a : AAct} {H : AHeap} : wpA P ro (.cond (.const (.bool b)) x y) Q a H = condC P ro x y Q a H (.bool b) := by
  simp only [wpA, condC, aeval, af, if_true]
end Go.Ax
namespace Go.Proofs.YtfpckllenkifkaaDoor
open Go.Ax
set_option linter.unusedSimpArgs false
set_option maxRecDepth 100000

def rhoM : Go.Shelf.Ren := ⟨fun n => if n = 264 then 91 else 0, fun n => if n = 46 then 106 else if n = 53 then 124 else n, fun n => n⟩
theorem laysM : Go.Proofs.Lays.n264 Tryd.prog rhoM := by
  constructor
  all_goals first
    | exact mixed
    | kernel_rfl
    | (intro w; kernel_rfl)

theorem mul64_c (H : AHeap) (w : Nat) (hw : w < 1000000) : Pure 91 [.int .u64 1, .int .u64 (w : Int)] H (.tuple #[.int .u64 0, .int .u64 (w : Int)]) := by
  intro ρ W r hsc F n R hF hR
  have hc := Go.Proofs.Any.bits_Mul64 laysM 1 w (by omega) (by omega) W
  have h0 : 1 * w / 18446744073709551616 = 0 := by omega
  have h1 : 1 * w % 18446744073709551616 = w := by omega
  rw [h0, h1] at hc
  have e1 : [Value.int .u64 1, Value.int .u64 (w : Int)].map ρ.val = [Value.int .u64 1, Value.int .u64 (w : Int)] := map_af ρ _ (fun x hx => by simp only [List.mem_cons, List.not_mem_nil, or_false] at hx; rcases hx with rfl | rfl <;> rfl)
  rw [e1]
  refine (hF.calls hc).mono ?_
  rintro e w' ⟨rfl, rfl⟩
  have := hR ρ w' (St.refl r) rfl
  rwa [val_af ρ _ rfl] at this

theorem mul_c (H : AHeap) (w : Nat) (hw : w < 1000000) : Pure 54 [.int .u64 1, .int .u64 (w : Int)] H (.tuple #[.int .u64 0, .int .u64 (w : Int)]) := by
  refine callS_fn mixed Tryd.func54 rfl Tryd.ntmps54 (Nat.le_of_ble_eq_true rfl) fun wf hsc => ?_
  simp (maxDischargeDepth := 6) only [w_condK, ruW, putL, Nat.reduceLeDiff, xF, ruU, entryE, Nat.reduceLT, Nat.reduceAdd, Nat.reduceMul, Nat.reduceEqDiff]
  refine (mul64_c (ext H []) w hw).to ?_
  simp (maxDischargeDepth := 6) only [Tryd.results54, ruW, putL, Nat.reduceLeDiff, xF, ruU, entryE, Nat.reduceLT, Nat.reduceAdd, Nat.reduceMul, Nat.reduceEqDiff]
  exact Fin.pureE rfl rfl

end Go.Proofs.YtfpckllenkifkaaDoor

/- What slices.Repeat of one cell comes to. -/
namespace Go.Proofs.YtfpckllenkifkaaDoor
open Go.Ax
set_option linter.unusedSimpArgs false
set_option maxRecDepth 10000

abbrev Ce.zero : Ce := ⟨0, 0, 0, false, false, false⟩
abbrev Ce.blank : Ce := ⟨32, 0, 0, false, false, false⟩
theorem zeros_cs (n : Nat) : zerosL Ce.zero.cells n = csOf (List.replicate n Ce.zero) := by
  induction n with
  | zero => rfl
  | succ n ih => rw [zerosL, ih, List.replicate_succ, csOf_cons]

theorem mkCells {X : AHeap} {w : Nat} (h : w ≤ 1000) : aMakeSlice Tryd.prog X 39 (.int .i64 (w : Int)) (.int .i64 (w : Int)) = (aNew X 68 (csOf (List.replicate w Ce.zero)) false).map fun g => (.slice (some ⟨X.next, 0, some 0⟩) w w, g) := by
  rw [mk_slice (e := 68) (sz := 6) (by1 := 32) (z := Ce.zero.val) (by kernel_rfl) (by kernel_rfl) (by kernel_rfl) (by kernel_rfl) rfl (by simp only [small, Bool.and_eq_true, Nat.ble_eq]; omega)]
  rw [show Ce.zero.val.cells.toList = Ce.zero.cells from rfl, zeros_cs]

theorem wrap_u64 {n : Nat} (h : n < 100000) : IntKind.u64.wrap (n : Int) = n := by
  simp only [IntKind.wrap, IntKind.signed, IntKind.bits]
  simp
  omega
theorem csOf_take (l : List Ce) (k : Nat) : (csOf l).take (k * 6) = csOf (l.take k) := by
  induction l generalizing k with
  | nil => simp [csOf]
  | cons c l ih =>
    cases k with
    | zero => simp [csOf]
    | succ k => rw [csOf_cons, List.take_succ_cons, csOf_cons, show (k + 1) * 6 = c.cells.length + k * 6 by simp [Ce.cells]; omega, List.take_append, List.take_of_length_le (by omega), Nat.add_sub_cancel_left, ih]
theorem csOf_drop (l : List Ce) (k : Nat) : (csOf l).drop (k * 6) = csOf (l.drop k) := by
  induction l generalizing k with
  | nil => simp [csOf]
  | cons c l ih =>
    cases k with
    | zero => simp [csOf]
    | succ k => rw [csOf_cons, List.drop_succ_cons, show (k + 1) * 6 = c.cells.length + k * 6 by simp [Ce.cells]; omega, List.drop_append, List.drop_eq_nil_of_le (by omega), List.nil_append, Nat.add_sub_cancel_left, ih]
theorem csOf_put (pre new old : List Ce) (h : new.length ≤ old.length) : putL (csOf (pre ++ old)) (pre.length * 6) (csOf new) = csOf (pre ++ (new ++ old.drop new.length)) := by
  have e : pre.length * 6 = (csOf pre).length := (csOf_length pre).symm
  rw [csOf_append, e, putL_at _ _ _ (by rw [csOf_length, csOf_length]; omega), csOf_length, csOf_drop, csOf_append, csOf_append]

theorem cp56 {G : AHeap} {q off dl dc n off2 sl sc : Nat} {s2 : Option Nat} {b bq : Bl} (hq : bk G q = some bq) (hlt : q < G.next) (hb : bk G n = some b) {l : List Ce} (hle : off2 + Nat.min sl dl * 6 ≤ b.l.length) (hl : (b.l.drop off2).take (Nat.min sl dl * 6) = csOf l) (hw : off + Nat.min sl dl * 6 ≤ bq.l.length) (hll : l.length = Nat.min sl dl) :
    aBuiltin Tryd.prog G .copy ⟨[39, 39]⟩ [.slice (some ⟨q, off, some 0⟩) dl dc, .slice (some ⟨n, off2, s2⟩) sl sc] = some (goInt (Nat.min sl dl), uw G q off (csOf l)) := by
  rw [cp_slice (e := 68) (sz := 6) (by kernel_rfl) (by kernel_rfl) rfl hb hle, hl]
  have := write_old (H := G) (L := []) (vs := csOf l) hlt hq (by rw [csOf_length, hll]; exact hw) (csOf_one l) (csOf_sc l _)
  rw [ext_nil, ext_nil] at this
  rw [this]
  rfl

set_option maxHeartbeats 1000000 in
theorem repeat_c (w : Nat) (h1 : 1 ≤ w) (hw : w ≤ 1000) (c : Ce) (n : Nat) (s : Option Nat) (H : AHeap) (hn : bk H n = some ⟨68, false, c.cells⟩) :
    CallS Tryd.prog 24 [.slice (some ⟨n, 0, s⟩) 1 1, .int .i64 (w : Int)] H (.ok (.slice (some ⟨H.next, 0, some 0⟩) w w)) (ext H [⟨68, false, csOf (List.replicate w c)⟩]) := by
  refine callS_one (fun wf hsc => ?_) (fun _ _ => csOf_sc _ _)
  obtain ⟨b, hb⟩ : ∃ b, H.next = b := ⟨_, rfl⟩
  have hbase : H.base ≤ b := hb ▸ wf.base
  have hnb : n < b := hb ▸ wf.lt hn
  have hneg : decide ((w : Int) < 0) = false := decide_eq_false (by omega)
  have hcv : ∀ (X : AHeap) (k : IntKind) (m : Int), aConvert Tryd.prog X 3 106 (.int k m) = some (.int .u64 (IntKind.u64.wrap m), X) := fun X k m => cv_int (u := .int .i64) (by kernel_rfl) (by kernel_rfl)
  have hcv2 : ∀ (X : AHeap) (k : IntKind) (m : Int), aConvert Tryd.prog X 106 3 (.int k m) = some (.int .i64 (IntKind.i64.wrap m), X) := fun X k m => cv_int (u := .int .u64) (by kernel_rfl) (by kernel_rfl)
  have u1 : IntKind.u64.wrap ((1 : Nat) : Int) = 1 := by decide
  have huw : IntKind.u64.wrap (w : Int) = w := wrap_u64 (by omega)
  have iw : IntKind.i64.wrap (w : Int) = w := wrap_sm (by omega) (by omega)
  have z1 : decide ((0 : Int) > 0) = false := by decide
  have z2 : decide ((w : Int) > 9223372036854775807) = false := decide_eq_false (by omega)
  refine callE_fn mixed Tryd.func24 rfl Tryd.ntmps24 (Nat.le_of_ble_eq_true rfl) ?_
  simp (maxDischargeDepth := 6) only [hneg, w_convert, hcv, u1, huw, ruW, putL, Nat.reduceLeDiff, xF, ruU, entryE, Nat.reduceLT, Nat.reduceAdd, Nat.reduceMul, Nat.reduceEqDiff]
  refine (mul_c (ext H []) w (by omega)).to ?_
  simp (maxDischargeDepth := 6) only [w_convert, hcv2, iw, z1, z2, mkCells (show w ≤ 1000 by omega), csOf_sc, hb, ruW, putL, Nat.reduceLeDiff, xF, ruU, entryE, Nat.reduceLT, Nat.reduceAdd, Nat.reduceMul, Nat.reduceEqDiff]
  generalize hG : ext H [_] = G
  have mG : Mod [] H G := hG ▸ Mod.ext wf.base
  have hGn : G.next = b + 1 := by rw [← hG, ext_next, hb]; rfl
  have hq : bk G (b + 0) = some ⟨68, false, csOf (List.replicate w Ce.zero)⟩ := by rw [← hG, bk_at hb (by simp)]; rfl
  have hnG := (mG.bk (hb ▸ hnb) (by simp)).trans hn
  have m1 : Nat.min 1 w = 1 := Nat.min_eq_left h1
  have hcp := cp56 (G := G) (q := b + 0) (off := 0) (dl := w) (dc := w) (n := n) (off2 := 0) (sl := 1) (sc := 1) (s2 := s) (l := [c]) hq (by omega) hnG (by rw [m1]; simp [Ce.cells]) (by rw [m1]; rfl) (by rw [m1, csOf_length, List.length_replicate]; omega) (by rw [m1]; rfl)
  rw [m1] at hcp
  simp (maxDischargeDepth := 6) only [hcp, ruW, putL, Nat.reduceLeDiff, xF, ruU, entryE, Nat.reduceLT, Nat.reduceAdd, Nat.reduceMul, Nat.reduceEqDiff]
  generalize hK : uw G (b + 0) 0 _ = K
  have mK : Mod [b + 0] G K := hK ▸ Mod.uw (by simp)
  have okK := mK.ok (mG.ok wf.base)
  have hKn : K.next = b + 1 := by rw [← hK, uw_next, hGn]
  have hKq : bk K (b + 0) = some ⟨68, false, csOf (List.replicate 1 c ++ List.replicate (w - 1) Ce.zero)⟩ := by
    rw [← hK, bk_uw_eq, hq]
    have := csOf_put [] [c] (List.replicate w Ce.zero) (by simp; omega)
    simp only [List.nil_append, List.length_nil, Nat.zero_mul, List.length_cons, List.drop_replicate] at this
    show some (Bl.mk 68 false (putL (csOf (List.replicate w Ce.zero)) 0 (csOf [c]))) = _
    rw [this]
    rfl
  have mHK : Mod [] H K := mG.step mK wf.base (fun k hk => .inr (by simp only [List.mem_singleton] at hk; omega))
  refine w_env fun E hE => ?_
  have g7 : E 7 = .slice (some ⟨b + 0, 0, some 0⟩) w w := by rw [hE]; simp only [ruU, entryE, Nat.reduceLT, Nat.reduceAdd, Nat.reduceMul, Nat.reduceEqDiff]
  have g8 : E 8 = .int .i64 ((1 : Nat) : Int) := by rw [hE]; (simp only [ruU, entryE, Nat.reduceLT, Nat.reduceAdd, Nat.reduceMul, Nat.reduceEqDiff] <;> rfl)
  clear hE
  refine blockC_meet (fun E' H' => Mod [] H H' ∧ bk H' (b + 0) = some ⟨68, false, csOf (List.replicate w c)⟩ ∧ E' 7 = .slice (some ⟨b + 0, 0, some 0⟩) w w) ?_ ?_
  · refine w_loop (fun (m : Nat) E' H' => Mod [] H H' ∧ b + 0 < H'.next ∧ 1 ≤ m ∧ m ≤ w ∧ bk H' (b + 0) = some ⟨68, false, csOf (List.replicate m c ++ List.replicate (w - m) Ce.zero)⟩ ∧ E' 7 = .slice (some ⟨b + 0, 0, some 0⟩) w w ∧ E' 8 = .int .i64 (m : Int)) (fun m => w - m) 1
      ⟨mHK, by omega, Nat.le_refl _, h1, hKq, g7, g8⟩ ?_
    clear g7 g8
    rintro m E X ⟨mX, lX, hm1, hmw, hqX, g7, g8⟩
    rw [show X = ext X [] from rfl]
    by_cases hme : m = w
    · have hc : decide ((m : Int) < (w : Int)) = false := by simp [hme]
      simp (maxDischargeDepth := 6) only [g7, g8, hc, ruW, putL, Nat.reduceLeDiff, xF, ruU, entryE, Nat.reduceLT, Nat.reduceAdd, Nat.reduceMul, Nat.reduceEqDiff]
      refine joinR_normal ⟨mX, ?_, ?_⟩
      · rw [ext_nil, hqX, hme, Nat.sub_self]; simp
      · simp only [g7, ruU, entryE, Nat.reduceLT, Nat.reduceAdd, Nat.reduceMul, Nat.reduceEqDiff]
    · have hlt : m < w := by omega
      have hc : decide ((m : Int) < (w : Int)) = true := decide_eq_true (by omega)
      have okX := mX.ok wf.base
      simp (maxDischargeDepth := 6) only [g7, g8, hc, ruW, putL, Nat.reduceLeDiff, xF, ruU, entryE, Nat.reduceLT, Nat.reduceAdd, Nat.reduceMul, Nat.reduceEqDiff]
      refine w_drawB [(7, 3), (7, 6), (9, 7)] [] (by kernel_rfl) (by kernel_rfl) rfl fun ops anc hA hG2 => ?_
      simp only [all2_cons] at hA
      simp (maxDischargeDepth := 6) only [g7, g8, ruD, ruW, putL, Nat.reduceLeDiff, xF, ruU, entryE, Nat.reduceLT, Nat.reduceAdd, Nat.reduceMul, Nat.reduceEqDiff]
      have hbm : bound 0 (some (.int .i64 (m : Int))) = some m := by simp [bound]
      have hbm2 : bound w (some (.int .i64 (m : Int))) = some m := by simp [bound]
      rw [wd_slice]
      refine genV_val (v := .slice (some ⟨b + 0, 0 + m * 6, some 0⟩) (w - m) (w - m)) rfl (by decide) (fun G => slice_aop (by simp (maxDischargeDepth := 6) only [ruU, entryE, Nat.reduceLT, Nat.reduceAdd, Nat.reduceMul, Nat.reduceEqDiff]) (by simp (maxDischargeDepth := 6) only [ruU, entryE, Nat.reduceLT, Nat.reduceAdd, Nat.reduceMul, Nat.reduceEqDiff, bndsOk_some]) rfl rfl ?_) (by simp (maxDischargeDepth := 6) only [ruD, ruW, putL, Nat.reduceLeDiff, xF, ruU, entryE, Nat.reduceLT, Nat.reduceAdd, Nat.reduceMul, Nat.reduceEqDiff]) ?_
      · simp only [g7, g8, bnds_some, bnds_none, ruU, entryE, Nat.reduceLT, Nat.reduceAdd, Nat.reduceMul, Nat.reduceEqDiff]
        exact sl_exact (e := 68) (sz := 6) (by kernel_rfl) (by kernel_rfl) hbm rfl (Nat.le_refl _) hmw hlt
      simp (maxDischargeDepth := 6) only [g7, g8, ruD, ruW, putL, Nat.reduceLeDiff, xF, ruU, entryE, Nat.reduceLT, Nat.reduceAdd, Nat.reduceMul, Nat.reduceEqDiff]
      rw [wd_slice]
      refine genV_val (v := .slice (some ⟨b + 0, 0 + 0 * 6, some 0⟩) (m - 0) (w - 0)) rfl (by decide) (fun G => slice_aop (by simp (maxDischargeDepth := 6) only [ruU, entryE, Nat.reduceLT, Nat.reduceAdd, Nat.reduceMul, Nat.reduceEqDiff]) rfl (by simp (maxDischargeDepth := 6) only [ruU, entryE, Nat.reduceLT, Nat.reduceAdd, Nat.reduceMul, Nat.reduceEqDiff, bndsOk_some]) rfl ?_) (by simp (maxDischargeDepth := 6) only [ruD, ruW, putL, Nat.reduceLeDiff, xF, ruU, entryE, Nat.reduceLT, Nat.reduceAdd, Nat.reduceMul, Nat.reduceEqDiff]) ?_
      · simp only [g7, g8, bnds_some, bnds_none, ruU, entryE, Nat.reduceLT, Nat.reduceAdd, Nat.reduceMul, Nat.reduceEqDiff]
        exact sl_exact (e := 68) (sz := 6) (by kernel_rfl) (by kernel_rfl) rfl hbm2 hmw (Nat.zero_le _) (by omega)
      simp (maxDischargeDepth := 6) only [g7, g8, ruD, ruW, putL, Nat.reduceLeDiff, xF, ruU, entryE, Nat.reduceLT, Nat.reduceAdd, Nat.reduceMul, Nat.reduceEqDiff]
      rw [wd_copy (by simp only [ruU, entryE, Nat.reduceLT, Nat.reduceAdd, Nat.reduceMul, Nat.reduceEqDiff])]
      have hrn := restrict_next X [b + 0]
      have hqR : bk (X.restrict [b + 0]) (b + 0) = some ⟨68, false, csOf (List.replicate m c ++ List.replicate (w - m) Ce.zero)⟩ := (bk_get (by rw [restrict_get, if_pos (by simp)])).trans hqX
      obtain ⟨j, hj⟩ : ∃ j, Nat.min m (w - m) = j := ⟨_, rfl⟩
      have hjm : j ≤ m ∧ j ≤ w - m ∧ 0 < j := by rw [← hj]; exact ⟨Nat.min_le_left _ _, Nat.min_le_right _ _, Nat.lt_min.2 ⟨by omega, by omega⟩⟩
      have hcl : (csOf (List.replicate m c ++ List.replicate (w - m) Ce.zero)).length = w * 6 := by rw [csOf_length]; simp; omega
      have hcp2 := cp56 (G := X.restrict [b + 0]) (q := b + 0) (off := 0 + m * 6) (dl := w - m) (dc := w - m) (n := b + 0) (off2 := 0 + 0 * 6) (sl := m - 0) (sc := w - 0) (s2 := some 0) (l := List.replicate j c) hqR (by rw [hrn.1]; exact lX) hqR
        (by rw [Nat.sub_zero, hj, hcl]; omega) (by rw [Nat.sub_zero, hj, Nat.zero_mul, Nat.zero_add, List.drop_zero, csOf_take, List.take_append, List.take_replicate, List.length_replicate, show j - m = 0 by omega, Nat.min_eq_left hjm.1]; simp) (by rw [Nat.sub_zero, hj, hcl]; omega) (by rw [Nat.sub_zero, hj, List.length_replicate])
      rw [Nat.sub_zero, hj] at hcp2
      refine genV_modO (W := [b + 0]) [b + 0] okX (fun k hk => by simp only [List.mem_singleton] at hk; subst hk; exact bk_ne hqX) (fun k hk => by simp only [List.mem_singleton] at hk; subst hk; exact lX) (fun _ h => h)
        (builtin_op (v := goInt j) (by simp only [ruU, entryE, Nat.reduceLT, Nat.reduceAdd, Nat.reduceMul, Nat.reduceEqDiff]) (by simp only [ruU, entryE, Nat.reduceLT, Nat.reduceAdd, Nat.reduceMul, Nat.reduceEqDiff]; rw [Nat.sub_zero]; exact hcp2)) (Mod.uw (by simp)) (by simp only [all2_cons, all2_nil, hA, true_or, and_true]) ?_
      intro H1 D mH1 hF1 _ _ _
      have hw8 : IntKind.i64.wrap ((m : Int) + (j : Int)) = ((m + j : Nat) : Int) := by
        have := wrap_sm (n := (m : Int) + (j : Int)) (by omega) (by omega)
        rw [show IntKind.i64.wrap ((m : Int) + (j : Int)) = _ from this]; omega
      rw [show H1 = ext H1 [] from rfl]
      simp (maxDischargeDepth := 6) only [g7, g8, goInt, hA, hw8, implies_true, ruD, ruW, putL, Nat.reduceLeDiff, xF, ruU, entryE, Nat.reduceLT, Nat.reduceAdd, Nat.reduceMul, Nat.reduceEqDiff]
      have hq1 : bk H1 (b + 0) = some ⟨68, false, csOf (List.replicate (m + j) c ++ List.replicate (w - (m + j)) Ce.zero)⟩ := by
        rw [bk_get (hF1 (b + 0) (by simp)), bk_uw_eq, show bk ((ext X []).restrict [b + 0]) (b + 0) = _ from hqR]
        have := csOf_put (List.replicate m c) (List.replicate j c) (List.replicate (w - m) Ce.zero) (by simp; omega)
        rw [List.length_replicate, List.length_replicate, List.drop_replicate] at this
        show some (Bl.mk 68 false (putL (csOf _) (0 + m * 6) (csOf (List.replicate j c)))) = _
        rw [Nat.zero_add, this, ← List.append_assoc, List.replicate_append_replicate, show w - m - j = w - (m + j) by omega]
      refine loopC_next ⟨m + j, by omega, (mX.step mH1 wf.base (fun k hk => .inr (by simp only [List.mem_singleton] at hk; omega))), mH1.lt lX, by omega, by omega, hq1, ?_, ?_⟩ <;> simp only [g7, g8, ruU, entryE, Nat.reduceLT, Nat.reduceAdd, Nat.reduceMul, Nat.reduceEqDiff]
  · clear g7 g8
    rintro E X ⟨mX, hqX, g7⟩
    rw [show X = ext X [] from rfl]
    simp (maxDischargeDepth := 6) only [g7, Tryd.results24, ruW, putL, Nat.reduceLeDiff, xF, ruU, entryE, Nat.reduceLT, Nat.reduceAdd, Nat.reduceMul, Nat.reduceEqDiff]
    exact ⟨b + 0, rfl, by omega, hqX, mX⟩

set_option maxHeartbeats 1000000 in
theorem repeat0_c (c : Ce) (n : Nat) (s : Option Nat) (H : AHeap) (hn : bk H n = some ⟨68, false, c.cells⟩) :
    CallS Tryd.prog 24 [.slice (some ⟨n, 0, s⟩) 1 1, .int .i64 0] H (.ok (.slice (some ⟨H.next, 0, some 0⟩) 0 0)) (ext H [⟨68, false, []⟩]) := by
  refine callS_one (fun wf hsc => ?_) (fun _ _ => rfl)
  obtain ⟨b, hb⟩ : ∃ b, H.next = b := ⟨_, rfl⟩
  have hbase : H.base ≤ b := hb ▸ wf.base
  have hnb : n < b := hb ▸ wf.lt hn
  have hcv : ∀ (X : AHeap) (k : IntKind) (m : Int), aConvert Tryd.prog X 3 106 (.int k m) = some (.int .u64 (IntKind.u64.wrap m), X) := fun X k m => cv_int (u := .int .i64) (by kernel_rfl) (by kernel_rfl)
  have hcv2 : ∀ (X : AHeap) (k : IntKind) (m : Int), aConvert Tryd.prog X 106 3 (.int k m) = some (.int .i64 (IntKind.i64.wrap m), X) := fun X k m => cv_int (u := .int .u64) (by kernel_rfl) (by kernel_rfl)
  have u1 : IntKind.u64.wrap ((1 : Nat) : Int) = 1 := by decide
  have u0 : IntKind.u64.wrap (0 : Int) = 0 := by decide
  have i0 : IntKind.i64.wrap (0 : Int) = 0 := by decide
  have z0 : decide ((0 : Int) < 0) = false := by decide
  have z1 : decide ((0 : Int) > 0) = false := by decide
  have z2 : decide ((0 : Int) > 9223372036854775807) = false := by decide
  have hmk : ∀ X : AHeap, aMakeSlice Tryd.prog X 39 (.int .i64 0) (.int .i64 0) = (aNew X 68 [] false).map fun g => (.slice (some ⟨X.next, 0, some 0⟩) 0 0, g) := fun X => mkCells (X := X) (w := 0) (by omega)
  refine callE_fn mixed Tryd.func24 rfl Tryd.ntmps24 (Nat.le_of_ble_eq_true rfl) ?_
  simp (maxDischargeDepth := 6) only [z0, w_convert, hcv, u1, u0, ruW, putL, Nat.reduceLeDiff, xF, ruU, entryE, Nat.reduceLT, Nat.reduceAdd, Nat.reduceMul, Nat.reduceEqDiff]
  refine (show Pure 54 [.int .u64 1, .int .u64 0] (ext H []) (.tuple #[.int .u64 0, .int .u64 0]) from mul_c (ext H []) 0 (by omega)).to ?_
  simp (maxDischargeDepth := 6) only [w_convert, hcv2, i0, z1, z2, hmk, hb, ruW, putL, Nat.reduceLeDiff, xF, ruU, entryE, Nat.reduceLT, Nat.reduceAdd, Nat.reduceMul, Nat.reduceEqDiff]
  generalize hG : ext H [_] = G
  have mG : Mod [] H G := hG ▸ Mod.ext wf.base
  have hGn : G.next = b + 1 := by rw [← hG, ext_next, hb]; rfl
  have hq : bk G (b + 0) = some ⟨68, false, []⟩ := by rw [← hG, bk_at hb (by simp)]; rfl
  have hnG := (mG.bk (hb ▸ hnb) (by simp)).trans hn
  have hcp := cp56 (G := G) (q := b + 0) (off := 0) (dl := 0) (dc := 0) (n := n) (off2 := 0) (sl := 1) (sc := 1) (s2 := s) (l := []) hq (by omega) hnG (by simp) rfl (by simp) rfl
  simp (maxDischargeDepth := 6) only [hcp, ruW, putL, Nat.reduceLeDiff, xF, ruU, entryE, Nat.reduceLT, Nat.reduceAdd, Nat.reduceMul, Nat.reduceEqDiff]
  generalize hK : uw G (b + 0) 0 _ = K
  have mK : Mod [b + 0] G K := hK ▸ Mod.uw (by simp)
  have okK := mK.ok (mG.ok wf.base)
  have hKn : K.next = b + 1 := by rw [← hK, uw_next, hGn]
  have hKq : bk K (b + 0) = some ⟨68, false, []⟩ := by rw [← hK, bk_uw_eq, hq]; rfl
  have mHK : Mod [] H K := mG.step mK wf.base (fun k hk => .inr (by simp only [List.mem_singleton] at hk; omega))
  have hd : decide ((0 : Int) < ((0 : Nat) : Int)) = false := by decide
  refine w_env fun E hE => ?_
  have g7 : E 7 = .slice (some ⟨b + 0, 0, some 0⟩) 0 0 := by rw [hE]; simp only [ruU, entryE, Nat.reduceLT, Nat.reduceAdd, Nat.reduceMul, Nat.reduceEqDiff]
  have g8 : E 8 = .int .i64 0 := by rw [hE]; (simp only [ruU, entryE, Nat.reduceLT, Nat.reduceAdd, Nat.reduceMul, Nat.reduceEqDiff] <;> rfl)
  clear hE
  refine blockC_meet (fun E' H' => H' = K ∧ E' 7 = .slice (some ⟨b + 0, 0, some 0⟩) 0 0) ?_ ?_
  · refine w_loop (fun (_ : Unit) E' H' => H' = K ∧ E' 7 = .slice (some ⟨b + 0, 0, some 0⟩) 0 0 ∧ E' 8 = .int .i64 0) (fun _ => 0) () ⟨rfl, g7, g8⟩ ?_
    clear g7 g8
    rintro _ E X ⟨hX, g7, g8⟩
    rw [hX, show K = ext K [] from rfl]
    simp (maxDischargeDepth := 6) only [g7, g8, hd, ruW, putL, Nat.reduceLeDiff, xF, ruU, entryE, Nat.reduceLT, Nat.reduceAdd, Nat.reduceMul, Nat.reduceEqDiff]
    refine joinR_normal ⟨rfl, ?_⟩
    simp only [g7, ruU, entryE, Nat.reduceLT, Nat.reduceAdd, Nat.reduceMul, Nat.reduceEqDiff]
  clear g7 g8
  rintro E X ⟨hX, g7⟩
  rw [hX, show K = ext K [] from rfl]
  simp (maxDischargeDepth := 6) only [g7, Tryd.results24, ruW, putL, Nat.reduceLeDiff, xF, ruU, entryE, Nat.reduceLT, Nat.reduceAdd, Nat.reduceMul, Nat.reduceEqDiff]
  exact ⟨b + 0, rfl, by omega, hKq, mHK⟩

end Go.Proofs.YtfpckllenkifkaaDoor
