/- An abstract executor for the model's code: a world without a tape, blocks by abstract numbers. Definitions alone; what they are good for is proved in the texts behind this one. -/
import Derived.RangeFuncLeaves
import Derived.OrdersIn
import Derived.RecoverIn
namespace Go.Ax

def lset {α : Type} (d : α) : List α → Nat → α → List α
  | [], 0, v => [v]
  | [], i + 1, v => d :: lset d [] i v
  | _ :: r, 0, v => v :: r
  | x :: r, i + 1, v => x :: lset d r i v

/-- a row of values, in parts of sixteen -/
structure RV where
  t : List (List Value)
  n : Nat

def RV.get (v : RV) (i : Nat) : Value := (v.t.getD (i / 16) []).getD (i % 16) undef
def RV.set (v : RV) (i : Nat) (x : Value) : RV := { v with t := lset [] v.t (i / 16) (lset undef (v.t.getD (i / 16) []) (i % 16) x) }

def RV.gets (v : RV) (i : Nat) : Nat → List Value
  | 0 => []
  | k + 1 => v.get i :: RV.gets v (i + 1) k

def RV.sets (v : RV) (i : Nat) : List Value → RV
  | [] => v
  | x :: r => RV.sets (v.set i x) (i + 1) r

def RV.ofList (l : List Value) : RV := { RV.sets ⟨[], 0⟩ 0 l with n := l.length }

/-- an object of the abstract heap; its cells (or a loop's temporaries) stand in 'rv'; 'opn': it may have spare cells that are not known -/
structure AObj where
  obj : Obj
  opn : Bool
  rv : RV

structure AHeap where
  root : List (List (List (Option AObj)))
  next : Nat
  base : Nat
  dirty : List Nat

def AHeap.get (h : AHeap) (n : Nat) : Option AObj :=
  ((h.root.getD (n / 256) []).getD (n / 16 % 16) []).getD (n % 16) none

def rootPut (root : List (List (List (Option AObj)))) (n : Nat) (o : Option AObj) : List (List (List (Option AObj))) :=
  lset [] root (n / 256) (lset [] (root.getD (n / 256) []) (n / 16 % 16) (lset none ((root.getD (n / 256) []).getD (n / 16 % 16) []) (n % 16) o))

def AHeap.put (h : AHeap) (n : Nat) (o : Option AObj) : AHeap := ⟨rootPut h.root n o, h.next, h.base, h.dirty⟩

/-- a change of an object that is there -/
def AHeap.upd (h : AHeap) (n : Nat) (o : Option AObj) : AHeap :=
  ⟨rootPut h.root n o, h.next, h.base, if Nat.blt n h.base then n :: h.dirty else h.dirty⟩

def AHeap.new (h : AHeap) (o : AObj) : AHeap := ⟨rootPut h.root h.next (some o), h.next + 1, h.base, h.dirty⟩

mutual
/-- no address in it -/
def af : Value → Bool
  | .pointer (some _) => false
  | .slice (some _) _ _ => false
  | .map (some _) => false
  | .chan (some _) => false
  | .func (.yield _) _ _ => false
  | .func _ a b => afA a && afA b
  | .iface _ v => af v
  | .agg cs => afA cs
  | .tuple cs => afA cs
  | _ => true
def afA : Array Value → Bool
  | ⟨l⟩ => afL l
def afL : List Value → Bool
  | [] => true
  | v :: r => af v && afL r
end

mutual
/-- every address in it is one of a block below N -/
def scb (N : Nat) : Value → Bool
  | .pointer (some a) => Nat.blt a.block N
  | .slice (some a) _ _ => Nat.blt a.block N
  | .map (some r) => Nat.blt r N
  | .chan (some k) => Nat.blt k N
  | .func (.yield l) a b => Nat.blt l N && scbA N a && scbA N b
  | .func _ a b => scbA N a && scbA N b
  | .iface _ v => scb N v
  | .agg cs => scbA N cs
  | .tuple cs => scbA N cs
  | _ => true
def scbA (N : Nat) : Array Value → Bool
  | ⟨l⟩ => scbL N l
def scbL (N : Nat) : List Value → Bool
  | [] => true
  | v :: r => scb N v && scbL N r
end

/-- the value of a Sem that asks nothing of the world -/
def peval {α : Type} (P : Program) : Sem α → Option α
  | .pure a => some a
  | .program k => peval P (k P)
  | .mark _ k => peval P k
  | _ => none

/-- the panic of a Sem that asks nothing of the world -/
def ppanic {α : Type} (P : Program) : Sem α → Option Value
  | .halt (.panic v) => some v
  | .program k => ppanic P (k P)
  | .mark _ k => ppanic P k
  | _ => none

structure AAct where
  env : RV
  defers : List Deferred

def AAct.put (a : AAct) (dst : Option Tmp) (v : Value) : AAct :=
  match dst with
  | some d => if Nat.blt d a.env.n then { a with env := a.env.set d v } else a
  | none => a

def AAct.tmp (a : AAct) (t : Nat) : Value := if Nat.blt t a.env.n then a.env.get t else undef

def aeval (a : AAct) : Operand → Option Value
  | .tmp t => some (a.tmp t)
  | .const v => if af v then some v else none
  | .global _ => none
  | .func f => some (.func (.func f) #[] #[])

def aevals (a : AAct) : List Operand → Option (List Value)
  | [] => some []
  | x :: r => do
    let v ← aeval a x
    let vs ← aevals a r
    some (v :: vs)

def szOf (P : Program) (t : TypeId) : Option Nat := (P.info? t).map (·.size)
def bytesOf (P : Program) (t : TypeId) : Option Nat := (P.info? t).map (·.bytes)
def zeroOf (P : Program) (t : TypeId) : Option Value :=
  match P.info? t with
  | some i => (match i.zero with
    | some v => if af v then some v else none
    | none => none)
  | none => none
def aggT (P : Program) (t : TypeId) : Option Bool :=
  match P.underlying t with
  | some (.struct _) => some true
  | some (.array _ _) => some true
  | some _ => some false
  | none => none

/-- what an opaque value may stand for -/
def opq : Value → Bool
  | .agg _ => false
  | .tuple _ => false
  | .bool _ => false
  | _ => true

/-- one cell's value -/
def one : Value → Bool
  | .agg _ => false
  | .tuple _ => false
  | _ => true

/-- a block's cells, its element type, whether it is open -/
def cellsAt (H : AHeap) (n : Nat) : Option (RV × TypeId × Bool) :=
  match H.get n with
  | some ⟨.cells _ e _, o, v⟩ => some (v, e, o)
  | _ => none

def aLoad (P : Program) (H : AHeap) (t : TypeId) (v : Value) : Option Value :=
  match v with
  | .pointer (some ⟨n, off, none⟩) => do
    let (c, _, _) ← cellsAt H n
    match ← aggT P t with
    | true => do
      let sz ← szOf P t
      if Nat.ble (off + sz) c.n then some (.agg ⟨c.gets off sz⟩) else none
    | false => if Nat.blt off c.n then some (c.get off) else none
  | _ => none

/-- cells written into a block -/
def aWrite (H : AHeap) (n off : Nat) (vs : List Value) : Option AHeap := do
  let (c, e, o) ← cellsAt H n
  if Nat.ble (off + vs.length) c.n && vs.all one && scbL H.next vs then
    some (H.upd n (some ⟨.cells #[] e, o, c.sets off vs⟩))
  else none

def aStore (P : Program) (H : AHeap) (t : TypeId) (a v : Value) : Option AHeap :=
  match a with
  | .pointer (some ⟨n, off, none⟩) => do
    let sz ← szOf P t
    if v.cells.toList.length = sz then aWrite H n off v.cells.toList else none
  | _ => none

def aNew (H : AHeap) (e : TypeId) (c : List Value) (o : Bool) : Option AHeap :=
  if scbL H.next c then some (H.new ⟨.cells #[] e, o, RV.ofList c⟩) else none

abbrev Res := Except Value Next

def val1 (v : Value) : Res := .ok (.value v)

/-- part of an aggregate -/
def aPart (P : Program) (t : TypeId) (cs : List Value) (off : Nat) : Option Value := do
  match ← aggT P t with
  | true => do
    let sz ← szOf P t
    some (.agg ⟨(cs.drop off).take sz⟩)
  | false => cs[off]?

def aField (P : Program) (t : TypeId) (x : Value) (f : Nat) : Option Value :=
  match P.underlying t, x with
  | some (.struct fields), .agg cs =>
    match fields.toList[f]? with
    | some fd => aPart P fd.type cs.toList fd.offset
    | none => none
  | _, _ => none

def aFieldAddr (P : Program) (t : TypeId) (x : Value) (f : Nat) : Option Value :=
  match P.underlying t, x with
  | some (.struct fields), .pointer (some a) =>
    match fields.toList[f]? with
    | some fd => (match szOf P fd.type with
      | some 0 => none
      | some _ => some (.pointer (some (a.add fd.offset)))
      | none => none)
    | none => none
  | _, _ => none

def aIndex (P : Program) (t : TypeId) (x i : Value) : Option Value :=
  match P.underlying t, x, i with
  | some (.array len elem), .agg cs, .int _ i => do
    let sz ← szOf P elem
    if 0 ≤ i ∧ i < len then aPart P elem cs.toList (i.toNat * sz) else none
  | _, _, _ => none

def aIndexAddr (P : Program) (t : TypeId) (x i : Value) : Option Value :=
  match P.underlying t, x, i with
  | some (.array len elem), .pointer (some a), .int _ i => do
    let sz ← szOf P elem
    if 0 ≤ i ∧ i < len then some (.pointer (some (a.add (i.toNat * sz)))) else none
  | some (.slice elem), .slice (some a) len _, .int _ i => do
    let sz ← szOf P elem
    if 0 ≤ i ∧ i < len then some (.pointer (some ⟨a.block, a.off + i.toNat * sz, none⟩)) else none
  | _, _, _ => none

/-- a slice bound -/
def bound (d : Nat) (v : Option Value) : Option Nat :=
  match v with
  | none => some d
  | some (.int _ i) => if 0 ≤ i then some i.toNat else none
  | _ => none

def isOpen (H : AHeap) (n : Nat) : Option Bool :=
  match H.get n with
  | some ⟨.cells _ _ _, o, _⟩ => some o
  | _ => none

/-- is the capacity of the slice at this address known? -/
def exactAt (H : AHeap) (a : Addr) : Option Bool :=
  match a.spot with
  | some _ => some true
  | none => (isOpen H a.block).map (!·)

/-- slicing with a bound on the capacity; the address of an exact slice bears the spot 'some 0' -/
def aSlice3 (H : AHeap) (sz : Nat) (a : Option Addr) (len cap : Nat) (lo hi : Option Value) (m : Nat) : Option (Value × AHeap) := do
  let l ← bound 0 lo
  let h ← bound len hi
  if m ≤ cap ∧ h ≤ m ∧ l ≤ h then
    match a with
    | none => some (.slice none (h - l) (m - l), H)
    | some a => some (.slice (some ⟨a.block, if m = l then a.off else a.off + l * sz, some 0⟩) (h - l) (m - l), H)
  else none

def aSlice2 (H : AHeap) (sz : Nat) (a : Option Addr) (len cap : Nat) (lo hi : Option Value) : Option (Value × AHeap) := do
  let l ← bound 0 lo
  let h ← bound len hi
  if h ≤ cap ∧ l ≤ h then
    match a with
    | none => some (.slice none (h - l) (cap - l), H)
    | some a => do
      match ← exactAt H a with
      | true => some (.slice (some ⟨a.block, if cap = l then a.off else a.off + l * sz, some 0⟩) (h - l) (cap - l), H)
      | false =>
        if l = 0 then some (.slice (some ⟨a.block, a.off, none⟩) h cap, H)
        else if l < cap then some (.slice (some ⟨a.block, a.off + l * sz, none⟩) (h - l) (cap - l), H)
        else do
          let (v, e, _) ← cellsAt H a.block
          if Nat.ble (a.off + cap * sz) v.n then some (.slice (some ⟨H.next, 0, none⟩) 0 0, (H.upd a.block none).new ⟨.cells #[] e, true, ⟨[], 0⟩⟩) else none
  else none

def aSlice (P : Program) (H : AHeap) (t : TypeId) (x : Value) (lo hi mx : Option Value) : Option (Value × AHeap) :=
  match P.underlying t, x, mx with
  | some (.string), .string s, none => do
    let l ← bound 0 lo
    let h ← bound s.size hi
    if h ≤ s.size ∧ l ≤ h then some (.string (s.extract l h), H) else none
  | some (.slice e), .slice a len cap, none => do aSlice2 H (← szOf P e) a len cap lo hi
  | some (.slice e), .slice a len cap, some (.int _ m) => do
    if 0 ≤ m ∧ hi.isSome = true then aSlice3 H (← szOf P e) a len cap lo hi m.toNat else none
  | some (.array n e), .pointer (some a), none => do
    let l ← bound 0 lo
    let h ← bound n hi
    let sz ← szOf P e
    if h ≤ n ∧ l ≤ h ∧ a.spot = none then
      some (.slice (some ⟨a.block, if n = l then a.off else a.off + l * sz, some 0⟩) (h - l) (n - l), H)
    else none
  | _, _, _ => none

def bytesV (l : List UInt8) : List Value := l.map fun b => .int .u8 b.toNat

/-- the cells of a slice or a string -/
def firstC (H : AHeap) (sz n : Nat) : Value → Option (List Value)
  | .slice (some a) _ _ => do
    let (c, _, _) ← cellsAt H a.block
    if Nat.ble (a.off + n * sz) c.n then some (c.gets a.off (n * sz)) else none
  | .slice none _ _ => some []
  | .string s => some (bytesV (s.data.toList.take n))
  | _ => none

def lenV : Value → Option Nat
  | .slice _ n _ => some n
  | .string s => some s.size
  | _ => none

def small (n b : Nat) : Bool := Nat.ble (n * b) 1000000000 && Nat.ble n 1000000000

def zerosL (z : List Value) : Nat → List Value
  | 0 => []
  | n + 1 => z ++ zerosL z n

/-- what append makes, its parts known -/
def aAppend2 (H : AHeap) (e : TypeId) (sz : Nat) (base : Option Addr) (len cap n : Nat) (new : List Value) : Option (Value × AHeap) :=
  if len + n ≤ cap then
    match base with
    | none => if n = 0 then some (.slice none len cap, H) else none
    | some a => do
      let g ← aWrite H a.block (a.off + len * sz) new
      some (.slice base (len + n) cap, g)
  else do
    let old ← firstC H sz len (.slice base len cap)
    if old.length = len * sz && old.all one && new.all one then
      match base with
      | none => do
        let g ← aNew H e (old ++ new) true
        some (.slice (some ⟨H.next, 0, none⟩) (len + n) (len + n), g)
      | some a => do
        match ← exactAt H a with
        | true => do
          let g ← aNew H e (old ++ new) true
          some (.slice (some ⟨H.next, 0, none⟩) (len + n) (len + n), g)
        | false => do
          let (v, e', _) ← cellsAt H a.block
          if e' = e ∧ Nat.ble (a.off + cap * sz) v.n = true then do
            let g ← aNew (H.upd a.block none) e (old ++ new) true
            some (.slice (some ⟨H.next, 0, none⟩) (len + n) (len + n), g)
          else none
    else none

def intTy (P : Program) (t : TypeId) : Option Bool :=
  match P.underlying t with
  | some (.int _) => some true
  | some _ => some false
  | none => none

def aAppend (P : Program) (H : AHeap) (ts : Array TypeId) (s x : Value) : Option (Value × AHeap) :=
  match ts.toList, s with
  | st :: xt :: _, .slice base len cap => do
    let .slice e ← P.underlying st | none
    let sz ← szOf P e
    let by1 ← bytesOf P e
    let zs ← zeroOf P e
    match ← intTy P xt, x with
    | true, .int .i64 l =>
      if 0 ≤ l ∧ small (len + l.toNat) by1 = true ∧ zs.cells.toList.length = sz then
        aAppend2 H e sz base len cap l.toNat (zerosL zs.cells.toList l.toNat)
      else none
    | true, _ => none
    | false, x => do
      let n ← lenV x
      let new ← firstC H sz n x
      if new.length = n * sz ∧ small (len + n) by1 = true ∧ zs.cells.toList.length = sz then aAppend2 H e sz base len cap n new else none
  | _, _ => none

def aCopy (P : Program) (H : AHeap) (ts : Array TypeId) (d s : Value) : Option (Value × AHeap) :=
  match ts.toList, d with
  | dt :: _, .slice base dl _ => do
    let .slice e ← P.underlying dt | none
    let sz ← szOf P e
    let sl ← lenV s
    let cs ← firstC H sz (Nat.min sl dl) s
    match base with
    | none => some (goInt (Nat.min sl dl), H)
    | some a => do
      let g ← aWrite H a.block a.off cs
      some (goInt (Nat.min sl dl), g)
  | _, _ => none

def aLen (P : Program) (H : AHeap) (t : TypeId) (x : Value) : Option Value :=
  match P.underlying t, x with
  | some (.slice _), .slice _ n _ => some (goInt n)
  | some (.string), .string s => some (goInt s.size)
  | some (.map _ _), .map none => some (goInt 0)
  | some (.map _ _), .map (some r) => (match H.get r with
    | some ⟨.map es _, _, _⟩ => some (goInt es.size)
    | _ => none)
  | some (.array n _), _ => some (goInt n)
  | _, _ => none

def aCap (P : Program) (H : AHeap) (t : TypeId) (x : Value) : Option Value :=
  match P.underlying t, x with
  | some (.slice _), .slice none _ n => some (goInt n)
  | some (.slice _), .slice (some a) _ n => (match exactAt H a with
    | some true => some (goInt n)
    | _ => none)
  | some (.array n _), _ => some (goInt n)
  | _, _ => none

def aMinMax (mx : Bool) : List Value → Option Value
  | [.int k x, .int _ y] => some (.int k (if mx then (if y > x then y else x) else (if y < x then y else x)))
  | _ => none

def keyOk : Value → Bool
  | .int _ _ => true
  | .string _ => true
  | .bool _ => true
  | _ => false

/-- keys that are compared at sight -/
def keyKind : TypeDesc → Bool
  | .int _ => true
  | .string => true
  | .bool => true
  | _ => false

def aDelete (P : Program) (H : AHeap) (t : TypeId) (m k : Value) : Option (Value × AHeap) :=
  match P.underlying t, m with
  | some (.map key _), .map (some r) => (match H.get r with
    | some ⟨.map es clock, _, _⟩ => do
      let kd ← P.underlying key
      if keyOk k && keyKind kd then
        match Instr.findNow kd k es.toList 0 with
        | some (some (i, _)) => some (.tuple #[], H.upd r (some ⟨.map (es.eraseIdxIfInBounds i) clock, false, ⟨[], 0⟩⟩))
        | some none => some (.tuple #[], H.upd r (some ⟨.map es clock, false, ⟨[], 0⟩⟩))
        | none => none
      else none
    | _ => none)
  | _, _ => none

def aClear (P : Program) (H : AHeap) (t : TypeId) (x : Value) : Option (Value × AHeap) :=
  match P.underlying t, x with
  | some (.slice _), .slice none _ _ => some (.tuple #[], H)
  | some (.slice e), .slice (some a) n _ => (match n with
    | 0 => some (.tuple #[], H)
    | n + 1 => do
      let z ← zeroOf P e
      let g ← aWrite H a.block a.off (zerosL z.cells.toList (n + 1))
      some (.tuple #[], g))
  | _, _ => none

def aBuiltin (P : Program) (H : AHeap) (b : Builtin) (ts : Array TypeId) (args : List Value) : Option (Value × AHeap) :=
  match b, args with
  | .append, [s, x] => aAppend P H ts s x
  | .copy, [d, s] => aCopy P H ts d s
  | .len, [x] => (match ts.toList with
    | t :: _ => (aLen P H t x).map fun v => (v, H)
    | [] => none)
  | .cap, [x] => (match ts.toList with
    | t :: _ => (aCap P H t x).map fun v => (v, H)
    | [] => none)
  | .delete, [m, k] => (match ts.toList with
    | t :: _ => aDelete P H t m k
    | [] => none)
  | .clear, [x] => (match ts.toList with
    | t :: _ => aClear P H t x
    | [] => none)
  | .max, args => (aMinMax true args).map fun v => (v, H)
  | .min, args => (aMinMax false args).map fun v => (v, H)
  | _, _ => none

/-- equality where an address is among the operands -/
def aEq (P : Program) (H : AHeap) : Nat → TypeId → Value → Value → Option Bool
  | 0, _, _, _ => none
  | d + 1, t, x, y =>
    match P.underlying t, x, y with
    | some (.pointer _), .pointer none, .pointer b => some b.isNone
    | some (.pointer _), .pointer (some _), .pointer none => some false
    | some (.pointer e), .pointer (some a), .pointer (some b) =>
      (match szOf P e, isOpen H a.block, isOpen H b.block with
      | some (_ + 1), some false, some false => some (a == b)
      | _, _, _ => none)
    | some (.slice _), .slice none _ _, .slice b _ _ => some b.isNone
    | some (.slice _), .slice (some _) _ _, .slice none _ _ => some false
    | some (.map _ _), .map none, .map b => some b.isNone
    | some (.map _ _), .map (some _), .map none => some false
    | some (.func _ _ _), .nilFunc, .func _ _ _ => some false
    | some (.func _ _ _), .func _ _ _, .nilFunc => some false
    | some (.interface _), .nilIface, .iface _ _ => some false
    | some (.interface _), .iface _ _, .nilIface => some false
    | some (.interface _), .iface tx vx, .iface ty vy =>
      if tx ≠ ty then some false else
      (match P.info? tx with
      | some i => if i.comparable then aEq P H d tx vx vy else none
      | none => none)
    | _, _, _ => none

def intBin (op : BinOp) (k : IntKind) (a b : Int) : Option Value :=
  match op with
  | .add => some (.int k (k.wrap (a + b)))
  | .sub => some (.int k (k.wrap (a - b)))
  | .mul => some (.int k (k.wrap (a * b)))
  | .quo => if b = 0 then none else some (.int k (k.wrap (a.tdiv b)))
  | .rem => if b = 0 then none else some (.int k (a.tmod b))
  | .eql => some (.bool (a == b))
  | .neq => some (.bool (a != b))
  | .lss => some (.bool (a < b))
  | .leq => some (.bool (a ≤ b))
  | .gtr => some (.bool (a > b))
  | .geq => some (.bool (a ≥ b))
  | _ => none

def eqOp (op : BinOp) (b : Bool) : Option Value :=
  match op with
  | .eql => some (.bool b)
  | .neq => some (.bool !b)
  | _ => none

/-- may an address be among the operands of a comparison? -/
def aBinAddr (P : Program) (H : AHeap) (op : BinOp) (t : TypeId) (x y : Value) : Option Value :=
  match x, y with
  | .agg _, _ => none
  | .nilIface, .nilIface => none
  | x, y => (aEq P H 100 t x y).bind (eqOp op)

def aTypeAssert (P : Program) (x : Value) (asserted : TypeId) (commaOk : Bool) : Option Value :=
  match P.underlying asserted, x with
  | some (.interface want), .iface t _ =>
    (match P.info? t with
    | some i => (match Instr.missingMethod want i.methods with
      | none => some (if commaOk then .tuple #[x, .bool true] else x)
      | some _ => if commaOk then (zeroOf P asserted).map fun z => .tuple #[z, .bool false] else none)
    | none => none)
  | some _, .nilIface => if commaOk then (zeroOf P asserted).map fun z => .tuple #[z, .bool false] else none
  | some _, .iface t v =>
    if t = asserted then some (if commaOk then .tuple #[v, .bool true] else v)
    else if commaOk then (zeroOf P asserted).map fun z => .tuple #[z, .bool false] else none
  | _, _ => none

def hasBody (P : Program) (f : FuncId) : Bool :=
  match P.funcs[f]? with
  | some fn => fn.body.isSome && fn.name != "runtime.NumGoroutine"
  | none => false

/-- a call of a function of the program's -/
def aCallF (P : Program) (f : FuncId) (args : List Value) : Option Res :=
  if hasBody P f then some (.ok (.enter f ⟨args⟩)) else none

/-- the receiver that a method without a path takes -/
def aRecv (P : Program) (H : AHeap) (t : TypeId) (v : Value) (ptr : Bool) : Option Value :=
  match P.underlying t, ptr, v with
  | some (.pointer _), true, v => some v
  | some (.pointer e), false, .pointer (some a) => aLoad P H e (.pointer (some a))
  | some (.pointer _), false, _ => none
  | some _, false, v => some v
  | _, _, _ => none

def aMethod (P : Program) (t : TypeId) (name : String) : Option (FuncId × Bool) :=
  match P.info? t with
  | some i =>
    (match i.methods.find? (·.name == name) with
    | some m => if m.path.isEmpty then m.func else none
    | none => none)
  | none => none

def zipSet : List Tmp → List Value → RV → RV
  | t :: ts, v :: vs, e => zipSet ts vs (if Nat.blt t e.n then e.set t v else e)
  | _, _, e => e

/-- a round of a loop over a function: its record's number, its temporaries, its code -/
structure Round where
  l : Nat
  env : RV
  assign : Code
  body : Code

/-- what an operation comes to -/
inductive ANext where
  | value (v : Value)
  | skip
  | enter (f : FuncId) (args : List Value)
  | round (r : Round)
  | panic (v : Value)

def aYield (H : AHeap) (l : Nat) (args : List Value) : Option ANext :=
  match H.get l with
  | some ⟨.loop r, _, e⟩ =>
    if args.length = r.params.toList.length then some (.round ⟨l, zipSet r.params.toList args e, r.assign, r.body⟩) else none
  | _ => none

def enterN (P : Program) (f : FuncId) (args : List Value) : Option ANext :=
  if hasBody P f then some (.enter f args) else none

def aInvoke (P : Program) (H : AHeap) (fn : Fn) (args captured : List Value) : Option ANext :=
  match fn, args with
  | .func f, args => enterN P f (args ++ captured)
  | .yield l, args => aYield H l args
  | .method name, .iface t v :: r => do
    let (f, ptr) ← aMethod P t name
    let x ← aRecv P H t v ptr
    enterN P f (x :: r)
  | .via t path f ptr, x :: r => do
    if path.isEmpty then do
      let y ← aRecv P H t x ptr
      enterN P f (y :: r)
    else none
  | _, _ => none

abbrev ARes := Option (ANext × AHeap)

def rv (H : AHeap) (x : Option Value) : ARes := x.map fun y => (.value y, H)
def rvh (x : Option (Value × AHeap)) : ARes := x.map fun y => (.value y.1, y.2)
def ruh (x : Option AHeap) : ARes := x.map fun y => (.skip, y)

def mapAt (H : AHeap) : Option Nat → Option (Array MapEntry)
  | none => some #[]
  | some r => (match H.get r with
    | some ⟨.map es _, _, _⟩ => some es
    | _ => none)

def aLookup (P : Program) (H : AHeap) (t : TypeId) (x k : Value) (ok : Bool) : Option Value :=
  match P.underlying t, x with
  | some (.map key elem), .map r => do
    let es ← mapAt H r
    let kd ← P.underlying key
    if keyOk k && keyKind kd then
      match Instr.findNow kd k es.toList 0 with
      | some (some (_, v)) => some (if ok then .tuple #[v, .bool true] else v)
      | some none => (zeroOf P elem).map fun z => if ok then .tuple #[z, .bool false] else z
      | none => none
    else none
  | _, _ => none

def aMapUpdate (P : Program) (H : AHeap) (t : TypeId) (x k v : Value) : Option AHeap :=
  match P.underlying t, x with
  | some (.map key _), .map (some r) => (match H.get r with
    | some ⟨.map es clock, _, _⟩ => do
      let kd ← P.underlying key
      if keyOk k && keyKind kd && scb H.next v then
        match Instr.findNow kd k es.toList 0 with
        | some (some (i, _)) => some (H.upd r (some ⟨.map (es.modify i fun e => { e with key := k, val := v }) clock, false, ⟨[], 0⟩⟩))
        | some none => some (H.upd r (some ⟨.map (es.push { key := k, val := v, born := clock }) (clock + 1), false, ⟨[], 0⟩⟩))
        | none => none
      else none
    | _ => none)
  | _, _ => none

def aBuild (P : Program) (t : TypeId) (parts : List (Nat × Value)) : Option Value := do
  let z ← zeroOf P t
  match P.underlying t with
  | some (.struct fields) => do
    let places ← peval P (fields.mapM fun f => do pure (f.offset, ← sizeOf f.type))
    (Instr.fill (places[·]?) z.cells parts).map .agg
  | some (.array _ elem) => do
    let sz ← szOf P elem
    (Instr.fill (fun i => some (i * sz, sz)) z.cells parts).map .agg
  | _ => none

def aBuildSlice (P : Program) (H : AHeap) (t : TypeId) (len : Nat) (parts : List (Nat × Value)) : Option (Value × AHeap) := do
  let .slice e ← P.underlying t | none
  let sz ← szOf P e
  let z ← zeroOf P e
  if len * sz ≤ 1000000 ∧ z.cells.toList.length = sz then do
    let cells ← Instr.fill (fun i => some (i * sz, sz)) (zerosL z.cells.toList len).toArray parts
    let g ← aNew H e cells.toList false
    some (.slice (some ⟨H.next, 0, some 0⟩) len len, g)
  else none

def aMakeSlice (P : Program) (H : AHeap) (t : TypeId) (l c : Value) : Option (Value × AHeap) :=
  match l, c with
  | .int .i64 l, .int .i64 c => do
    let .slice e ← P.underlying t | none
    let by1 ← bytesOf P e
    let sz ← szOf P e
    let z ← zeroOf P e
    if 0 ≤ l ∧ l ≤ c ∧ small c.toNat by1 = true ∧ z.cells.toList.length = sz then do
      let g ← aNew H e (zerosL z.cells.toList c.toNat) false
      some (.slice (some ⟨H.next, 0, some 0⟩) l.toNat c.toNat, g)
    else none
  | _, _ => none

def bytesOfCells : List Value → Option (List UInt8)
  | [] => some []
  | .int .u8 n :: r => (bytesOfCells r).map (UInt8.ofNat n.toNat :: ·)
  | _ => none

def runesOfCells : List Value → Option (List UInt8)
  | [] => some []
  | .int .i32 n :: r => (runesOfCells r).map ((Utf8.encode n).data.toList ++ ·)
  | _ => none

def aConvert (P : Program) (H : AHeap) (src dst : TypeId) (x : Value) : Option (Value × AHeap) :=
  match P.underlying src, P.underlying dst, x with
  | some _, some (.int k), .int _ n => some (.int k (k.wrap n), H)
  | some _, some .string, .string s => some (.string s, H)
  | some _, some .string, .int _ n => some (.string (Utf8.encode n), H)
  | some _, some (.slice e), .string s => (match P.underlying e with
    | some (.int .u8) => do
      let 1 ← szOf P e | none
      let g ← aNew H e (bytesV s.data.toList) true
      some (.slice (some ⟨H.next, 0, none⟩) s.size s.size, g)
    | some (.int .i32) => do
      let 1 ← szOf P e | none
      let g ← aNew H e (Conv.runesFrom s s.size 0 #[]).toList true
      some (.slice (some ⟨H.next, 0, none⟩) (Conv.runesFrom s s.size 0 #[]).toList.length (Conv.runesFrom s s.size 0 #[]).toList.length, g)
    | _ => none)
  | some (.slice e), some .string, .slice a len _ => do
    let cs ← firstC H 1 len (.slice a len len)
    match P.underlying e with
    | some (.int .u8) => (bytesOfCells cs).map fun l => (.string ⟨l.toArray⟩, H)
    | some (.int .i32) => (runesOfCells cs).map fun l => (.string ⟨l.toArray⟩, H)
    | _ => none
  | _, _, _ => none

def aRange (P : Program) (H : AHeap) (t : TypeId) (x : Value) : Option (Value × AHeap) :=
  match P.underlying t, x with
  | some .string, .string s => some (.pointer (some ⟨H.next, 0, none⟩), H.new ⟨.stringIter s 0, false, ⟨[], 0⟩⟩)
  | _, _ => none

def aNext (H : AHeap) (it : Value) (isString : Bool) : Option (Value × AHeap) :=
  match it, isString with
  | .pointer (some ⟨r, 0, none⟩), true => (match H.get r with
    | some ⟨.stringIter s pos, _, _⟩ =>
      if pos < s.size then
        some (.tuple #[.bool true, goInt pos, .int .i32 (Utf8.decode s pos).1], H.upd r (some ⟨.stringIter s (pos + (Utf8.decode s pos).2), false, ⟨[], 0⟩⟩))
      else some (.tuple #[.bool false], H)
    | _ => none)
  | _, _ => none

def pairs (a : AAct) : List (Nat × Operand) → Option (List (Nat × Value))
  | [] => some []
  | (i, x) :: r => do
    let v ← aeval a x
    let vs ← pairs a r
    some ((i, v) :: vs)

def optEval (a : AAct) : Option Operand → Option (Option Value)
  | none => some none
  | some x => (aeval a x).map some

def nilPanic (P : Program) : Value := .iface P.rt.errorString (strVal "invalid memory address or nil pointer dereference")

def xMove (x : Operand) (_ : Program) (a : AAct) (H : AHeap) : ARes := rv H (aeval a x)
def xPick (c x y : Operand) (_ : Program) (a : AAct) (H : AHeap) : ARes := do
  match ← aeval a c with
  | .bool true => rv H (aeval a x)
  | .bool false => rv H (aeval a y)
  | _ => none
def xBox (t : TypeId) (v : Value) (H : AHeap) : ARes := do
  let g ← aNew H t v.cells.toList false
  some (.value (.pointer (some ⟨H.next, 0, none⟩)), g)
def xAlloc (t : TypeId) (P : Program) (_ : AAct) (H : AHeap) : ARes := do xBox t (← zeroOf P t) H
def xBoxOp (t : TypeId) (x : Operand) (_ : Program) (a : AAct) (H : AHeap) : ARes := do xBox t (← aeval a x) H
def xBuild (t : TypeId) (ps : Array (Nat × Operand)) (P : Program) (a : AAct) (H : AHeap) : ARes := do rv H (aBuild P t (← pairs a ps.toList))
def xBuildSlice (t : TypeId) (n : Nat) (ps : Array (Nat × Operand)) (P : Program) (a : AAct) (H : AHeap) : ARes := do rvh (aBuildSlice P H t n (← pairs a ps.toList))
def xLoad (t : TypeId) (x : Operand) (P : Program) (a : AAct) (H : AHeap) : ARes := do rv H (aLoad P H t (← aeval a x))
def xStore (t : TypeId) (x y : Operand) (P : Program) (a : AAct) (H : AHeap) : ARes := do ruh (aStore P H t (← aeval a x) (← aeval a y))
def nilV (P : Program) (H : AHeap) (v : Value) : ARes :=
  match v with
  | .pointer none => some (.panic (nilPanic P), H)
  | .nilIface => some (.panic (nilPanic P), H)
  | .nilFunc => some (.panic (nilPanic P), H)
  | .func (.method _) _ _ => none
  | .chan _ => none
  | y => some (.value y, H)
def xNil (x : Operand) (P : Program) (a : AAct) (H : AHeap) : ARes := do nilV P H (← aeval a x)
def aBin (P : Program) (H : AHeap) (op : BinOp) (t : TypeId) (x y : Value) : Option Value :=
  match x, y with
  | .int k a, .int k' b => if k = k' then intBin op k a b else none
  | .bool a, .bool b => (match P.underlying t with
    | some .bool => eqOp op (a == b)
    | _ => none)
  | x, y => aBinAddr P H op t x y
/-- an operation that only reckons, by the model's own text -/
def aPlain (P : Program) (s : Sem Value) : Option ANext :=
  match peval P s with
  | some v => if af v then some (.value v) else none
  | none => (match ppanic P s with
    | some v => if af v then some (.panic v) else none
    | none => none)
def binV (P : Program) (H : AHeap) (op : BinOp) (t : TypeId) (x y : Operand) (p q : Value) : ARes :=
  match aBin P H op t p q with
  | some v => some (.value v, H)
  | none => if af p && af q then (aPlain P (do eqGuard op t x y p q; binOp op t p q)).map fun r => (r, H) else none
def xBin (op : BinOp) (t : TypeId) (x y : Operand) (P : Program) (a : AAct) (H : AHeap) : ARes := do
  let p ← aeval a x
  let q ← aeval a y
  binV P H op t x y p q
def unV (P : Program) (H : AHeap) (op : UnOp) (v : Value) : ARes :=
  match op, v with
  | .not, .bool b => some (.value (.bool !b), H)
  | .neg, .int k n => some (.value (.int k (k.wrap (0 - n))), H)
  | op, v => if af v then (aPlain P (Op.unary op v)).map fun r => (r, H) else none
def xUn (op : UnOp) (x : Operand) (P : Program) (a : AAct) (H : AHeap) : ARes := do unV P H op (← aeval a x)
def xConvert (s d : TypeId) (x : Operand) (P : Program) (a : AAct) (H : AHeap) : ARes := do rvh (aConvert P H s d (← aeval a x))
def ifaceV (P : Program) (H : AHeap) (t : TypeId) (v : Value) : ARes :=
  match P.underlying t with
  | some (.interface _) => none
  | some _ => some (.value (.iface t v), H)
  | none => none
def xIface (t : TypeId) (x : Operand) (P : Program) (a : AAct) (H : AHeap) : ARes := do ifaceV P H t (← aeval a x)
def funcV (H : AHeap) (fn : Fn) (p q : List Value) : ARes :=
  match fn with
  | .yield _ => none
  | fn => some (.value (.func fn ⟨p⟩ ⟨q⟩), H)
def xFunc (fn : Fn) (first captured : Array Operand) (_ : Program) (a : AAct) (H : AHeap) : ARes := do funcV H fn (← aevals a first.toList) (← aevals a captured.toList)
def mapNew (H : AHeap) : ARes := some (.value (.map (some H.next)), H.new ⟨.map #[] 0, false, ⟨[], 0⟩⟩)
def xMakeMap (t : TypeId) (r : Option Operand) (P : Program) (a : AAct) (H : AHeap) : ARes :=
  match r with
  | none => mapNew H
  | some x => do
    let .map _ _ ← P.underlying t | none
    let .int .i64 _ ← aeval a x | none
    mapNew H
def xMakeSlice (t : TypeId) (l c : Operand) (P : Program) (a : AAct) (H : AHeap) : ARes := do rvh (aMakeSlice P H t (← aeval a l) (← aeval a c))
def xSlice (t : TypeId) (x : Operand) (lo hi mx : Option Operand) (P : Program) (a : AAct) (H : AHeap) : ARes := do
  rvh (aSlice P H t (← aeval a x) (← optEval a lo) (← optEval a hi) (← optEval a mx))
def xFieldAddr (t : TypeId) (x : Operand) (f : Nat) (P : Program) (a : AAct) (H : AHeap) : ARes := do rv H (aFieldAddr P t (← aeval a x) f)
def xField (t : TypeId) (x : Operand) (f : Nat) (P : Program) (a : AAct) (H : AHeap) : ARes := do rv H (aField P t (← aeval a x) f)
def xIndexAddr (t : TypeId) (x i : Operand) (P : Program) (a : AAct) (H : AHeap) : ARes := do rv H (aIndexAddr P t (← aeval a x) (← aeval a i))
def indexV (P : Program) (H : AHeap) (t : TypeId) (p q : Value) : ARes :=
  match aIndex P t p q with
  | some v => some (.value v, H)
  | none => if af p && af q then (aPlain P (Instr.index t p q)).map fun r => (r, H) else none
def xIndex (t : TypeId) (x i : Operand) (P : Program) (a : AAct) (H : AHeap) : ARes := do indexV P H t (← aeval a x) (← aeval a i)
def xLookup (t : TypeId) (x k : Operand) (ok : Bool) (P : Program) (a : AAct) (H : AHeap) : ARes := do rv H (aLookup P H t (← aeval a x) (← aeval a k) ok)
def xMapUpdate (t : TypeId) (m k x : Operand) (P : Program) (a : AAct) (H : AHeap) : ARes := do ruh (aMapUpdate P H t (← aeval a m) (← aeval a k) (← aeval a x))
def xRange (t : TypeId) (x : Operand) (P : Program) (a : AAct) (H : AHeap) : ARes := do rvh (aRange P H t (← aeval a x))
def xNext (it : Operand) (s : Bool) (_ : Program) (a : AAct) (H : AHeap) : ARes := do rvh (aNext H (← aeval a it) s)
def xTypeAssert (x : Operand) (asserted : TypeId) (ok : Bool) (P : Program) (a : AAct) (H : AHeap) : ARes := do rv H (aTypeAssert P (← aeval a x) asserted ok)
def extractV (H : AHeap) (i : Nat) (v : Value) : ARes :=
  match v with
  | .tuple vs => rv H (vs.toList[i]?)
  | _ => none
def xExtract (x : Operand) (i : Nat) (_ : Program) (a : AAct) (H : AHeap) : ARes := do extractV H i (← aeval a x)
def callV (P : Program) (H : AHeap) (f : Value) (args : List Value) : ARes :=
  match f with
  | .func fn first captured => (aInvoke P H fn (first.toList ++ args) captured.toList).map fun r => (r, H)
  | _ => none
/-- a function without a Go body that only reckons -/
def externV (P : Program) (H : AHeap) (f : Value) (args : List Value) : ARes :=
  match f with
  | .func (.func g) ⟨[]⟩ ⟨[]⟩ =>
    if afL args then
      match peval P (callFunc g ⟨args⟩) with
      | some (.value v) => if af v then some (.value v, H) else none
      | _ => none
    else none
  | _ => none
def xCall (c : Call) (P : Program) (a : AAct) (H : AHeap) : ARes := do
  let args ← aevals a c.args.toList
  match c.callee with
  | .builtin b => rvh (aBuiltin P H b c.argTypes args)
  | .invoke recv name => do
    let r ← aeval a recv
    (aInvoke P H (.method name) (r :: args) []).map fun r => (r, H)
  | .value f => do
    let f ← aeval a f
    match callV P H f args with
    | some r => some r
    | none => externV P H f args
def panicV (H : AHeap) (v : Value) : ARes :=
  match v with
  | .iface t y => some (.panic (.iface t y), H)
  | _ => none
def xPanic (x : Operand) (_ : Program) (a : AAct) (H : AHeap) : ARes := do panicV H (← aeval a x)
def xNone (_ : Program) (_ : AAct) (_ : AHeap) : ARes := none

def aop (op : Op) : Program → AAct → AHeap → ARes :=
  match op with
  | .move x => xMove x
  | .assign x => xMove x
  | .pick c x y => xPick c x y
  | .alloc t => xAlloc t
  | .box t x => xBoxOp t x
  | .build t ps => xBuild t ps
  | .buildSlice t n ps => xBuildSlice t n ps
  | .load t x => xLoad t x
  | .store t x y => xStore t x y
  | .nilCheck x => xNil x
  | .binOp op t x y _ => xBin op t x y
  | .unOp op _ x => xUn op x
  | .makeInterface t x => xIface t x
  | .makeFunc fn first captured => xFunc fn first captured
  | .makeSlice t l c => xMakeSlice t l c
  | .slice t x lo hi mx => xSlice t x lo hi mx
  | .fieldAddr t x f => xFieldAddr t x f
  | .field t x f => xField t x f
  | .indexAddr t x i => xIndexAddr t x i
  | .index t x i => xIndex t x i
  | .typeAssert x _ asserted ok => xTypeAssert x asserted ok
  | .extract x i => xExtract x i
  | .call c => xCall c
  | .panic x => xPanic x
  | .convert s d x => xConvert s d x
  | .makeMap t r => xMakeMap t r
  | .lookup t x k ok => xLookup t x k ok
  | .mapUpdate t m k x => xMapUpdate t m k x
  | .insert t m k x => xMapUpdate t m k x
  | .range t x => xRange t x
  | .next it s => xNext it s
  | _ => xNone

/-- the executor one level below, and calls whose answer is known -/
structure Rec where
  run : Option Nat → Code → AAct → AHeap → Option (Exit × AAct × AHeap)
  know : FuncId → List Value → Option Value

def resVal (P : Program) (H : AHeap) (a : AAct) : List ResultVar → Option (List Value)
  | [] => some []
  | .tmp t :: r => do
    let vs ← resVal P H a r
    some (a.tmp t :: vs)
  | .cell x t :: r => do
    let v ← aLoad P H t (a.tmp x)
    let vs ← resVal P H a r
    some (v :: vs)

def tup : List Value → Value
  | [v] => v
  | vs => .tuple ⟨vs⟩

/-- the outcome of a call: a value or a panic -/
abbrev Out := Except (List PanicEntry) Value

/-- what recover hands over to a deferred call, and the mode of the frame that deferred it -/
def recoverU : FrameMode → Value × FrameMode
  | .panicking ({ v, recovered := false, goexit := false } :: older) => (v, .panicking ({ v, recovered := true } :: older))
  | u => (.nilIface, u)

def isRec (o : Op) : Bool :=
  match o with
  | .call ⟨.builtin .recover, ⟨[]⟩, _⟩ => true
  | _ => false

/-- is the operation wanted? -/
def wantA (ops : Array Oper) (a : AAct) (o : Oper) : Option Bool :=
  match o.guard with
  | none => some true
  | some (j, want) => (match ops[j]? with
    | some oj => (match oj.dst with
      | some d => (match a.tmp d with
        | .bool b => some (b == want)
        | _ => some false)
      | none => some false)
    | none => some false)

/-- a region of a deferred function that may recover -/
def runOpsS (P : Program) (ops : Array Oper) : List Oper → AAct → FrameMode → AHeap → Option (Exit × AAct × FrameMode × AHeap)
  | [], a, u, H => some (.normal, a, u, H)
  | o :: rest, a, u, H =>
    match wantA ops a o with
    | some true =>
      (match isRec o.op with
      | true => runOpsS P ops rest (a.put o.dst (recoverU u).1) (recoverU u).2 H
      | false => (match aop o.op P a H with
        | some (.value v, g) => if scb g.next v then runOpsS P ops rest (a.put o.dst v) u g else none
        | some (.skip, g) => runOpsS P ops rest (a.put o.dst undef) u g
        | some (.panic v, g) => if scb g.next v then some (.panic [{ v, recovered := false }], a, u, g) else none
        | _ => none))
    | some false => runOpsS P ops rest (a.put o.dst undef) u H
    | none => none

/-- the body of a deferred function -/
def runS (P : Program) (rec : Rec) : Code → AAct → FrameMode → AHeap → Option (Exit × AAct × FrameMode × AHeap)
  | .seq x y, a, u, H =>
    match runS P rec x a u H with
    | some (.normal, a1, u1, H1) => runS P rec y a1 u1 H1
    | r => r
  | .cond c x y, a, u, H =>
    match aeval a c with
    | some (.bool true) => runS P rec x a u H
    | some (.bool false) => runS P rec y a u H
    | _ => none
  | .region id ops false, a, u, H =>
    match ops.toList.any fun o => isRec o.op with
    | true => runOpsS P ops ops.toList a u H
    | false => (rec.run none (.region id ops false) a H).map fun r => (r.1, r.2.1, u, r.2.2)
  | c, a, u, H => (rec.run none c a H).map fun r => (r.1, r.2.1, u, r.2.2)

def endD (P : Program) (fn : Func) (r : Exit × AAct × FrameMode × AHeap) : Option (Out × FrameMode × AHeap) :=
  match r with
  | (.normal, ⟨e, []⟩, u, H) => (resVal P H ⟨e, []⟩ fn.results.toList).map fun vs => (.ok (tup vs), u, H)
  | (.ret, ⟨e, []⟩, u, H) => (resVal P H ⟨e, []⟩ fn.results.toList).map fun vs => (.ok (tup vs), u, H)
  | (.panic ch, ⟨_, []⟩, u, H) => some (.error ch, u, H)
  | _ => none

/-- a deferred call -/
def enterD (P : Program) (rec : Rec) (f : FuncId) (args : List Value) (u : FrameMode) (H : AHeap) : Option (Out × FrameMode × AHeap) := do
  let fn ← P.funcs[f]?
  let c ← fn.body
  if scbL H.next args && Nat.ble args.length fn.ntmps then do
    let r ← runS P rec c ⟨{ RV.ofList args with n := fn.ntmps }, []⟩ u H
    endD P fn r
  else none

/-- a function's end: its deferred calls, the marks of its loops over functions, its results -/
def leaveF (P : Program) (rec : Rec) (fn : Func) (a1 : AAct) : List Deferred → FrameMode → AHeap → Option (Out × AHeap)
  | [], u, H => (match u with
    | .returning => (resVal P H a1 fn.results.toList).map fun vs => (.ok (tup vs), H)
    | .panicking ch => some (.error ch, H)
    | .run => none)
  | d :: ds, u, H => (match u with
    | .run => none
    | u => (match d with
      | ⟨.collected r, _⟩ => (match H.get r with
        | some ⟨.deferred (some []), _, _⟩ => leaveF P rec fn a1 ds u (H.upd r (some ⟨.deferred none, false, ⟨[], 0⟩⟩))
        | _ => none)
      | ⟨.fn (.func f) cap, as⟩ =>
        if hasBody P f then
          match enterD P rec f (as.toList ++ cap.toList) u H with
          | some (.ok _, u1, H1) => leaveF P rec fn a1 ds (settle u1) H1
          | some (.error ch, u1, H1) => leaveF P rec fn a1 ds (raised u1 ch) H1
          | none => none
        else none
      | _ => none))

def endF (P : Program) (rec : Rec) (fn : Func) (r : Exit × AAct × AHeap) : Option (Out × AHeap) :=
  match r with
  | (.normal, a1, H1) => leaveF P rec fn a1 a1.defers .returning H1
  | (.ret, a1, H1) => leaveF P rec fn a1 a1.defers .returning H1
  | (.panic ch, a1, H1) => leaveF P rec fn a1 a1.defers (.panicking ch) H1
  | _ => none

def enterF (P : Program) (rec : Rec) (f : FuncId) (args : List Value) (H : AHeap) : Option (Out × AHeap) := do
  let fn ← P.funcs[f]?
  let c ← fn.body
  if scbL H.next args && Nat.ble args.length fn.ntmps then do
    let r ← rec.run none c ⟨{ RV.ofList args with n := fn.ntmps }, []⟩ H
    endF P rec fn r
  else none

def callF (P : Program) (rec : Rec) (f : FuncId) (args : List Value) (H : AHeap) : Option (Out × AHeap) :=
  match rec.know f args with
  | some v => some (.ok v, H)
  | none => enterF P rec f args H

def setLoop (H : AHeap) (l : Nat) (r : Loop) (e : RV) : AHeap := H.upd l (some ⟨.loop r, false, e⟩)

def getLoop (H : AHeap) (l : Nat) : Option (Loop × RV) :=
  match H.get l with
  | some ⟨.loop r, _, e⟩ => some (r, e)
  | _ => none

def jumpOf : Exit → Option (Option Code)
  | .normal => some none
  | .ret => some (some .ret)
  | .exit id => some (some (.exit id))
  | .goto t => some (some (.goto t))
  | _ => none

def scE (N : Nat) (e : RV) : Bool := scbL N (e.gets 0 e.n)

def roundF (rec : Rec) (r : Round) (H : AHeap) : Option (Out × AHeap) := do
  if scE H.next r.env then do
    let (e, a1, H1) ← rec.run (some r.l) r.assign ⟨r.env, []⟩ H
    match e with
    | .normal => do
      let (lp, le) ← getLoop H1 r.l
      match lp.state with
      | .ready => do
        let (e2, _, H2) ← rec.run (some r.l) r.body a1 (setLoop H1 r.l { lp with state := .busy } le)
        let j ← jumpOf e2
        let (lp2, le2) ← getLoop H2 r.l
        some (.ok (.bool j.isNone), setLoop H2 r.l { lp2 with state := if j.isNone then .ready else .done, pending := j } le2)
      | _ => none
    | _ => none
  else none

def okV (r : Out × AHeap) : Option (Out × AHeap) :=
  match r with
  | (.ok v, k) => if scb k.next v then some (.ok v, k) else none
  | (.error ch, k) => some (.error ch, k)

def doN (P : Program) (rec : Rec) (x : ANext × AHeap) : Option (Out × AHeap) :=
  match x with
  | (.value v, g) => if scb g.next v then some (.ok v, g) else none
  | (.skip, g) => some (.ok undef, g)
  | (.enter f args, g) => (callF P rec f args g).bind okV
  | (.round r, g) => if Nat.blt r.l g.next then roundF rec r g else none
  | (.panic v, g) => if scb g.next v then some (.error [{ v, recovered := false }], g) else none

/-- an operation, whatever it calls -/
def opF (P : Program) (rec : Rec) (a : AAct) (H : AHeap) (o : Oper) : Option (Out × AHeap) := (aop o.op P a H).bind (doN P rec)

/-- a deferred call's record -/
def deferV (f : Value) (args : List Value) : Option Deferred :=
  match f with
  | .func (.func g) first captured => some ⟨.fn (.func g) captured, ⟨first.toList ++ args⟩⟩
  | _ => none

def aDefer (a : AAct) (o : Op) : Option Deferred :=
  match o with
  | .defer c => (match c.callee with
    | .value f => do
      let args ← aevals a c.args.toList
      let f ← aeval a f
      deferV f args
    | _ => none)
  | _ => none

def runSeq (P : Program) (rec : Rec) (top : Bool) (ops : Array Oper) : List Oper → AAct → AHeap → Option (Exit × AAct × AHeap)
  | [], a, H => some (.normal, a, H)
  | o :: rest, a, H =>
    match wantA ops a o with
    | some true =>
      (match opF P rec a H o with
      | some (.ok v, g) => runSeq P rec top ops rest (a.put o.dst v) g
      | some (.error ch, g) => some (.panic ch, a, g)
      | none => (match top, aDefer a o.op with
        | true, some d => runSeq P rec top ops rest (AAct.put ⟨a.env, d :: a.defers⟩ o.dst undef) H
        | _, _ => none))
    | some false => runSeq P rec top ops rest (a.put o.dst undef) H
    | none => none

mutual
def idsV : Value → List Nat
  | .pointer (some a) => [a.block]
  | .slice (some a) _ _ => [a.block]
  | .map (some r) => [r]
  | .chan (some k) => [k]
  | .func (.yield l) a b => l :: (idsA a ++ idsA b)
  | .func _ a b => idsA a ++ idsA b
  | .iface _ v => idsV v
  | .agg cs => idsA cs
  | .tuple cs => idsA cs
  | _ => []
def idsA : Array Value → List Nat
  | ⟨l⟩ => idsL l
def idsL : List Value → List Nat
  | [] => []
  | v :: r => idsV v ++ idsL r
end

def idsO (o : AObj) : List Nat :=
  match o.obj with
  | .cells _ _ _ => idsL (o.rv.gets 0 o.rv.n)
  | .map es _ => es.toList.flatMap fun e => idsV e.key ++ idsV e.val
  | .loop r => r.defers :: idsL (o.rv.gets 0 o.rv.n)
  | _ => []

/-- what is reached from a list of blocks -/
def reach (H : AHeap) : Nat → List Nat → Nat → List Nat → List Nat
  | 0, _, _, acc => acc
  | _ + 1, [], _, acc => acc
  | f + 1, n :: r, seen, acc =>
    if seen.testBit n then reach H f r seen acc else
    match H.get n with
    | some o => reach H f (idsO o ++ r) (seen ||| 1 <<< n) (n :: acc)
    | none => reach H f r (seen ||| 1 <<< n) acc

def memN (n : Nat) : List Nat → Bool
  | [] => false
  | m :: r => Nat.beq m n || memN n r

def dedup (H : AHeap) : List Nat → List Nat → List Nat
  | [], acc => acc
  | n :: r, acc => if memN n acc then dedup H r acc else
    match H.get n with
    | some _ => dedup H r (n :: acc)
    | none => dedup H r acc

def direct (a : AAct) (H : AHeap) (xs : List Operand) : List Nat :=
  match aevals a xs with
  | some vs => dedup H (idsL vs) []
  | none => []

def whole (a : AAct) (H : AHeap) (xs : List Operand) : List Nat :=
  match aevals a xs with
  | some vs => reach H 1000000 (idsL vs) 0 []
  | none => []

def footC (c : Call) : AAct → AHeap → List Nat :=
  match c.callee with
  | .builtin _ => fun a H => direct a H c.args.toList
  | _ => fun a H => whole a H c.operands.toList

/-- the blocks that an operation may look at -/
def foot (op : Op) : AAct → AHeap → List Nat :=
  match op with
  | .load _ x => fun a H => direct a H [x]
  | .store _ x _ => fun a H => direct a H [x]
  | .slice _ x _ _ _ => fun a H => direct a H [x]
  | .lookup _ x _ _ => fun a H => direct a H [x]
  | .mapUpdate _ x _ _ => fun a H => direct a H [x]
  | .insert _ x _ _ => fun a H => direct a H [x]
  | .next x _ => fun a H => direct a H [x]
  | .convert _ _ x => fun a H => direct a H [x]
  | .binOp _ _ x y _ => fun a H => direct a H [x, y]
  | .call c => footC c
  | _ => fun _ _ => []

def AHeap.none (next : Nat) : AHeap := ⟨[], next, next, []⟩

def AHeap.lay (g H : AHeap) : List Nat → AHeap
  | [] => g
  | n :: r => AHeap.lay (g.put n (H.get n)) H r

def AHeap.restrict (H : AHeap) (F : List Nat) : AHeap := AHeap.lay (AHeap.none H.next) H F

def AHeap.mergeW (H g : AHeap) : List Nat → AHeap
  | [] => H
  | n :: r => AHeap.mergeW (H.upd n (g.get n)) g r

def AHeap.mergeN (H g : AHeap) (n : Nat) : Nat → AHeap
  | 0 => H
  | k + 1 => AHeap.mergeN (H.put n (g.get n)) g (n + 1) k

def AHeap.merge (H g : AHeap) : AHeap :=
  let h := AHeap.mergeN (AHeap.mergeW H g g.dirty) g H.next (g.next - H.next)
  ⟨h.root, g.next, h.base, h.dirty⟩

structure Fp where
  i : Nat
  F : List Nat
  W : List Nat
  lo : Nat
  hi : Nat

def disj (a b : List Nat) : Bool := a.all fun n => !memN n b

def edgeBits (acc : List Nat) : List Edge → Nat → Nat
  | [], s => s
  | e :: r, s => edgeBits acc r (if Region.binds .any e then s ||| 1 <<< e.on ||| acc.getD e.on 0 else s)

/-- the operations ahead of each, by the edges that bind -/
def ancsFrom : List Oper → List Nat → List Nat
  | [], acc => acc
  | o :: r, acc => ancsFrom r (acc ++ [edgeBits acc o.after.toList 0])

def ancs (ops : Array Oper) : List Nat := ancsFrom ops.toList []

def apartA (ops : Array Oper) (anc i : Nat) (oi oj : Oper) : Bool := anc.testBit i || oi.apart ops oj

def pairsOk (ops : Array Oper) (oj : Oper) (anc : Nat) : List Oper → Nat → Bool
  | [], _ => true
  | oi :: r, i => apartA ops anc i oi oj && pairsOk ops oj anc r (i + 1)

def staticFrom (ops : Array Oper) (anc : List Nat) : List Oper → Nat → Bool
  | [], _ => true
  | oj :: r, j => pairsOk ops oj (anc.getD j 0) (ops.toList.take j) 0 && (oj.after.toList.all fun e => !Region.binds .any e || Nat.blt e.on j) && staticFrom ops anc r (j + 1)

def staticOk (ops : Array Oper) : Bool := staticFrom ops (ancs ops) ops.toList 0

def rangeFrom (n : Nat) : Nat → List Nat
  | 0 => []
  | k + 1 => n :: rangeFrom (n + 1) k

def idsAt (g : AHeap) (n : Nat) : List Nat :=
  match g.get n with
  | some o => idsO o
  | none => []

/-- the blocks that an operation's result, and what it has written, name -/
def outIds (v : Value) (g : AHeap) (next : Nat) : List Nat := idsV v ++ (g.dirty ++ rangeFrom next (g.next - next)).flatMap (idsAt g)

def avoids (lo hi : Nat) (l : List Nat) : Bool := l.all fun n => Nat.blt n lo || Nat.ble hi n

/-- an operation and an elder one, in whatever order -/
def fpOk (anc : Nat) (F : List Nat) (v : Value) (g : AHeap) (next : Nat) (r : Fp) : Bool :=
  anc.testBit r.i || (disj r.W F && disj r.F g.dirty && (Nat.ble r.hi r.lo || (avoids r.lo r.hi F && avoids r.lo r.hi (outIds v g next))))

def runDraw (P : Program) (rec : Rec) (ops : Array Oper) (anc : List Nat) : List Oper → Nat → List Fp → AAct → AHeap → Option (AAct × AHeap)
  | [], _, _, a, H => some (a, H)
  | o :: rest, i, fps, a, H =>
    match wantA ops a o with
    | some true =>
      (match opF P rec a (H.restrict (foot o.op a H)) o with
      | some (.ok v, g) =>
        if (foot o.op a H).all (fun n => (H.get n).isSome) && g.dirty.all (fun n => memN n (foot o.op a H)) &&
            fps.all (fpOk (anc.getD i 0) (foot o.op a H) v g H.next) then
          runDraw P rec ops anc rest (i + 1) (⟨i, foot o.op a H, g.dirty, H.next, g.next⟩ :: fps) (a.put o.dst v) (H.merge g)
        else none
      | _ => none)
    | some false => runDraw P rec ops anc rest (i + 1) fps (a.put o.dst undef) H
    | none => none

def newLoop (a : AAct) (params : Array Tmp) (assign body : Code) (d : Nat) : AObj :=
  ⟨.loop { state := .ready, pending := none, fn := 0, tmps := #[], params, assign, body, defers := d }, false, a.env⟩

def enterLoop (ro : Option Nat) (a : AAct) (params : Array Tmp) (assign body : Code) (H : AHeap) : Option (Nat × List Deferred × AHeap) :=
  if scE H.next a.env then
    match ro with
    | none => some (H.next + 1, [{ target := .collected H.next, args := #[] }], (H.new ⟨.deferred (some []), false, ⟨[], 0⟩⟩).new (newLoop a params assign body H.next))
    | some l0 => do
      let (r, _) ← getLoop H l0
      if Nat.blt r.defers H.next then some (H.next, [], H.new (newLoop a params assign body r.defers)) else none
  else none

def afterRange (rec : Rec) (ro : Option Nat) (a1 : AAct) (l : Nat) (r : Out × AHeap) : Option (Exit × AAct × AHeap) :=
  match r with
  | (.ok _, H2) => do
    let (lp, le) ← getLoop H2 l
    match lp.state with
    | .busy => none
    | _ =>
      match lp.pending with
      | none => some (.normal, a1, setLoop H2 l { lp with state := .exhausted } le)
      | some c => rec.run ro c a1 (setLoop H2 l { lp with state := .exhausted } le)
  | (.error ch, H2) => some (.panic ch, a1, H2)

def rangeG (P : Program) (rec : Rec) (ro : Option Nat) (f : Value) (params : Array Tmp) (assign body : Code) (a : AAct) (H : AHeap) : Option (Exit × AAct × AHeap) :=
  match f with
  | .func fn first captured => do
    let (l, mark, H1) ← enterLoop ro a params assign body H
    let res ← aInvoke P H1 fn (first.toList ++ [.func (.yield l) #[] #[]]) captured.toList
    match res with
    | .enter g args => do
      let r ← callF P rec g args H1
      afterRange rec ro { a with defers := mark ++ a.defers } l r
    | _ => none
  | _ => none

abbrev StepF := Program → Rec → Option Nat → AAct → AHeap → Option (Exit × AAct × AHeap)

def stEnd (e : Exit) : StepF := fun _ _ _ a H => some (e, a, H)
def stSeq (x y : Code) : StepF := fun _ rec ro a H =>
  match rec.run ro x a H with
  | some (.normal, a1, H1) => rec.run ro y a1 H1
  | r => r
def stCond (c : Operand) (x y : Code) : StepF := fun _ rec ro a H =>
  match aeval a c with
  | some (.bool true) => rec.run ro x a H
  | some (.bool false) => rec.run ro y a H
  | _ => none
def stBlock (id : Nat) (b : Code) : StepF := fun _ rec ro a H =>
  match rec.run ro b a H with
  | some (.exit k, a1, H1) => if k = id then some (.normal, a1, H1) else some (.exit k, a1, H1)
  | r => r
/-- a scope that no jump leads back into -/
def stScope (b : Code) : StepF := fun _ rec ro a H =>
  match rec.run ro b a H with
  | some (.goto _, _, _) => none
  | r => r
def stLoop (b : Code) : StepF := fun _ rec ro a H =>
  match rec.run ro b a H with
  | some (.normal, a1, H1) => rec.run ro (.loop b) a1 H1
  | r => r
def stRegion (ops : Array Oper) (draw : Bool) : StepF := fun P rec ro a H =>
  match draw with
  | true => if staticOk ops then (runDraw P rec ops (ancs ops) ops.toList 0 [] a H).map fun r => (.normal, r.1, r.2) else none
  | false => runSeq P rec ro.isNone ops ops.toList a H
def stRange (f : Operand) (params : Array Tmp) (assign body : Code) : StepF := fun P rec ro a H => do
  rangeG P rec ro (← aeval a f) params assign body a H
def stNone : StepF := fun _ _ _ _ _ => none

def step (c : Code) : StepF :=
  match c with
  | .skip => stEnd .normal
  | .label _ => stEnd .normal
  | .seq x y => stSeq x y
  | .cond c x y => stCond c x y
  | .block id b => stBlock id b
  | .loop b => stLoop b
  | .scope b => stScope b
  | .exit id => stEnd (.exit id)
  | .goto l => stEnd (.goto l)
  | .ret => stEnd .ret
  | .region _ ops draw => stRegion ops draw
  | .rangeFunc f params assign body => stRange f params assign body
  | _ => stNone

def exec (P : Program) (K : FuncId → List Value → Option Value) : Nat → Rec
  | 0 => ⟨fun _ _ _ _ => none, K⟩
  | n + 1 => ⟨fun ro c a H => step c P (exec P K n) ro a H, K⟩

def call (P : Program) (K : FuncId → List Value → Option Value) (fuel : Nat) (f : FuncId) (args : List Value) (H : AHeap) : Option (Out × AHeap) := enterF P (exec P K fuel) f args H

/-- scalars that are the same -/
def sameV : Value → Value → Bool
  | .int k a, .int l b => decide (k = l) && decide (a = b)
  | .bool a, .bool b => a == b
  | _, _ => false

def sameL : List Value → List Value → Bool
  | [], [] => true
  | a :: r, b :: q => sameV a b && sameL r q
  | _, _ => false

/-- scalars, or rows of scalars, that are the same -/
def sameW : Value → Value → Bool
  | .agg a, .agg b => sameL a.toList b.toList
  | .tuple a, .tuple b => sameL a.toList b.toList
  | a, b => sameV a b

def sameM : List Value → List Value → Bool
  | [], [] => true
  | a :: r, b :: q => sameW a b && sameM r q
  | _, _ => false

/-- a list of known answers -/
def lookK : List (FuncId × List Value × Value) → FuncId → List Value → Option Value
  | [], _, _ => none
  | (g, as, v) :: r, f, args => if Nat.beq g f && sameM as args then some v else lookK r f args

def ansB (P : Program) (K : FuncId → List Value → Option Value) (fuel : Nat) (f : FuncId) (args : List Value) (v : Value) : Bool :=
  match call P K fuel f args (AHeap.none P.globals.size) with
  | some (.ok u, _) => sameW u v
  | _ => false

end Go.Ax
