/- Parts of the proof, one behind the other. -/
import Derived.RangeFuncLeaves
import Derived.OrdersIn
import Derived.RecoverIn
import Derived.Laws.World
import Derived.Laws.Sem
import Derived.Lib.UnsafeStr
import Derived.Lib.MakeNoZero
import Derived.Laws.Externs
set_option linter.all false
set_option maxRecDepth 10000
set_option maxHeartbeats 16000000
open And renaming intro -> zA0
open Option renaming bind_eq_bind -> zA1, bind_eq_some_iff -> zA2, bind_some -> zA3, map_some -> zA5, map_eq_some_iff -> zA6
open Bool renaming and_eq_true -> zA4, false_eq_true -> zB7, and_self -> zD6
open List renaming getElem?_eq_getElem -> zA7, length_cons -> zB0, mem_cons -> zB1, map_cons -> zB3, mem_singleton -> zB4, mem_cons_of_mem -> zB5, mem_cons_self -> zB9, mem_of_getElem? -> zC2, all_eq_true -> zC4, getElem?_cons_zero -> zC5, getElem?_eq_none -> zC6, drop_zero -> zC7, length_append -> zC8, mem_append -> zC9, getElem?_cons_succ -> zD0, length_replicate -> zD2, eq_nil_of_length_eq_zero -> zD4, nil_append -> zD5, length_nil -> zD7, map_congr_left -> zD8, mem_map -> zE0, flatMap_cons -> zE1, append_nil -> zE2, length_take -> zE3, length_drop -> zE4
open Nat renaming le_refl -> zA8, zero_le -> zA9, le_of_ble_eq_true -> zB2, lt_or_ge -> zB6, le_trans -> zB8, zero_add -> zC0, lt_succ_self -> zC1, lt_of_lt_of_le -> zC3, min -> zD1, add_zero -> zD3, eq_of_beq_eq_true -> zD9

namespace Go.Ax
theorem exq {α:Sort _} (a:α):∃ x,a=x:=⟨a,rfl⟩
def lset {α:Type} (d:α):List α->Nat->α->List α
 |[],0,v=>[v]
 |[],i+1,v=>d::lset d [] i v
 |_::r,0,v=>v::r
 |x::r,i+1,v=>x::lset d r i v
structure RV where
 t:List (List Value)
 n:Nat
def RV.get (v:RV) (i:Nat):Value:=(v.t.getD (i / 16) []).getD (i % 16) undef
def RV.set (v:RV) (i:Nat) (x:Value):RV :=
 match v with
 |⟨t,n⟩=>⟨lset [] t (i / 16) (lset undef (t.getD (i / 16) []) (i % 16) x),n⟩
def RV.gets (v:RV) (i:Nat):Nat->List Value
 |0=>[]
 |k+1=>v.get i::RV.gets v (i+1) k
def RV.sets (v:RV) (i:Nat):List Value->RV
 |[]=>v
 |x::r=>RV.sets (v.set i x) (i+1) r
def forceN {α:Type} (n:Nat) (k:Nat->α):α :=
 match n+1 with
 |0=>k 0
 |m+1=>k m
def RV.ofList (l:List Value):RV:=forceN l.length fun n=>match RV.sets ⟨[],0⟩ 0 l with
 |⟨t,_⟩=>⟨t,n⟩
structure AObj where
 obj:Obj
 opn:Bool
 rv:RV
structure AHeap where
 root:List (List (List (Option AObj)))
 next:Nat
 base:Nat
 dirty:List Nat
def AHeap.get (h:AHeap) (n:Nat):Option AObj :=
 ((h.root.getD (n / 256) []).getD (n / 16 % 16) []).getD (n % 16) none
def rootPut (root:List (List (List (Option AObj)))) (n:Nat) (o:Option AObj):List (List (List (Option AObj))) :=
 lset [] root (n / 256) (lset [] (root.getD (n / 256) []) (n / 16 % 16) (lset none ((root.getD (n / 256) []).getD (n / 16 % 16) []) (n % 16) o))
def AHeap.put (h:AHeap) (n:Nat) (o:Option AObj):AHeap :=
 match h with
 |⟨r,k,b,d⟩=>⟨rootPut r n o,k,b,d⟩
def AHeap.upd (h:AHeap) (n:Nat) (o:Option AObj):AHeap :=
 match h with
 |⟨r,k,b,d⟩=>⟨rootPut r n o,k,b,if Nat.blt n b then n::d else d⟩
theorem AHeap.upd_eq (h:AHeap) (n:Nat) (o:Option AObj):h.upd n o=⟨rootPut h.root n o,h.next,h.base,if Nat.blt n h.base then n::h.dirty else h.dirty⟩:=rfl
theorem AHeap.put_eq (h:AHeap) (n:Nat) (o:Option AObj):h.put n o=⟨rootPut h.root n o,h.next,h.base,h.dirty⟩:=rfl
def AHeap.new (h:AHeap) (o:AObj):AHeap :=
 match h with
 |⟨r,k,b,d⟩=>forceN (k+1) fun k1=>⟨rootPut r k (some o),k1,b,d⟩
mutual
def af:Value->Bool
 |.pointer (some _)=>false
 |.slice (some _) _ _=>false
 |.map (some _)=>false
 |.chan (some _)=>false
 |.func (.yield _) _ _=>false
 |.func _ a b=>afA a&&afA b
 |.iface _ v=>af v
 |.agg cs=>afA cs
 |.tuple cs=>afA cs
 |_=>true
def afA:Array Value->Bool
 |⟨l⟩=>afL l
def afL:List Value->Bool
 |[]=>true
 |v::r=>af v&&afL r
end
mutual
def scb (N:Nat):Value->Bool
 |.pointer (some a)=>Nat.blt a.block N
 |.slice (some a) _ _=>Nat.blt a.block N
 |.map (some r)=>Nat.blt r N
 |.chan (some k)=>Nat.blt k N
 |.func (.yield l) a b=>Nat.blt l N&&scbA N a&&scbA N b
 |.func _ a b=>scbA N a&&scbA N b
 |.iface _ v=>scb N v
 |.agg cs=>scbA N cs
 |.tuple cs=>scbA N cs
 |_=>true
def scbA (N:Nat):Array Value->Bool
 |⟨l⟩=>scbL N l
def scbL (N:Nat):List Value->Bool
 |[]=>true
 |v::r=>scb N v&&scbL N r
end
def peval {α:Type} (P:Program):Sem α->Option α
 |.pure a=>some a
 |.program k=>peval P (k P)
 |.mark _ k=>peval P k
 |_=>none
def ppanic {α:Type} (P:Program):Sem α->Option Value
 |.halt (.panic v)=>some v
 |.program k=>ppanic P (k P)
 |.mark _ k=>ppanic P k
 |_=>none
theorem AHeap.new_eq (h:AHeap) (o:AObj):h.new o=⟨rootPut h.root h.next (some o),h.next+1,h.base,h.dirty⟩:=rfl
theorem RV.set_eq (v:RV) (i:Nat) (x:Value):v.set i x={v with t:=lset [] v.t (i / 16) (lset undef (v.t.getD (i / 16) []) (i % 16) x)}:=rfl
theorem RV.ofList_eq (l:List Value):RV.ofList l={RV.sets ⟨[],0⟩ 0 l with n:=l.length}:=rfl
structure AAct where
 env:RV
 defers:List Deferred
def AAct.put (a:AAct) (dst:Option Tmp) (v:Value):AAct :=
 match dst with
 |some d=>(match a with
  |⟨⟨t,n⟩,ds⟩=>if Nat.blt d n then⟨RV.set ⟨t,n⟩ d v,ds⟩ else⟨⟨t,n⟩,ds⟩)
 |none=>a
theorem AAct.put_eq (a:AAct) (dst:Option Tmp) (v:Value):a.put dst v=match dst with
 |some d=>if Nat.blt d a.env.n then {a with env:=a.env.set d v} else a
 |none=>a:=by
 cases dst with
 |none=>rfl
 |some d=>rfl
def AAct.tmp (a:AAct) (t:Nat):Value:=if Nat.blt t a.env.n then a.env.get t else undef
def aeval (P:Program) (a:AAct):Operand->Option Value
 |.tmp t=>some (a.tmp t)
 |.const v=>if af v then some v else none
 |.global g=>if Nat.blt g P.globals.size then some (.pointer (some ⟨g,0,none⟩)) else none
 |.func f=>some (.func (.func f) #[] #[])
def aevals (P:Program) (a:AAct):List Operand->Option (List Value)
 |[]=>some []
 |x::r=>do
  let v <-aeval P a x
  let vs <-aevals P a r
  some (v::vs)
def szOf (P:Program) (t:TypeId):Option Nat:=(P.info? t).map (·.size)
def bytesOf (P:Program) (t:TypeId):Option Nat:=(P.info? t).map (·.bytes)
def zeroOf (P:Program) (t:TypeId):Option Value :=
 match P.info? t with
 |some i=>(match i.zero with
  |some v=>if af v then some v else none
  |none=>none)
 |none=>none
def aggT (P:Program) (t:TypeId):Option Bool :=
 match P.underlying t with
 |some (.struct _)=>some true
 |some (.array _ _)=>some true
 |some _=>some false
 |none=>none
def opq:Value->Bool
 |.agg _=>false
 |.tuple _=>false
 |.bool _=>false
 |_=>true
def one:Value->Bool
 |.agg _=>false
 |.tuple _=>false
 |_=>true
def cellsAt (H:AHeap) (n:Nat):Option (RV × TypeId × Bool) :=
 match H.get n with
 |some ⟨.cells _ e (0,_),o,v⟩=>some (v,e,o)
 |_=>none
def cellsR (H:AHeap) (n:Nat):Option (RV × TypeId × Bool) :=
 match H.get n with
 |some ⟨.cells _ e _,o,v⟩=>some (v,e,o)
 |_=>none
def aLoad (P:Program) (H:AHeap) (t:TypeId) (v:Value):Option Value :=
 match v with
 |.pointer (some ⟨n,off,none⟩)=>do
  let (c,_,_) <-cellsR H n
  match <-aggT P t with
  |true=>do
   let sz <-szOf P t
   if Nat.ble (off+sz) c.n then some (.agg ⟨c.gets off sz⟩) else none
  |false=>if Nat.blt off c.n then some (c.get off) else none
 |_=>none
def aWrite (H:AHeap) (n off:Nat) (vs:List Value):Option AHeap:=do
 let (c,e,o) <-cellsAt H n
 if Nat.ble (off+vs.length) c.n&&vs.all one&&scbL H.next vs then
  some (H.upd n (some ⟨.cells #[] e,o,c.sets off vs⟩))
 else none
def aStore (P:Program) (H:AHeap) (t:TypeId) (a v:Value):Option AHeap :=
 match a with
 |.pointer (some ⟨n,off,none⟩)=>do
  let sz <-szOf P t
  if v.cells.toList.length=sz then aWrite H n off v.cells.toList else none
 |_=>none
def aNew (H:AHeap) (e:TypeId) (c:List Value) (o:Bool):Option AHeap :=
 if scbL H.next c then some (H.new ⟨.cells #[] e,o,RV.ofList c⟩) else none
abbrev Res:=Except Value Next
def val1 (v:Value):Res:=.ok (.value v)
def aPart (P:Program) (t:TypeId) (cs:List Value) (off:Nat):Option Value:=do
 match <-aggT P t with
 |true=>do
  let sz <-szOf P t
  some (.agg ⟨(cs.drop off).take sz⟩)
 |false=>cs[off]?
def aField (P:Program) (t:TypeId) (x:Value) (f:Nat):Option Value :=
 match P.underlying t,x with
 |some (.struct fields),.agg cs =>
  match fields.toList[f]? with
  |some fd=>aPart P fd.type cs.toList fd.offset
  |none=>none
 |_,_=>none
def aFieldAddr (P:Program) (t:TypeId) (x:Value) (f:Nat):Option Value :=
 match P.underlying t,x with
 |some (.struct fields),.pointer (some a) =>
  match fields.toList[f]? with
  |some fd=>(match szOf P fd.type with
   |some 0=>none
   |some _=>some (.pointer (some (a.add fd.offset)))
   |none=>none)
  |none=>none
 |_,_=>none
def aIndex (P:Program) (t:TypeId) (x i:Value):Option Value :=
 match P.underlying t,x,i with
 |some (.array len elem),.agg cs,.int _ i=>do
  let sz <-szOf P elem
  if 0<=i/\i<len then aPart P elem cs.toList (i.toNat*sz) else none
 |some .string,.string s,.int _ i=>if 0<=i then (s.data.toList[i.toNat]?).map fun b=>.int .u8 b.toNat else none
 |_,_,_=>none
def aIndexAddr (P:Program) (t:TypeId) (x i:Value):Option Value :=
 match P.underlying t,x,i with
 |some (.array len elem),.pointer (some a),.int _ i=>do
  let sz <-szOf P elem
  if 0<=i/\i<len then some (.pointer (some (a.add (i.toNat*sz)))) else none
 |some (.slice elem),.slice (some a) len _,.int _ i=>do
  let sz <-szOf P elem
  if 0<=i/\i<len then some (.pointer (some ⟨a.block,a.off+i.toNat*sz,none⟩)) else none
 |_,_,_=>none
def bound (d:Nat) (v:Option Value):Option Nat :=
 match v with
 |none=>some d
 |some (.int _ i)=>if 0<=i then some i.toNat else none
 |_=>none
def isOpen (H:AHeap) (n:Nat):Option Bool :=
 match H.get n with
 |some ⟨.cells _ _ _,o,_⟩=>some o
 |_=>none
def exactAt (H:AHeap) (a:Addr):Option Bool :=
 match a.spot with
 |some 0=>some true
 |some (_+1)=>none
 |none=>(isOpen H a.block).map (!·)
def aSlice3 (H:AHeap) (sz:Nat) (a:Option Addr) (len cap:Nat) (lo hi:Option Value) (m:Nat):Option (Value × AHeap):=do
 let l <-bound 0 lo
 let h <-bound len hi
 if m<=cap/\h<=m/\l<=h/\(∀ b∈a,b.spot.getD 0=0) then
  match a with
  |none=>some (.slice none (h-l) (m-l),H)
  |some a=>some (.slice (some ⟨a.block,if m=l then a.off else a.off+l*sz,some 0⟩) (h-l) (m-l),H)
 else none
def aSlice2 (H:AHeap) (sz:Nat) (a:Option Addr) (len cap:Nat) (lo hi:Option Value):Option (Value × AHeap):=do
 let l <-bound 0 lo
 let h <-bound len hi
 if h<=cap/\l<=h then
  match a with
  |none=>some (.slice none (h-l) (cap-l),H)
  |some a =>
   match exactAt H a with
   |none=>if l=0/\h=len/\a.spot.getD 0≠0 then some (.slice (some a) len cap,H) else none
   |some true=>some (.slice (some ⟨a.block,if cap=l then a.off else a.off+l*sz,some 0⟩) (h-l) (cap-l),H)
   |some false =>
    if l=0 then some (.slice (some ⟨a.block,a.off,none⟩) h cap,H)
    else if l<cap then some (.slice (some ⟨a.block,a.off+l*sz,none⟩) (h-l) (cap-l),H)
    else if sz=0 then none
    else some (.slice (some ⟨a.block,a.off+l*sz,some (a.off+1)⟩) 0 0,H)
 else none
def aSlice (P:Program) (H:AHeap) (t:TypeId) (x:Value) (lo hi mx:Option Value):Option (Value × AHeap) :=
 match P.underlying t,x,mx with
 |some (.string),.string s,none=>do
  let l <-bound 0 lo
  let h <-bound s.size hi
  if h<=s.size/\l<=h then some (.string (s.extract l h),H) else none
 |some (.slice e),.slice a len cap,none=>do aSlice2 H (<-szOf P e) a len cap lo hi
 |some (.slice e),.slice a len cap,some (.int _ m)=>do
  if 0<=m/\hi.isSome=true then aSlice3 H (<-szOf P e) a len cap lo hi m.toNat else none
 |some (.array n e),.pointer (some a),none=>do
  let l <-bound 0 lo
  let h <-bound n hi
  let sz <-szOf P e
  if h<=n/\l<=h/\a.spot=none then
   some (.slice (some ⟨a.block,if n=l then a.off else a.off+l*sz,some 0⟩) (h-l) (n-l),H)
  else none
 |_,_,_=>none
def bytesV (l:List UInt8):List Value:=l.map fun b=>.int .u8 b.toNat
def firstC (H:AHeap) (sz n:Nat):Value->Option (List Value)
 |.slice (some a) _ _=>if n=0 then some [] else do
  let (c,_,_) <-cellsR H a.block
  if Nat.ble (a.off+n*sz) c.n then some (c.gets a.off (n*sz)) else none
 |.slice none _ _=>some []
 |.string s=>some (bytesV (s.data.toList.take n))
 |_=>none
def lenV:Value->Option Nat
 |.slice _ n _=>some n
 |.string s=>some s.size
 |_=>none
def small (n b:Nat):Bool:=Nat.ble (n*b) 140737488351232&&Nat.ble n 140737488351232
def zerosL (z:List Value):Nat->List Value
 |0=>[]
 |n+1=>z++zerosL z n
def exactAp (H:AHeap) (a:Addr) (len cap:Nat):Option Bool :=
 match a.spot with
 |some (_+1)=>if Nat.beq (len+cap) 0 then (match isOpen H a.block with
  |some true=>some false
  |_=>none) else none
 |_=>exactAt H a
def aAppend2 (H:AHeap) (e:TypeId) (sz:Nat) (base:Option Addr) (len cap n:Nat) (new:List Value):Option (Value × AHeap) :=
 if len+n<=cap then
  match base with
  |none=>if n=0 then some (.slice none len cap,H) else none
  |some a=>do
   let g <-aWrite H a.block (a.off+len*sz) new
   some (.slice base (len+n) cap,g)
 else do
  let old <-firstC H sz len (.slice base len cap)
  if old.length=len*sz&&old.all one&&new.all one then
   match base with
   |none=>do
    let g <-aNew H e (old++new) true
    some (.slice (some ⟨H.next,0,none⟩) (len+n) (len+n),g)
   |some a=>do
    match <-exactAp H a len cap with
    |true=>do
     let g <-aNew H e (old++new) true
     some (.slice (some ⟨H.next,0,none⟩) (len+n) (len+n),g)
    |false=>do
     let (v,e',_) <-cellsAt H a.block
     if e'=e/\Nat.ble (a.off+cap*sz) v.n=true then do
      let g <-aNew (H.upd a.block none) e (old++new) true
      some (.slice (some ⟨H.next,0,none⟩) (len+n) (len+n),g)
     else none
  else none
def intTy (P:Program) (t:TypeId):Option Bool :=
 match P.underlying t with
 |some (.int _)=>some true
 |some _=>some false
 |none=>none
def aAppend (P:Program) (H:AHeap) (ts:Array TypeId) (s x:Value):Option (Value × AHeap) :=
 match ts.toList,s with
 |st::xt::_,.slice base len cap=>do
  let .slice e <-P.underlying st|none
  let sz <-szOf P e
  let by1 <-bytesOf P e
  let zs <-zeroOf P e
  match <-intTy P xt,x with
  |true,.int .i64 l =>
   if 0<=l/\small (len+l.toNat) by1=true/\zs.cells.toList.length=sz then
    aAppend2 H e sz base len cap l.toNat (zerosL zs.cells.toList l.toNat)
   else none
  |true,_=>none
  |false,x=>do
   let n <-lenV x
   let new <-firstC H sz n x
   if new.length=n*sz/\small (len+n) by1=true/\zs.cells.toList.length=sz then aAppend2 H e sz base len cap n new else none
 |_,_=>none
def aCopy (P:Program) (H:AHeap) (ts:Array TypeId) (d s:Value):Option (Value × AHeap) :=
 match ts.toList,d with
 |dt::_,.slice base dl _=>do
  let .slice e <-P.underlying dt|none
  let sz <-szOf P e
  let sl <-lenV s
  let cs <-firstC H sz (zD1 sl dl) s
  match base with
  |none=>some (goInt (zD1 sl dl),H)
  |some a =>
   if a.spot.getD 0=0\/dl≠0 then do
    let g <-aWrite H a.block a.off cs
    some (goInt (zD1 sl dl),g)
   else some (goInt 0,H)
 |_,_=>none
def aLen (P:Program) (H:AHeap) (t:TypeId) (x:Value):Option Value :=
 match P.underlying t,x with
 |some (.slice _),.slice _ n _=>some (goInt n)
 |some (.string),.string s=>some (goInt s.size)
 |some (.map _ _),.map none=>some (goInt 0)
 |some (.map _ _),.map (some r)=>(match H.get r with
  |some ⟨.map es _,_,_⟩=>some (goInt es.size)
  |_=>none)
 |some (.array n _),_=>some (goInt n)
 |_,_=>none
def aCap (P:Program) (H:AHeap) (t:TypeId) (x:Value):Option Value :=
 match P.underlying t,x with
 |some (.slice _),.slice none _ n=>some (goInt n)
 |some (.slice _),.slice (some a) _ n=>(match exactAt H a with
  |some true=>some (goInt n)
  |_=>none)
 |some (.array n _),_=>some (goInt n)
 |_,_=>none
def aMinMax (mx:Bool):List Value->Option Value
 |[.int k x,.int _ y]=>some (.int k (if mx then (if y>x then y else x) else (if y<x then y else x)))
 |_=>none
def keyOk:Value->Bool
 |.int _ _=>true
 |.string _=>true
 |.bool _=>true
 |_=>false
def keyKind:TypeDesc->Bool
 |.int _=>true
 |.string=>true
 |.bool=>true
 |_=>false
def aDelete (P:Program) (H:AHeap) (t:TypeId) (m k:Value):Option (Value × AHeap) :=
 match P.underlying t,m with
 |some (.map key _),.map (some r)=>(match H.get r with
  |some ⟨.map es clock,_,_⟩=>do
   let kd <-P.underlying key
   if keyOk k&&keyKind kd then
    match Instr.findNow kd k es.toList 0 with
    |some (some (i,_))=>some (.tuple #[],H.upd r (some ⟨.map (es.eraseIdxIfInBounds i) clock,false,⟨[],0⟩⟩))
    |some none=>some (.tuple #[],H.upd r (some ⟨.map es clock,false,⟨[],0⟩⟩))
    |none=>none
   else none
  |_=>none)
 |_,_=>none
def aClear (P:Program) (H:AHeap) (t:TypeId) (x:Value):Option (Value × AHeap) :=
 match P.underlying t,x with
 |some (.slice _),.slice none _ _=>some (.tuple #[],H)
 |some (.slice e),.slice (some a) n _=>(match n with
  |0=>some (.tuple #[],H)
  |n+1=>do
   let z <-zeroOf P e
   let g <-aWrite H a.block a.off (zerosL z.cells.toList (n+1))
   some (.tuple #[],g))
 |_,_=>none
def aSliceData (x:Value):Option Value :=
 match x with
 |.slice none _ _=>some (.pointer none)
 |.slice (some ⟨n,off,_⟩) _ (_+1)=>some (.pointer (some ⟨n,off,none⟩))
 |_=>none
def bytesOfCells:List Value->Option (List UInt8)
 |[]=>some []
 |.int .u8 n::r=>(bytesOfCells r).map (UInt8.ofNat n.toNat::·)
 |_=>none
def aUnsafeStr (P:Program) (H:AHeap) (ts:Array TypeId) (p n:Value):Option (Value × AHeap) :=
 match ts.toList,p,n with
 |_::_,.pointer none,.int .i64 0=>some (.string .empty,H)
 |pt::_,.pointer (some ⟨b,off,none⟩),.int .i64 n=>do
  let .pointer e' <-P.underlying pt|none
  let .int .u8 <-P.underlying e'|none
  let 1 <-szOf P e'|none
  match H.get b with
  |some ⟨.cells z e (0,q),o,c⟩ =>
   if n=0 then some (.string .empty,H)
   else if e=e'/\0<n/\n<1000000000/\Nat.ble (off+n.toNat) c.n=true then do
    let l <-bytesOfCells (c.gets off n.toNat)
    some (.string ⟨l.toArray⟩,H.upd b (some ⟨.cells z e (1,q),true,c⟩))
   else none
  |_=>none
 |_,_,_=>none
def aBuiltin (P:Program) (H:AHeap) (b:Builtin) (ts:Array TypeId) (args:List Value):Option (Value × AHeap) :=
 match b,args with
 |.unsafeSliceData,[x]=>(aSliceData x).map fun v=>(v,H)
 |.unsafeString,[p,n]=>aUnsafeStr P H ts p n
 |.append,[s,x]=>aAppend P H ts s x
 |.copy,[d,s]=>aCopy P H ts d s
 |.len,[x]=>(match ts.toList with
  |t::_=>(aLen P H t x).map fun v=>(v,H)
  |[]=>none)
 |.cap,[x]=>(match ts.toList with
  |t::_=>(aCap P H t x).map fun v=>(v,H)
  |[]=>none)
 |.delete,[m,k]=>(match ts.toList with
  |t::_=>aDelete P H t m k
  |[]=>none)
 |.clear,[x]=>(match ts.toList with
  |t::_=>aClear P H t x
  |[]=>none)
 |.max,args=>(aMinMax true args).map fun v=>(v,H)
 |.min,args=>(aMinMax false args).map fun v=>(v,H)
 |_,_=>none
def aEq (P:Program) (H:AHeap):Nat->TypeId->Value->Value->Option Bool
 |0,_,_,_=>none
 |d+1,t,x,y =>
  match P.underlying t,x,y with
  |some (.pointer _),.pointer none,.pointer b=>some b.isNone
  |some (.pointer _),.pointer (some _),.pointer none=>some false
  |some (.pointer e),.pointer (some a),.pointer (some b) =>
   (match szOf P e,isOpen H a.block,isOpen H b.block with
   |some (_+1),some false,some false=>some (a == b)
   |_,_,_=>none)
  |some (.slice _),.slice none _ _,.slice b _ _=>some b.isNone
  |some (.slice _),.slice (some _) _ _,.slice none _ _=>some false
  |some (.map _ _),.map none,.map b=>some b.isNone
  |some (.map _ _),.map (some _),.map none=>some false
  |some (.func _ _ _),.nilFunc,.func _ _ _=>some false
  |some (.func _ _ _),.func _ _ _,.nilFunc=>some false
  |some (.interface _),.nilIface,.iface _ _=>some false
  |some (.interface _),.iface _ _,.nilIface=>some false
  |some (.interface _),.iface tx vx,.iface ty vy =>
   if tx≠ty then some false else
   (match P.info? tx with
   |some i=>if i.comparable then aEq P H d tx vx vy else none
   |none=>none)
  |_,_,_=>none
def intBin (op:BinOp) (k:IntKind) (a b:Int):Option Value :=
 match op with
 |.add=>some (.int k (k.wrap (a+b)))
 |.sub=>some (.int k (k.wrap (a-b)))
 |.mul=>some (.int k (k.wrap (a*b)))
 |.quo=>if b=0 then none else some (.int k (k.wrap (a.tdiv b)))
 |.rem=>if b=0 then none else some (.int k (a.tmod b))
 |.eql=>some (.bool (a == b))
 |.neq=>some (.bool (a != b))
 |.lss=>some (.bool (a<b))
 |.leq=>some (.bool (a<=b))
 |.gtr=>some (.bool (a>b))
 |.geq=>some (.bool (a ≥ b))
 |_=>none
def eqOp (op:BinOp) (b:Bool):Option Value :=
 match op with
 |.eql=>some (.bool b)
 |.neq=>some (.bool !b)
 |_=>none
def aBinAddr (P:Program) (H:AHeap) (op:BinOp) (t:TypeId) (x y:Value):Option Value :=
 match x,y with
 |.agg _,_=>none
 |.nilIface,.nilIface=>none
 |x,y=>(aEq P H 100 t x y).bind (eqOp op)
def aTypeAssert (P:Program) (x:Value) (asserted:TypeId) (commaOk:Bool):Option Value :=
 match P.underlying asserted,x with
 |some (.interface want),.iface t _ =>
  (match P.info? t with
  |some i=>(match Instr.missingMethod want i.methods with
   |none=>some (if commaOk then .tuple #[x,.bool true] else x)
   |some _=>if commaOk then (zeroOf P asserted).map fun z=>.tuple #[z,.bool false] else none)
  |none=>none)
 |some _,.nilIface=>if commaOk then (zeroOf P asserted).map fun z=>.tuple #[z,.bool false] else none
 |some _,.iface t v =>
  if t=asserted then some (if commaOk then .tuple #[v,.bool true] else v)
  else if commaOk then (zeroOf P asserted).map fun z=>.tuple #[z,.bool false] else none
 |_,_=>none
def noNum (P:Program):Bool:=P.funcs.toList.all fun fn=>fn.name != "runtime.NumGoroutine"
def hasBody (P:Program) (f:FuncId):Bool :=
 match P.funcs[f]? with
 |some fn=>fn.body.isSome&&noNum P
 |none=>false
def aRecv (P:Program) (H:AHeap) (t:TypeId) (v:Value) (ptr:Bool):Option Value :=
 match P.underlying t,ptr,v with
 |some (.pointer _),true,v=>some v
 |some (.pointer e),false,.pointer (some a)=>aLoad P H e (.pointer (some a))
 |some (.pointer _),false,_=>none
 |some _,false,v=>some v
 |_,_,_=>none
def aMethod (P:Program) (t:TypeId) (name:String):Option (FuncId × Bool) :=
 match P.info? t with
 |some i =>
  (match i.methods.find? (·.name == name) with
  |some m=>if m.path.isEmpty then m.func else none
  |none=>none)
 |none=>none
def zipSet:List Tmp->List Value->RV->RV
 |t::ts,v::vs,e=>zipSet ts vs (if Nat.blt t e.n then e.set t v else e)
 |_,_,e=>e
structure Round where
 l:Nat
 env:RV
 assign:Code
 body:Code
inductive ANext where
 |value (v:Value)
 |skip
 |enter (f:FuncId) (args:List Value)
 |round (r:Round)
 |panic (v:Value)
def aYield (H:AHeap) (l:Nat) (args:List Value):Option ANext :=
 match H.get l with
 |some ⟨.loop r,_,e⟩ =>
  if args.length=r.params.toList.length then some (.round ⟨l,zipSet r.params.toList args e,r.assign,r.body⟩) else none
 |_=>none
def enterN (P:Program) (f:FuncId) (args:List Value):Option ANext :=
 if hasBody P f then some (.enter f args) else none
def aInvoke (P:Program) (H:AHeap) (fn:Fn) (args captured:List Value):Option ANext :=
 match fn,args with
 |.func f,args=>enterN P f (args++captured)
 |.yield l,args=>aYield H l args
 |.method name,.iface t v::r=>do
  let (f,ptr) <-aMethod P t name
  let x <-aRecv P H t v ptr
  enterN P f (x::r)
 |.via t path f ptr,x::r=>do
  if path.isEmpty then do
   let y <-aRecv P H t x ptr
   enterN P f (y::r)
  else none
 |_,_=>none
abbrev ARes:=Option (ANext × AHeap)
def rv (H:AHeap) (x:Option Value):ARes:=x.map fun y=>(.value y,H)
def rvh (x:Option (Value × AHeap)):ARes:=x.map fun y=>(.value y.1,y.2)
def ruh (x:Option AHeap):ARes:=x.map fun y=>(.skip,y)
def mapAt (H:AHeap):Option Nat->Option (Array MapEntry)
 |none=>some #[]
 |some r=>(match H.get r with
  |some ⟨.map es _,_,_⟩=>some es
  |_=>none)
def aLookup (P:Program) (H:AHeap) (t:TypeId) (x k:Value) (ok:Bool):Option Value :=
 match P.underlying t,x with
 |some (.map key elem),.map r=>do
  let es <-mapAt H r
  let kd <-P.underlying key
  if keyOk k&&keyKind kd then
   match Instr.findNow kd k es.toList 0 with
   |some (some (_,v))=>some (if ok then .tuple #[v,.bool true] else v)
   |some none=>(zeroOf P elem).map fun z=>if ok then .tuple #[z,.bool false] else z
   |none=>none
  else none
 |_,_=>none
def aMapUpdate (P:Program) (H:AHeap) (t:TypeId) (x k v:Value):Option AHeap :=
 match P.underlying t,x with
 |some (.map key _),.map (some r)=>(match H.get r with
  |some ⟨.map es clock,_,_⟩=>do
   let kd <-P.underlying key
   if keyOk k&&keyKind kd&&scb H.next v then
    match Instr.findNow kd k es.toList 0 with
    |some (some (i,_))=>some (H.upd r (some ⟨.map (es.modify i fun e=>{e with key:=k,val:=v}) clock,false,⟨[],0⟩⟩))
    |some none=>some (H.upd r (some ⟨.map (es.push {key:=k,val:=v,born:=clock}) (clock+1),false,⟨[],0⟩⟩))
    |none=>none
   else none
  |_=>none)
 |_,_=>none
def aBuild (P:Program) (t:TypeId) (parts:List (Nat × Value)):Option Value:=do
 let z <-zeroOf P t
 match P.underlying t with
 |some (.struct fields)=>do
  let places <-peval P (fields.mapM fun f=>do pure (f.offset,<-sizeOf f.type))
  (Instr.fill (places[·]?) z.cells parts).map .agg
 |some (.array _ elem)=>do
  let sz <-szOf P elem
  (Instr.fill (fun i=>some (i*sz,sz)) z.cells parts).map .agg
 |_=>none
def aBuildSlice (P:Program) (H:AHeap) (t:TypeId) (len:Nat) (parts:List (Nat × Value)):Option (Value × AHeap):=do
 let .slice e <-P.underlying t|none
 let sz <-szOf P e
 let z <-zeroOf P e
 if len*sz<=1000000/\z.cells.toList.length=sz then do
  let cells <-Instr.fill (fun i=>some (i*sz,sz)) (zerosL z.cells.toList len).toArray parts
  let g <-aNew H e cells.toList false
  some (.slice (some ⟨H.next,0,some 0⟩) len len,g)
 else none
def aMakeSlice (P:Program) (H:AHeap) (t:TypeId) (l c:Value):Option (Value × AHeap) :=
 match l,c with
 |.int .i64 l,.int .i64 c=>do
  let .slice e <-P.underlying t|none
  let by1 <-bytesOf P e
  let sz <-szOf P e
  let z <-zeroOf P e
  if 0<=l/\l<=c/\small c.toNat by1=true/\z.cells.toList.length=sz then do
   let g <-aNew H e (zerosL z.cells.toList c.toNat) false
   some (.slice (some ⟨H.next,0,some 0⟩) l.toNat c.toNat,g)
  else none
 |_,_=>none
def runesOfCells:List Value->Option (List UInt8)
 |[]=>some []
 |.int .i32 n::r=>(runesOfCells r).map ((Utf8.encode n).data.toList++·)
 |_=>none
def aConvert (P:Program) (H:AHeap) (src dst:TypeId) (x:Value):Option (Value × AHeap) :=
 match P.underlying src,P.underlying dst,x with
 |some _,some (.int k),.int _ n=>some (.int k (k.wrap n),H)
 |some _,some .string,.string s=>some (.string s,H)
 |some _,some .string,.int _ n=>some (.string (Utf8.encode n),H)
 |some _,some (.slice e),.string s=>(match P.underlying e with
  |some (.int .u8)=>do
   let 1 <-szOf P e|none
   if Nat.ble s.size 1000000000 then do
    let g <-aNew H e (bytesV s.data.toList) true
    some (.slice (some ⟨H.next,0,none⟩) s.size s.size,g)
   else none
  |some (.int .i32)=>do
   let 1 <-szOf P e|none
   if Nat.ble (Conv.runesFrom s s.size 0 #[]).toList.length 1000000000 then do
    let g <-aNew H e (Conv.runesFrom s s.size 0 #[]).toList true
    some (.slice (some ⟨H.next,0,none⟩) (Conv.runesFrom s s.size 0 #[]).toList.length (Conv.runesFrom s s.size 0 #[]).toList.length,g)
   else none
  |_=>none)
 |some (.slice e),some .string,.slice a len _=>do
  let cs <-firstC H 1 len (.slice a len len)
  match P.underlying e with
  |some (.int .u8)=>(bytesOfCells cs).map fun l=>(.string ⟨l.toArray⟩,H)
  |some (.int .i32)=>(runesOfCells cs).map fun l=>(.string ⟨l.toArray⟩,H)
  |_=>none
 |some (.slice _),some (.slice e),.slice (some a) len cap=>do
  let .int .u8 <-P.underlying e|none
  match H.get a.block with
  |some ⟨.cells z ty q,false,c⟩ =>
   if Nat.beq src dst&&Nat.beq (a.spot.getD 0) 0 then some (.slice (some a) len cap,H.upd a.block (some ⟨.cells z ty q,true,c⟩)) else none
  |_=>none
 |some (.pointer _),some .unsafePointer,.pointer none=>some (.pointer none,H)
 |some (.pointer t),some .unsafePointer,.pointer (some ⟨n,off,none⟩)=>do
  let sz <-szOf P t
  let (c,_,_) <-cellsR H n
  if Nat.blt 0 sz&&Nat.blt off c.n then some (.pointer (some ⟨n,off,none⟩),H) else none
 |some .unsafePointer,some (.pointer _),.pointer none=>some (.pointer none,H)
 |some .unsafePointer,some (.pointer u),.pointer (some ⟨n,0,none⟩)=>do
  let sz <-szOf P u
  match H.get n with
  |some ⟨.cells _ e _,false,c⟩=>if Nat.beq e u&&Nat.beq c.n sz&&Nat.blt 0 sz then some (.pointer (some ⟨n,0,none⟩),H) else none
  |_=>none
 |_,_,_=>none
def aRange (P:Program) (H:AHeap) (t:TypeId) (x:Value):Option (Value × AHeap) :=
 match P.underlying t,x with
 |some .string,.string s=>some (.pointer (some ⟨H.next,0,none⟩),H.new ⟨.stringIter s 0,false,⟨[],0⟩⟩)
 |_,_=>none
def aNext (H:AHeap) (it:Value) (isString:Bool):Option (Value × AHeap) :=
 match it,isString with
 |.pointer (some ⟨r,0,none⟩),true=>(match H.get r with
  |some ⟨.stringIter s pos,_,_⟩ =>
   if pos<s.size then
    some (.tuple #[.bool true,goInt pos,.int .i32 (Utf8.decode s pos).1],H.upd r (some ⟨.stringIter s (pos+(Utf8.decode s pos).2),false,⟨[],0⟩⟩))
   else some (.tuple #[.bool false],H)
  |_=>none)
 |_,_=>none
def pairs (P:Program) (a:AAct):List (Nat × Operand)->Option (List (Nat × Value))
 |[]=>some []
 |(i,x)::r=>do
  let v <-aeval P a x
  let vs <-pairs P a r
  some ((i,v)::vs)
def optEval (P:Program) (a:AAct):Option Operand->Option (Option Value)
 |none=>some none
 |some x=>(aeval P a x).map some
def nilPanic (P:Program):Value:=.iface P.rt.errorString (strVal "invalid memory address or nil pointer dereference")
def xMove (x:Operand) (P:Program) (a:AAct) (H:AHeap):ARes:=rv H (aeval P a x)
def xPick (c x y:Operand) (P:Program) (a:AAct) (H:AHeap):ARes:=do
 match <-aeval P a c with
 |.bool true=>rv H (aeval P a x)
 |.bool false=>rv H (aeval P a y)
 |_=>none
def xBox (t:TypeId) (v:Value) (H:AHeap):ARes:=do
 let g <-aNew H t v.cells.toList false
 some (.value (.pointer (some ⟨H.next,0,none⟩)),g)
def xAlloc (t:TypeId) (P:Program) (_:AAct) (H:AHeap):ARes:=do xBox t (<-zeroOf P t) H
def xBoxOp (t:TypeId) (x:Operand) (P:Program) (a:AAct) (H:AHeap):ARes:=do xBox t (<-aeval P a x) H
def xBuild (t:TypeId) (ps:Array (Nat × Operand)) (P:Program) (a:AAct) (H:AHeap):ARes:=do rv H (aBuild P t (<-pairs P a ps.toList))
def xBuildSlice (t:TypeId) (n:Nat) (ps:Array (Nat × Operand)) (P:Program) (a:AAct) (H:AHeap):ARes:=do rvh (aBuildSlice P H t n (<-pairs P a ps.toList))
def xLoad (t:TypeId) (x:Operand) (P:Program) (a:AAct) (H:AHeap):ARes:=do rv H (aLoad P H t (<-aeval P a x))
def xStore (t:TypeId) (x y:Operand) (P:Program) (a:AAct) (H:AHeap):ARes:=do ruh (aStore P H t (<-aeval P a x) (<-aeval P a y))
def nilV (P:Program) (H:AHeap) (v:Value):ARes :=
 match v with
 |.pointer none=>some (.panic (nilPanic P),H)
 |.nilIface=>some (.panic (nilPanic P),H)
 |.nilFunc=>some (.panic (nilPanic P),H)
 |.func (.method _) _ _=>none
 |.chan _=>none
 |y=>some (.value y,H)
def xNil (x:Operand) (P:Program) (a:AAct) (H:AHeap):ARes:=do nilV P H (<-aeval P a x)
def aBin (P:Program) (H:AHeap) (op:BinOp) (t:TypeId) (x y:Value):Option Value :=
 match x,y with
 |.int k a,.int k' b=>if k=k' then intBin op k a b else none
 |.bool a,.bool b=>(match P.underlying t with
  |some .bool=>eqOp op (a == b)
  |_=>none)
 |x,y=>aBinAddr P H op t x y
def aPlain (P:Program) (s:Sem Value):Option ANext :=
 match peval P s with
 |some v=>if af v then some (.value v) else none
 |none=>(match ppanic P s with
  |some v=>if af v then some (.panic v) else none
  |none=>none)
def binV (P:Program) (H:AHeap) (op:BinOp) (t:TypeId) (x y:Operand) (p q:Value):ARes :=
 match aBin P H op t p q with
 |some v=>some (.value v,H)
 |none=>if af p&&af q then (aPlain P (do eqGuard op t x y p q; binOp op t p q)).map fun r=>(r,H) else none
def xBin (op:BinOp) (t:TypeId) (x y:Operand) (P:Program) (a:AAct) (H:AHeap):ARes:=do
 let p <-aeval P a x
 let q <-aeval P a y
 binV P H op t x y p q
def unV (P:Program) (H:AHeap) (op:UnOp) (v:Value):ARes :=
 match op,v with
 |.not,.bool b=>some (.value (.bool !b),H)
 |.neg,.int k n=>some (.value (.int k (k.wrap (0-n))),H)
 |op,v=>if af v then (aPlain P (Op.unary op v)).map fun r=>(r,H) else none
def xUn (op:UnOp) (x:Operand) (P:Program) (a:AAct) (H:AHeap):ARes:=do unV P H op (<-aeval P a x)
def xConvert (s d:TypeId) (x:Operand) (P:Program) (a:AAct) (H:AHeap):ARes:=do rvh (aConvert P H s d (<-aeval P a x))
def ifaceV (P:Program) (H:AHeap) (t:TypeId) (v:Value):ARes :=
 match P.underlying t with
 |some (.interface _)=>none
 |some _=>some (.value (.iface t v),H)
 |none=>none
def xIface (t:TypeId) (x:Operand) (P:Program) (a:AAct) (H:AHeap):ARes:=do ifaceV P H t (<-aeval P a x)
def funcV (H:AHeap) (fn:Fn) (p q:List Value):ARes :=
 match fn with
 |.yield _=>none
 |fn=>some (.value (.func fn ⟨p⟩ ⟨q⟩),H)
def xFunc (fn:Fn) (first captured:Array Operand) (P:Program) (a:AAct) (H:AHeap):ARes:=do funcV H fn (<-aevals P a first.toList) (<-aevals P a captured.toList)
def mapNew (H:AHeap):ARes:=some (.value (.map (some H.next)),H.new ⟨.map #[] 0,false,⟨[],0⟩⟩)
def xMakeMap (t:TypeId) (r:Option Operand) (P:Program) (a:AAct) (H:AHeap):ARes :=
 match r with
 |none=>mapNew H
 |some x=>do
  let .map _ _ <-P.underlying t|none
  let .int .i64 _ <-aeval P a x|none
  mapNew H
def xMakeSlice (t:TypeId) (l c:Operand) (P:Program) (a:AAct) (H:AHeap):ARes:=do rvh (aMakeSlice P H t (<-aeval P a l) (<-aeval P a c))
def xSlice (t:TypeId) (x:Operand) (lo hi mx:Option Operand) (P:Program) (a:AAct) (H:AHeap):ARes:=do
 rvh (aSlice P H t (<-aeval P a x) (<-optEval P a lo) (<-optEval P a hi) (<-optEval P a mx))
def xFieldAddr (t:TypeId) (x:Operand) (f:Nat) (P:Program) (a:AAct) (H:AHeap):ARes:=do rv H (aFieldAddr P t (<-aeval P a x) f)
def xField (t:TypeId) (x:Operand) (f:Nat) (P:Program) (a:AAct) (H:AHeap):ARes:=do rv H (aField P t (<-aeval P a x) f)
def xIndexAddr (t:TypeId) (x i:Operand) (P:Program) (a:AAct) (H:AHeap):ARes:=do rv H (aIndexAddr P t (<-aeval P a x) (<-aeval P a i))
def indexV (P:Program) (H:AHeap) (t:TypeId) (p q:Value):ARes :=
 match aIndex P t p q with
 |some v=>some (.value v,H)
 |none=>if af p&&af q then (aPlain P (Instr.index t p q)).map fun r=>(r,H) else none
def xIndex (t:TypeId) (x i:Operand) (P:Program) (a:AAct) (H:AHeap):ARes:=do indexV P H t (<-aeval P a x) (<-aeval P a i)
def xLookup (t:TypeId) (x k:Operand) (ok:Bool) (P:Program) (a:AAct) (H:AHeap):ARes:=do rv H (aLookup P H t (<-aeval P a x) (<-aeval P a k) ok)
def xMapUpdate (t:TypeId) (m k x:Operand) (P:Program) (a:AAct) (H:AHeap):ARes:=do ruh (aMapUpdate P H t (<-aeval P a m) (<-aeval P a k) (<-aeval P a x))
def xRange (t:TypeId) (x:Operand) (P:Program) (a:AAct) (H:AHeap):ARes:=do rvh (aRange P H t (<-aeval P a x))
def xNext (it:Operand) (s:Bool) (P:Program) (a:AAct) (H:AHeap):ARes:=do rvh (aNext H (<-aeval P a it) s)
def xTypeAssert (x:Operand) (asserted:TypeId) (ok:Bool) (P:Program) (a:AAct) (H:AHeap):ARes:=do rv H (aTypeAssert P (<-aeval P a x) asserted ok)
def extractV (H:AHeap) (i:Nat) (v:Value):ARes :=
 match v with
 |.tuple vs=>rv H (vs.toList[i]?)
 |_=>none
def xExtract (x:Operand) (i:Nat) (P:Program) (a:AAct) (H:AHeap):ARes:=do extractV H i (<-aeval P a x)
def callV (P:Program) (H:AHeap) (f:Value) (args:List Value):ARes :=
 match f with
 |.func fn first captured=>(aInvoke P H fn (first.toList++args) captured.toList).map fun r=>(r,H)
 |_=>none
def isExt (P:Program) (g:FuncId) (name:String):Bool :=
 match P.funcs[g]? with
 |some fn=>fn.body.isNone&&fn.name == name&&fn.origin == ""
 |none=>false
def externW (P:Program) (H:AHeap) (g:FuncId) (args:List Value):ARes :=
 match args with
 |[.pointer (some a)]=>if isExt P g "internal/abi.NoEscape" then some (.value (.pointer (some a)),H) else none
 |[.int .i64 n]=>if isExt P g "internal/bytealg.MakeNoZero" && decide (0<=n)&&decide (n<1000000000) then
   (match P.funcs[g]? with
   |some fn=>(match fn.resultTypes.toList with
    |[t]=>(match P.underlying t with
     |some (.slice e)=>(match szOf P e with
      |some 1=>some (.value (.slice (some ⟨H.next,0,none⟩) n.toNat 0),H.new ⟨.cells #[] e (0,0),true,⟨[],0⟩⟩)
      |_=>none)
     |_=>none)
    |_=>none)
   |none=>none)
  else none
 |_=>none
def externV (P:Program) (H:AHeap) (f:Value) (args:List Value):ARes :=
 match f with
 |.func (.func g) ⟨[]⟩ ⟨[]⟩ =>
  if afL args then
   match peval P (callFunc g ⟨args⟩) with
   |some (.value v)=>if af v then some (.value v,H) else none
   |_=>externW P H g args
  else externW P H g args
 |_=>none
def xCall (c:Call) (P:Program) (a:AAct) (H:AHeap):ARes:=do
 let args <-aevals P a c.args.toList
 match c.callee with
 |.builtin b=>rvh (aBuiltin P H b c.argTypes args)
 |.invoke recv name=>do
  let r <-aeval P a recv
  (aInvoke P H (.method name) (r::args) []).map fun r=>(r,H)
 |.value f=>do
  let f <-aeval P a f
  match callV P H f args with
  |some r=>some r
  |none=>externV P H f args
def panicV (H:AHeap) (v:Value):ARes :=
 match v with
 |.iface t y=>some (.panic (.iface t y),H)
 |_=>none
def xPanic (x:Operand) (P:Program) (a:AAct) (H:AHeap):ARes:=do panicV H (<-aeval P a x)
def xNone (_:Program) (_:AAct) (_:AHeap):ARes:=none
def aop (op:Op):Program->AAct->AHeap->ARes :=
 match op with
 |.move x=>xMove x
 |.assign x=>xMove x
 |.pick c x y=>xPick c x y
 |.alloc t=>xAlloc t
 |.box t x=>xBoxOp t x
 |.build t ps=>xBuild t ps
 |.buildSlice t n ps=>xBuildSlice t n ps
 |.load t x=>xLoad t x
 |.store t x y=>xStore t x y
 |.nilCheck x=>xNil x
 |.binOp op t x y _=>xBin op t x y
 |.unOp op _ x=>xUn op x
 |.makeInterface t x=>xIface t x
 |.makeFunc fn first captured=>xFunc fn first captured
 |.makeSlice t l c=>xMakeSlice t l c
 |.slice t x lo hi mx=>xSlice t x lo hi mx
 |.fieldAddr t x f=>xFieldAddr t x f
 |.field t x f=>xField t x f
 |.indexAddr t x i=>xIndexAddr t x i
 |.index t x i=>xIndex t x i
 |.typeAssert x _ asserted ok=>xTypeAssert x asserted ok
 |.extract x i=>xExtract x i
 |.call c=>xCall c
 |.panic x=>xPanic x
 |.convert s d x=>xConvert s d x
 |.makeMap t r=>xMakeMap t r
 |.lookup t x k ok=>xLookup t x k ok
 |.mapUpdate t m k x=>xMapUpdate t m k x
 |.insert t m k x=>xMapUpdate t m k x
 |.range t x=>xRange t x
 |.next it s=>xNext it s
 |_=>xNone
structure Rec where
 run:Option Nat->Code->AAct->AHeap->Option (Exit × AAct × AHeap)
 know:FuncId->List Value->AHeap->Option (Value × AHeap)
def resVal (P:Program) (H:AHeap) (a:AAct):List ResultVar->Option (List Value)
 |[]=>some []
 |.tmp t::r=>do
  let vs <-resVal P H a r
  some (a.tmp t::vs)
 |.cell x t::r=>do
  let v <-aLoad P H t (a.tmp x)
  let vs <-resVal P H a r
  some (v::vs)
def tup:List Value->Value
 |[v]=>v
 |vs=>.tuple ⟨vs⟩
abbrev Out:=Except (List PanicEntry) Value
def recoverU:FrameMode->Value × FrameMode
 |.panicking ({v,recovered:=false,goexit:=false}::older)=>(v,.panicking ({v,recovered:=true}::older))
 |u=>(.nilIface,u)
def isRec (o:Op):Bool :=
 match o with
 |.call ⟨.builtin .recover,⟨[]⟩,_⟩=>true
 |_=>false
def wantA (ops:Array Oper) (a:AAct) (o:Oper):Option Bool :=
 match o.guard with
 |none=>some true
 |some (j,want)=>(match ops[j]? with
  |some oj=>(match oj.dst with
   |some d=>(match a.tmp d with
    |.bool b=>some (b == want)
    |_=>some false)
   |none=>some false)
  |none=>some false)
def runOpsS (P:Program) (ops:Array Oper):List Oper->AAct->FrameMode->AHeap->Option (Exit × AAct × FrameMode × AHeap)
 |[],a,u,H=>some (.normal,a,u,H)
 |o::rest,a,u,H =>
  match wantA ops a o with
  |some true =>
   (match isRec o.op with
   |true=>runOpsS P ops rest (a.put o.dst (recoverU u).1) (recoverU u).2 H
   |false=>(match aop o.op P a H with
    |some (.value v,g)=>runOpsS P ops rest (a.put o.dst v) u g
    |some (.skip,g)=>runOpsS P ops rest (a.put o.dst undef) u g
    |some (.panic v,g)=>some (.panic [{v,recovered:=false}],a,u,g)
    |_=>none))
  |some false=>runOpsS P ops rest (a.put o.dst undef) u H
  |none=>none
def runS (P:Program) (rec:Rec):Code->AAct->FrameMode->AHeap->Option (Exit × AAct × FrameMode × AHeap)
 |.seq x y,a,u,H =>
  match runS P rec x a u H with
  |some (.normal,a1,u1,H1)=>runS P rec y a1 u1 H1
  |r=>r
 |.cond c x y,a,u,H =>
  match aeval P a c with
  |some (.bool true)=>runS P rec x a u H
  |some (.bool false)=>runS P rec y a u H
  |_=>none
 |.region id ops false,a,u,H =>
  match ops.toList.any fun o=>isRec o.op with
  |true=>runOpsS P ops ops.toList a u H
  |false=>(rec.run none (.region id ops false) a H).map fun r=>(r.1,r.2.1,u,r.2.2)
 |c,a,u,H=>(rec.run none c a H).map fun r=>(r.1,r.2.1,u,r.2.2)
def endD (P:Program) (fn:Func) (r:Exit × AAct × FrameMode × AHeap):Option (Out × FrameMode × AHeap) :=
 match r with
 |(.normal,⟨e,[]⟩,u,H)=>(resVal P H ⟨e,[]⟩ fn.results.toList).map fun vs=>(.ok (tup vs),u,H)
 |(.ret,⟨e,[]⟩,u,H)=>(resVal P H ⟨e,[]⟩ fn.results.toList).map fun vs=>(.ok (tup vs),u,H)
 |(.panic ch,⟨_,[]⟩,u,H)=>some (.error ch,u,H)
 |_=>none
def enterD (P:Program) (rec:Rec) (f:FuncId) (args:List Value) (u:FrameMode) (H:AHeap):Option (Out × FrameMode × AHeap):=do
 let fn <-P.funcs[f]?
 let c <-fn.body
 if Nat.ble args.length fn.ntmps then do
  let r <-runS P rec c ⟨{RV.ofList args with n:=fn.ntmps},[]⟩ u H
  endD P fn r
 else none
def leaveF (P:Program) (rec:Rec) (fn:Func) (a1:AAct):List Deferred->FrameMode->AHeap->Option (Out × AHeap)
 |[],u,H=>(match u with
  |.returning=>(resVal P H a1 fn.results.toList).map fun vs=>(.ok (tup vs),H)
  |.panicking ch=>some (.error ch,H)
  |.run=>none)
 |d::ds,u,H=>(match u with
  |.run=>none
  |u=>(match d with
   |⟨.collected r,_⟩=>(match H.get r with
    |some ⟨.deferred (some []),_,_⟩=>leaveF P rec fn a1 ds u (H.upd r (some ⟨.deferred none,false,⟨[],0⟩⟩))
    |_=>none)
   |⟨.fn (.func f) cap,as0⟩ =>
    if hasBody P f then
     match enterD P rec f (as0.toList++cap.toList) u H with
     |some (.ok _,u1,H1)=>leaveF P rec fn a1 ds (settle u1) H1
     |some (.error ch,u1,H1)=>leaveF P rec fn a1 ds (raised u1 ch) H1
     |none=>none
    else none
   |_=>none))
def endF (P:Program) (rec:Rec) (fn:Func) (r:Exit × AAct × AHeap):Option (Out × AHeap) :=
 match r with
 |(.normal,a1,H1)=>leaveF P rec fn a1 a1.defers .returning H1
 |(.ret,a1,H1)=>leaveF P rec fn a1 a1.defers .returning H1
 |(.panic ch,a1,H1)=>leaveF P rec fn a1 a1.defers (.panicking ch) H1
 |_=>none
def enterF (P:Program) (rec:Rec) (f:FuncId) (args:List Value) (H:AHeap):Option (Out × AHeap):=do
 let fn <-P.funcs[f]?
 let c <-fn.body
 if Nat.ble args.length fn.ntmps then do
  let r <-rec.run none c ⟨{RV.ofList args with n:=fn.ntmps},[]⟩ H
  endF P rec fn r
 else none
def callF (P:Program) (rec:Rec) (f:FuncId) (args:List Value) (H:AHeap):Option (Out × AHeap) :=
 match rec.know f args H with
 |some (v,g)=>some (.ok v,g)
 |none=>enterF P rec f args H
def setLoop (H:AHeap) (l:Nat) (r:Loop) (e:RV):AHeap:=H.upd l (some ⟨.loop r,false,e⟩)
def getLoop (H:AHeap) (l:Nat):Option (Loop × RV) :=
 match H.get l with
 |some ⟨.loop r,_,e⟩=>some (r,e)
 |_=>none
def jumpOf:Exit->Option (Option Code)
 |.normal=>some none
 |.ret=>some (some .ret)
 |.exit id=>some (some (.exit id))
 |.goto t=>some (some (.goto t))
 |_=>none
def roundF (rec:Rec) (r:Round) (H:AHeap):Option (Out × AHeap):=do
 let (e,a1,H1) <-rec.run (some r.l) r.assign ⟨r.env,[]⟩ H
 match e with
 |.normal=>do
  let (lp,le) <-getLoop H1 r.l
  match lp.state with
  |.ready=>do
   let (e2,_,H2) <-rec.run (some r.l) r.body a1 (setLoop H1 r.l {lp with state:=.busy} le)
   let j <-jumpOf e2
   let (lp2,le2) <-getLoop H2 r.l
   some (.ok (.bool j.isNone),setLoop H2 r.l {lp2 with state:=if j.isNone then .ready else .done,pending:=j} le2)
  |_=>none
 |_=>none
def doN (P:Program) (rec:Rec) (x:ANext × AHeap):Option (Out × AHeap) :=
 match x with
 |(.value v,g)=>some (.ok v,g)
 |(.skip,g)=>some (.ok undef,g)
 |(.enter f args,g)=>callF P rec f args g
 |(.round r,g)=>roundF rec r g
 |(.panic v,g)=>some (.error [{v,recovered:=false}],g)
def opF (P:Program) (rec:Rec) (a:AAct) (H:AHeap) (o:Oper):Option (Out × AHeap):=(aop o.op P a H).bind (doN P rec)
def deferV (f:Value) (args:List Value):Option Deferred :=
 match f with
 |.func (.func g) first captured=>some ⟨.fn (.func g) captured,⟨first.toList++args⟩⟩
 |_=>none
def aDefer (P:Program) (a:AAct) (o:Op):Option Deferred :=
 match o with
 |.defer c=>(match c.callee with
  |.value f=>do
   let args <-aevals P a c.args.toList
   let f <-aeval P a f
   deferV f args
  |_=>none)
 |_=>none
def runSeq (P:Program) (rec:Rec) (top:Bool) (ops:Array Oper):List Oper->AAct->AHeap->Option (Exit × AAct × AHeap)
 |[],a,H=>some (.normal,a,H)
 |o::rest,a,H =>
  match wantA ops a o with
  |some true =>
   (match opF P rec a H o with
   |some (.ok v,g)=>runSeq P rec top ops rest (a.put o.dst v) g
   |some (.error ch,g)=>some (.panic ch,a,g)
   |none=>(match top,aDefer P a o.op with
    |true,some d=>runSeq P rec top ops rest (AAct.put ⟨a.env,d::a.defers⟩ o.dst undef) H
    |_,_=>none))
  |some false=>runSeq P rec top ops rest (a.put o.dst undef) H
  |none=>none
mutual
def idsV:Value->List Nat
 |.pointer (some a)=>[a.block]
 |.slice (some a) _ _=>[a.block]
 |.map (some r)=>[r]
 |.chan (some k)=>[k]
 |.func (.yield l) a b=>l::(idsA a++idsA b)
 |.func _ a b=>idsA a++idsA b
 |.iface _ v=>idsV v
 |.agg cs=>idsA cs
 |.tuple cs=>idsA cs
 |_=>[]
def idsA:Array Value->List Nat
 |⟨l⟩=>idsL l
def idsL:List Value->List Nat
 |[]=>[]
 |v::r=>idsV v++idsL r
end
def idsO (o:AObj):List Nat :=
 match o.obj with
 |.cells _ _ _=>idsL (o.rv.gets 0 o.rv.n)
 |.map es _=>es.toList.flatMap fun e=>idsV e.key++idsV e.val
 |.loop r=>r.defers::idsL (o.rv.gets 0 o.rv.n)
 |_=>[]
def reach (H:AHeap):Nat->List Nat->Nat->List Nat->List Nat
 |0,_,_,acc=>acc
 |_+1,[],_,acc=>acc
 |f+1,n::r,seen,acc =>
  if seen.testBit n then reach H f r seen acc else
  match H.get n with
  |some o=>reach H f (idsO o++r) (seen ||| 1 <<< n) (n::acc)
  |none=>reach H f r (seen ||| 1 <<< n) acc
def memN (n:Nat):List Nat->Bool
 |[]=>false
 |m::r=>Nat.beq m n||memN n r
def dedup (H:AHeap):List Nat->List Nat->List Nat
 |[],acc=>acc
 |n::r,acc=>if memN n acc then dedup H r acc else
  match H.get n with
  |some _=>dedup H r (n::acc)
  |none=>dedup H r acc
def direct (P:Program) (a:AAct) (H:AHeap) (xs:List Operand):List Nat :=
 match aevals P a xs with
 |some vs=>dedup H (idsL vs) []
 |none=>[]
def globsAt (H:AHeap):Nat->List Nat
 |0=>[]
 |n+1=>match H.get n with
  |some _=>n::globsAt H n
  |none=>globsAt H n
def whole (P:Program) (a:AAct) (H:AHeap) (xs:List Operand):List Nat :=
 match aevals P a xs with
 |some vs=>globsAt H P.globals.size++reach H 1000000 (idsL vs) 0 []
 |none=>[]
def footC (P:Program) (c:Call):AAct->AHeap->List Nat :=
 match c.callee with
 |.builtin _=>fun a H=>direct P a H c.args.toList
 |_=>fun a H=>whole P a H c.operands.toList
def foot (P:Program) (op:Op):AAct->AHeap->List Nat :=
 match op with
 |.load _ x=>fun a H=>direct P a H [x]
 |.store _ x _=>fun a H=>direct P a H [x]
 |.slice _ x _ _ _=>fun a H=>direct P a H [x]
 |.lookup _ x _ _=>fun a H=>direct P a H [x]
 |.mapUpdate _ x _ _=>fun a H=>direct P a H [x]
 |.insert _ x _ _=>fun a H=>direct P a H [x]
 |.next x _=>fun a H=>direct P a H [x]
 |.convert _ _ x=>fun a H=>direct P a H [x]
 |.binOp _ _ x y _=>fun a H=>direct P a H [x,y]
 |.call c=>footC P c
 |_=>fun _ _=>[]
def AHeap.none (next:Nat):AHeap:=⟨[],next,next,[]⟩
def AHeap.lay (g H:AHeap):List Nat->AHeap
 |[]=>g
 |n::r=>AHeap.lay (g.put n (H.get n)) H r
def AHeap.restrict (H:AHeap) (F:List Nat):AHeap:=AHeap.lay (AHeap.none H.next) H F
def AHeap.mergeW (H g:AHeap):List Nat->AHeap
 |[]=>H
 |n::r=>AHeap.mergeW (H.upd n (g.get n)) g r
def AHeap.mergeN (H g:AHeap) (n:Nat):Nat->AHeap
 |0=>H
 |k+1=>AHeap.mergeN (H.put n (g.get n)) g (n+1) k
def AHeap.merge (H g:AHeap):AHeap :=
 let h:=AHeap.mergeN (AHeap.mergeW H g g.dirty) g H.next (g.next-H.next)
 ⟨h.root,g.next,h.base,h.dirty⟩
structure Fp where
 i:Nat
 F:List Nat
 W:List Nat
 lo:Nat
 hi:Nat
def disj (a b:List Nat):Bool:=a.all fun n=>!memN n b
def edgeBits (acc:List Nat):List Edge->Nat->Nat
 |[],s=>s
 |e::r,s=>edgeBits acc r (if Region.binds .any e then s ||| 1 <<< e.on ||| acc.getD e.on 0 else s)
def ancsFrom:List Oper->List Nat->List Nat
 |[],acc=>acc
 |o::r,acc=>ancsFrom r (acc++[edgeBits acc o.after.toList 0])
def ancs (ops:Array Oper):List Nat:=ancsFrom ops.toList []
def maskL:List Nat->Nat
 |[]=>0
 |t::r=>1 <<< t ||| maskL r
structure Mask where
 r:Nat
 w:Nat
def maskO (ops:Array Oper) (o:Oper):Mask:=⟨maskL (o.looksAt ops),maskL o.dst.toList⟩
def masks (ops:Array Oper):List Oper->List Mask
 |[]=>[]
 |o::r=>maskO ops o::masks ops r
def apartM (x y:Mask):Bool:=Nat.beq (x.w &&& (y.r ||| y.w)) 0&&Nat.beq (y.w &&& x.r) 0
def pairsOk (y:Mask) (anc:Nat):List Mask->Nat->Bool
 |[],_=>true
 |x::r,i=>(anc.testBit i||apartM x y)&&pairsOk y anc r (i+1)
def edgesOk (j:Nat):List Edge->Bool
 |[]=>true
 |e::r=>(!Region.binds .any e||Nat.blt e.on j)&&edgesOk j r
def staticFrom (ms:List Mask) (anc:List Nat):List Oper->Nat->Bool
 |[],_=>true
 |oj::r,j=>pairsOk (ms.getD j ⟨0,0⟩) (anc.getD j 0) (ms.take j) 0&&edgesOk j oj.after.toList&&staticFrom ms anc r (j+1)
def staticOk (ops:Array Oper):Bool:=staticFrom (masks ops ops.toList) (ancs ops) ops.toList 0
def rangeFrom (n:Nat):Nat->List Nat
 |0=>[]
 |k+1=>n::rangeFrom (n+1) k
def idsAt (g:AHeap) (n:Nat):List Nat :=
 match g.get n with
 |some o=>idsO o
 |none=>[]
def outIds (v:Value) (g:AHeap) (next:Nat):List Nat:=idsV v++(g.dirty++rangeFrom next (g.next-next)).flatMap (idsAt g)
def avoids (lo hi:Nat) (l:List Nat):Bool:=l.all fun n=>Nat.blt n lo||Nat.ble hi n
def fpOk (anc:Nat) (F:List Nat) (v:Value) (g:AHeap) (next:Nat) (r:Fp):Bool :=
 anc.testBit r.i||(disj r.W F&&disj r.F g.dirty&&(Nat.ble r.hi r.lo||(avoids r.lo r.hi F&&avoids r.lo r.hi (outIds v g next))))
def runDraw (P:Program) (rec:Rec) (ops:Array Oper) (anc:List Nat):List Oper->Nat->List Fp->AAct->AHeap->Option (AAct × AHeap)
 |[],_,_,a,H=>some (a,H)
 |o::rest,i,fps,a,H =>
  match wantA ops a o with
  |some true =>
   (match opF P rec a (H.restrict (foot P o.op a H)) o with
   |some (.ok v,g) =>
    if (foot P o.op a H).all (fun n=>(H.get n).isSome)&&g.dirty.all (fun n=>memN n (foot P o.op a H)) &&
      fps.all (fpOk (anc.getD i 0) (foot P o.op a H) v g H.next) then
     runDraw P rec ops anc rest (i+1) (⟨i,foot P o.op a H,g.dirty,H.next,g.next⟩::fps) (a.put o.dst v) (H.merge g)
    else none
   |_=>none)
  |some false=>runDraw P rec ops anc rest (i+1) fps (a.put o.dst undef) H
  |none=>none
def newLoop (a:AAct) (params:Array Tmp) (assign body:Code) (d:Nat):AObj :=
 ⟨.loop {state:=.ready,pending:=none,fn:=0,tmps:=#[],params,assign,body,defers:=d},false,a.env⟩
def enterLoop (ro:Option Nat) (a:AAct) (params:Array Tmp) (assign body:Code) (H:AHeap):Option (Nat × List Deferred × AHeap) :=
 match ro with
 |none=>some (H.next+1,[{target:=.collected H.next,args:=#[]}],(H.new ⟨.deferred (some []),false,⟨[],0⟩⟩).new (newLoop a params assign body H.next))
 |some l0=>do
  let (r,_) <-getLoop H l0
  if Nat.blt r.defers H.next then some (H.next,[],H.new (newLoop a params assign body r.defers)) else none
def afterRange (rec:Rec) (ro:Option Nat) (a1:AAct) (l:Nat) (r:Out × AHeap):Option (Exit × AAct × AHeap) :=
 match r with
 |(.ok _,H2)=>do
  let (lp,le) <-getLoop H2 l
  match lp.state with
  |.busy=>none
  |_ =>
   match lp.pending with
   |none=>some (.normal,a1,setLoop H2 l {lp with state:=.exhausted} le)
   |some c=>rec.run ro c a1 (setLoop H2 l {lp with state:=.exhausted} le)
 |(.error ch,H2)=>some (.panic ch,a1,H2)
def rangeG (P:Program) (rec:Rec) (ro:Option Nat) (f:Value) (params:Array Tmp) (assign body:Code) (a:AAct) (H:AHeap):Option (Exit × AAct × AHeap) :=
 match f with
 |.func fn first captured=>do
  let (l,mark,H1) <-enterLoop ro a params assign body H
  let res <-aInvoke P H1 fn (first.toList++[.func (.yield l) #[] #[]]) captured.toList
  match res with
  |.enter g args=>do
   let r <-callF P rec g args H1
   afterRange rec ro {a with defers:=mark++a.defers} l r
  |_=>none
 |_=>none
abbrev StepF:=Program->Rec->Option Nat->AAct->AHeap->Option (Exit × AAct × AHeap)
def stEnd (e:Exit):StepF:=fun _ _ _ a H=>some (e,a,H)
def stSeq (x y:Code):StepF:=fun _ rec ro a H =>
 match rec.run ro x a H with
 |some (.normal,a1,H1)=>rec.run ro y a1 H1
 |r=>r
def stCond (c:Operand) (x y:Code):StepF:=fun P rec ro a H =>
 match aeval P a c with
 |some (.bool true)=>rec.run ro x a H
 |some (.bool false)=>rec.run ro y a H
 |_=>none
def stBlock (id:Nat) (b:Code):StepF:=fun _ rec ro a H =>
 match rec.run ro b a H with
 |some (.exit k,a1,H1)=>if k=id then some (.normal,a1,H1) else some (.exit k,a1,H1)
 |r=>r
def stScope (b:Code):StepF:=fun _ rec ro a H =>
 match rec.run ro b a H with
 |some (.goto _,_,_)=>none
 |r=>r
def stLoop (b:Code):StepF:=fun _ rec ro a H =>
 match rec.run ro b a H with
 |some (.normal,a1,H1)=>rec.run ro (.loop b) a1 H1
 |r=>r
def drawPanic (P:Program) (rec:Rec) (ops:Array Oper) (a:AAct) (H:AHeap):Option (Exit × AAct × AHeap) :=
 match ops.toList.getLast?,runDraw P rec ops (ancs ops) ops.toList.dropLast 0 [] a H with
 |some o,some (a1,H1) =>
  if (List.range (ops.size-1)).all (fun j=>((ancs ops).getD (ops.size-1) 0).testBit j) then
   (match wantA ops a1 o,opF P rec a1 H1 o with
   |some true,some (.error ch,H2)=>some (.panic ch,a1,H2)
   |_,_=>none)
  else none
 |_,_=>none
def stRegion (ops:Array Oper) (draw:Bool):StepF:=fun P rec ro a H =>
 match draw with
 |true =>
  if staticOk ops then
   (match runDraw P rec ops (ancs ops) ops.toList 0 [] a H with
   |some r=>some (.normal,r.1,r.2)
   |none=>drawPanic P rec ops a H)
  else none
 |false=>runSeq P rec ro.isNone ops ops.toList a H
def stRange (f:Operand) (params:Array Tmp) (assign body:Code):StepF:=fun P rec ro a H=>do
 rangeG P rec ro (<-aeval P a f) params assign body a H
def stNone:StepF:=fun _ _ _ _ _=>none
def step (c:Code):StepF :=
 match c with
 |.skip=>stEnd .normal
 |.label _=>stEnd .normal
 |.seq x y=>stSeq x y
 |.cond c x y=>stCond c x y
 |.block id b=>stBlock id b
 |.loop b=>stLoop b
 |.scope b=>stScope b
 |.exit id=>stEnd (.exit id)
 |.goto l=>stEnd (.goto l)
 |.ret=>stEnd .ret
 |.region _ ops draw=>stRegion ops draw
 |.rangeFunc f params assign body=>stRange f params assign body
 |_=>stNone
def execX (P:Program) (K:FuncId->List Value->AHeap->Option (Value × AHeap)):Nat->Rec
 |0=>⟨fun _ _ _ _=>none,K⟩
 |n+1=>⟨fun ro c a H=>step c P (execX P K n) ro a H,K⟩
def liftK (K:FuncId->List Value->AHeap->Option Value) (f:FuncId) (args:List Value) (H:AHeap):Option (Value × AHeap) :=
 match K f args H with
 |some v=>some (v,H)
 |none=>none
def exec (P:Program) (K:FuncId->List Value->AHeap->Option Value) (n:Nat):Rec:=execX P (liftK K) n
def call (P:Program) (K:FuncId->List Value->AHeap->Option Value) (fuel:Nat) (f:FuncId) (args:List Value) (H:AHeap):Option (Out × AHeap):=enterF P (exec P K fuel) f args H
def sameV:Value->Value->Bool
 |.int k a,.int l b=>decide (k=l)&&decide (a=b)
 |.bool a,.bool b=>a == b
 |_,_=>false
def sameL:List Value->List Value->Bool
 |[],[]=>true
 |a::r,b::q=>sameV a b&&sameL r q
 |_,_=>false
def sameW:Value->Value->Bool
 |.agg a,.agg b=>sameL a.toList b.toList
 |.tuple a,.tuple b=>sameL a.toList b.toList
 |a,b=>sameV a b
def sameM:List Value->List Value->Bool
 |[],[]=>true
 |a::r,b::q=>sameW a b&&sameM r q
 |_,_=>false
def lookK:List (FuncId × List Value × Value)->FuncId->List Value->AHeap->Option Value
 |[],_,_,_=>none
 |(g,as0,v)::r,f,args,H=>if Nat.beq g f&&sameM as0 args then some v else lookK r f args H
def ansB (P:Program) (K:FuncId->List Value->AHeap->Option Value) (fuel:Nat) (f:FuncId) (args:List Value) (v:Value):Bool :=
 match call P K fuel f args (AHeap.none P.globals.size) with
 |some (.ok u,_)=>sameW u v
 |_=>false
theorem lset_getD {α:Type} (d:α):∀ (l:List α) (i:Nat) (v:α) (j:Nat),(lset d l i v).getD j d=if j=i then v else l.getD j d
 |[],0,v,0=>rfl
 |[],0,v,j+1=>by simp[lset]
 |[],i+1,v,0=>by simp[lset]
 |[],i+1,v,j+1=>by
  have:=lset_getD d [] i v j
  simpa[lset]using this
 |x::r,0,v,0=>rfl
 |x::r,0,v,j+1=>by simp[lset]
 |x::r,i+1,v,0=>by simp[lset]
 |x::r,i+1,v,j+1=>by
  have:=lset_getD d r i v j
  simpa[lset]using this
theorem RV.get_set (v:RV) (i:Nat) (x:Value) (j:Nat):(v.set i x).get j=if j=i then x else v.get j:=by
 unfold RV.get RV.set
 simp only[lset_getD]
 by_cases h:j / 16=i / 16
 ·rw[if_pos h,lset_getD,h]
  by_cases h2:j % 16=i % 16
  ·have:j=i:=by omega
   simp[this]
  ·have:j≠i:=fun e=>h2 (by rw[e])
   simp[h2,this]
 ·have:j≠i:=fun e=>h (by rw[e])
  simp[h,this]
@[simp] theorem RV.n_set (v:RV) (i:Nat) (x:Value):(v.set i x).n=v.n:=rfl
theorem RV.n_sets (l:List Value):∀ (v:RV) (i:Nat),(v.sets i l).n=v.n:=by
 induction l with
 |nil=>intro v i; rfl
 |cons x r ih=>intro v i; simp[RV.sets,ih]
theorem RV.get_sets (l:List Value):∀ (v:RV) (i j:Nat),(v.sets i l).get j=if i<=j/\j<i+l.length then l.getD (j-i) undef else v.get j:=by
 induction l with
 |nil=>intro v i j; simp[RV.sets]; omega
 |cons x r ih =>
  intro v i j
  simp only[RV.sets,ih,RV.get_set,zB0]
  by_cases h1:i+1<=j/\j<i+1+r.length
  ·rw[if_pos h1,if_pos (by omega)]
   obtain⟨k,rfl⟩:∃ k,j=i+1+k:=⟨j-(i+1),by omega⟩
   have e1:i+1+k-(i+1)=k:=by omega
   have e2:i+1+k-i=k+1:=by omega
   rw[e1,e2]; simp
  ·rw[if_neg h1]
   by_cases h2:j=i
   ·subst h2; simp
   ·rw[if_neg h2,if_neg (by omega)]
theorem RV.get_ofList (l:List Value) (j:Nat):(RV.ofList l).get j=l.getD j undef:=by
 have h:(RV.ofList l).get j=(RV.sets ⟨[],0⟩ 0 l).get j:=rfl
 rw[h,RV.get_sets]
 by_cases hj:j<l.length
 ·rw[if_pos (by omega)]; simp
 ·rw[if_neg (by omega)]
  simp only[RV.get,List.getD_nil]
  simp[List.getD,zC6 (Nat.not_lt.1 hj)]
@[simp] theorem RV.n_ofList (l:List Value):(RV.ofList l).n=l.length:=rfl
theorem RV.gets_eq (v:RV):∀ (k i:Nat),v.gets i k=(List.range k).map fun j=>v.get (i+j)
 |0,i=>rfl
 |k+1,i=>by
  rw[RV.gets,RV.gets_eq v k (i+1),List.range_succ_eq_map]
  simp only[zB3,List.map_map,zD3,List.cons.injEq,true_and]
  apply zD8
  intro j _
  simp only[Function.comp]
  congr 1; omega
@[simp] theorem RV.length_gets (v:RV) (i k:Nat):(v.gets i k).length=k:=by simp[RV.gets_eq]
theorem RV.gets_getD (v:RV) (i k j:Nat) (h:j<k):(v.gets i k).getD j undef=v.get (i+j):=by
 simp[RV.gets_eq,List.getD,h]
theorem rootPut_get (root:List (List (List (Option AObj)))) (n:Nat) (o:Option AObj) (m:Nat) :
  (((rootPut root n o).getD (m / 256) []).getD (m / 16 % 16) []).getD (m % 16) none =
   if m=n then o else ((root.getD (m / 256) []).getD (m / 16 % 16) []).getD (m % 16) none:=by
 unfold rootPut
 rw[lset_getD]
 by_cases h:m / 256=n / 256
 ·rw[if_pos h,lset_getD,h]
  by_cases h2:m / 16 % 16=n / 16 % 16
  ·rw[if_pos h2,lset_getD,h2]
   by_cases h3:m % 16=n % 16
   ·have:m=n:=by omega
    simp[this]
   ·have:m≠n:=fun e=>h3 (by rw[e])
    simp[h3,this]
  ·have:m≠n:=fun e=>h2 (by rw[e])
   simp[h2,this]
 ·have:m≠n:=fun e=>h (by rw[e])
  simp[h,this]
theorem AHeap.get_put (h:AHeap) (n:Nat) (o:Option AObj) (m:Nat):(h.put n o).get m=if m=n then o else h.get m:=rootPut_get _ _ _ _
theorem AHeap.get_upd (h:AHeap) (n:Nat) (o:Option AObj) (m:Nat):(h.upd n o).get m=if m=n then o else h.get m:=rootPut_get _ _ _ _
theorem AHeap.get_new (h:AHeap) (o:AObj) (m:Nat):(h.new o).get m=if m=h.next then some o else h.get m:=rootPut_get _ _ _ _
theorem one_opq {v:Value} (h:opq v=true):one v=true:=by
 cases v<;>first|rfl|cases h
structure Ren where
 blk:Nat->Nat
 sh:Nat->Nat
 ex:Nat->Nat
 op:Nat->Value
 op1:∀ n,opq (op n)=true
def Ren.fn (ρ:Ren):Fn->Fn
 |.yield l=>.yield (ρ.blk l)
 |f=>f
def Ren.offS (ρ:Ren) (a:Addr) (len cap:Nat):Nat:=match a.spot with
 |some (k+1)=>if len=0/\cap=0/\ρ.ex a.block=0 then k else a.off
 |_=>a.off
def Ren.capS (ρ:Ren) (a:Addr) (len cap:Nat):Nat:=match a.spot with
 |none=>cap+ρ.ex a.block
 |some 0=>cap
 |some (_+1)=>if len=0/\cap=0 then ρ.ex a.block else cap
def spO:Value->Option Nat
 |.int _ j=>some j.toNat
 |_=>none
def Ren.spS (ρ:Ren) (a:Addr) (len cap:Nat):Option Nat:=match a.spot with
 |some (k+1)=>if k=0/\a.off=0/\len=0/\cap=0/\ρ.ex a.block=0 then spO (ρ.op a.block) else none
 |_=>none
@[simp] theorem Ren.spS_none (ρ:Ren) (b o len cap:Nat):ρ.spS ⟨b,o,none⟩ len cap=none:=rfl
@[simp] theorem Ren.spS_zero (ρ:Ren) (b o len cap:Nat):ρ.spS ⟨b,o,some 0⟩ len cap=none:=rfl
theorem Ren.spS_of {ρ:Ren} {a:Addr} {len cap:Nat} (h:a.spot.getD 0=0\/len≠0):ρ.spS a len cap=none:=by
 unfold Ren.spS
 split
 ·rename_i k hk
  rcases h with h|h
  ·rw[hk]at h; simp at h
  ·rw[if_neg (fun c=>h c.2.2.1)]
 ·rfl
theorem Ren.spS_cap {ρ:Ren} {a:Addr} {len cap:Nat} (h:cap≠0):ρ.spS a len cap=none:=by
 unfold Ren.spS
 split
 ·rw[if_neg (fun c=>h c.2.2.2.1)]
 ·rfl
theorem Ren.spS_off {ρ:Ren} {a:Addr} {len cap:Nat} (h:a.off≠0):ρ.spS a len cap=none:=by
 unfold Ren.spS
 split
 ·rw[if_neg (fun c=>h c.2.1)]
 ·rfl
theorem Ren.spS_ex {ρ:Ren} {a:Addr} {len cap:Nat} (h:ρ.ex a.block≠0):ρ.spS a len cap=none:=by
 unfold Ren.spS
 split
 ·rw[if_neg (fun c=>h c.2.2.2.2)]
 ·rfl
@[simp] theorem Ren.offS_none (ρ:Ren) (b o len cap:Nat):ρ.offS ⟨b,o,none⟩ len cap=o:=rfl
@[simp] theorem Ren.offS_zero (ρ:Ren) (b o len cap:Nat):ρ.offS ⟨b,o,some 0⟩ len cap=o:=rfl
@[simp] theorem Ren.capS_none (ρ:Ren) (b o len cap:Nat):ρ.capS ⟨b,o,none⟩ len cap=cap+ρ.ex b:=rfl
@[simp] theorem Ren.capS_zero (ρ:Ren) (b o len cap:Nat):ρ.capS ⟨b,o,some 0⟩ len cap=cap:=rfl
theorem Ren.offS_of {ρ:Ren} {a:Addr} {len cap:Nat} (h:a.spot.getD 0=0\/len≠0):ρ.offS a len cap=a.off:=by
 unfold Ren.offS
 split
 ·rename_i k hk
  rcases h with h|h
  ·rw[hk]at h; simp at h
  ·rw[if_neg (fun c=>h c.1)]
 ·rfl
theorem Ren.offS_cap {ρ:Ren} {a:Addr} {len cap:Nat} (h:cap≠0):ρ.offS a len cap=a.off:=by
 unfold Ren.offS
 split
 ·rw[if_neg (fun c=>h c.2.1)]
 ·rfl
theorem Ren.capS_cap {ρ:Ren} {a:Addr} {len len' cap:Nat} (h:cap≠0):ρ.capS a len cap=ρ.capS a len' cap:=by
 unfold Ren.capS
 split
 ·rfl
 ·rfl
 ·rw[if_neg (fun c=>h c.2),if_neg (fun c=>h c.2)]
theorem Ren.cap_le {ρ:Ren} {a:Addr} {len cap:Nat}:cap<=ρ.capS a len cap:=by
 unfold Ren.capS
 split
 ·omega
 ·omega
 ·split<;>omega
mutual
def Ren.val (ρ:Ren):Value->Value
 |.pointer (some a)=>.pointer (some ⟨ρ.blk a.block,a.off+ρ.sh a.block,a.spot⟩)
 |.slice (some a) len cap=>.slice (some ⟨ρ.blk a.block,ρ.offS a len cap+ρ.sh a.block,ρ.spS a len cap⟩) len (ρ.capS a len cap)
 |.map (some r)=>.map (some (ρ.blk r))
 |.func f a b=>.func (ρ.fn f) (ρ.valA a) (ρ.valA b)
 |.iface t v=>.iface t (ρ.val v)
 |.agg cs=>.agg (ρ.valA cs)
 |.tuple cs=>.tuple (ρ.valA cs)
 |.bool b=>.bool b
 |.int k n=>.int k n
 |.float k b=>.float k b
 |.complex k a b=>.complex k a b
 |.string s=>.string s
 |.pointer none=>.pointer none
 |.slice none len cap=>.slice none len cap
 |.map none=>.map none
 |.chan none=>.chan none
 |.chan (some k)=>ρ.op k
 |.nilFunc=>.nilFunc
 |.nilIface=>.nilIface
def Ren.valA (ρ:Ren):Array Value->Array Value
 |⟨l⟩=>⟨ρ.valL l⟩
def Ren.valL (ρ:Ren):List Value->List Value
 |[]=>[]
 |v::r=>ρ.val v::ρ.valL r
end
theorem Ren.valL_eq (ρ:Ren):∀ l,ρ.valL l=l.map ρ.val
 |[]=>rfl
 |v::r=>by rw[Ren.valL,Ren.valL_eq ρ r]; rfl
theorem Ren.valA_eq (ρ:Ren) (c:Array Value):ρ.valA c=c.map ρ.val:=by
 obtain⟨l⟩:=c
 rw[Ren.valA,Ren.valL_eq]
 simp
@[simp] theorem Ren.val_undef (ρ:Ren):ρ.val undef=undef:=by simp[undef,Ren.val,Ren.valA_eq]
mutual
theorem val_af (ρ:Ren):∀ v,af v=true->ρ.val v=v
 |.bool _,_=>by rw[Ren.val]
 |.int _ _,_=>by rw[Ren.val]
 |.float _ _,_=>by rw[Ren.val]
 |.complex _ _ _,_=>by rw[Ren.val]
 |.string _,_=>by rw[Ren.val]
 |.pointer none,_=>by rw[Ren.val]
 |.pointer (some _),h=>by simp[af]at h
 |.slice none _ _,_=>by rw[Ren.val]
 |.slice (some _) _ _,h=>by simp[af]at h
 |.map none,_=>by rw[Ren.val]
 |.map (some _),h=>by simp[af]at h
 |.chan none,_=>by rw[Ren.val]
 |.chan (some _),h=>by simp[af]at h
 |.func f a b,h=>by
  cases f<;>simp only[af,zA4,zB7]at h<;>simp only[Ren.val,Ren.fn,valA_af ρ a h.1,valA_af ρ b h.2]
 |.nilFunc,_=>by rw[Ren.val]
 |.iface t v,h=>by rw[Ren.val,val_af ρ v (by simpa[af]using h)]
 |.nilIface,_=>by rw[Ren.val]
 |.agg cs,h=>by rw[Ren.val,valA_af ρ cs (by simpa[af]using h)]
 |.tuple cs,h=>by rw[Ren.val,valA_af ρ cs (by simpa[af]using h)]
theorem valA_af (ρ:Ren):∀ c,afA c=true->ρ.valA c=c
 |⟨l⟩,h=>by rw[Ren.valA,valL_af ρ l (by simpa[afA]using h)]
theorem valL_af (ρ:Ren):∀ l,afL l=true->ρ.valL l=l
 |[],_=>rfl
 |v::r,h=>by
  simp only[afL,zA4]at h
  rw[Ren.valL,val_af ρ v h.1,valL_af ρ r h.2]
end
structure Ext (N:Nat) (ρ ρ':Ren):Prop where
 blk:∀ n,n<N->ρ'.blk n=ρ.blk n
 sh:∀ n,n<N->ρ'.sh n=ρ.sh n
 ex:∀ n,n<N->ρ'.ex n=ρ.ex n
 op:∀ n,n<N->ρ'.op n=ρ.op n
theorem Ext.refl (N:Nat) (ρ:Ren):Ext N ρ ρ:=⟨fun _ _=>rfl,fun _ _=>rfl,fun _ _=>rfl,fun _ _=>rfl⟩
theorem Ext.trans {N M:Nat} {ρ ρ' ρ'':Ren} (h:Ext N ρ ρ') (h':Ext M ρ' ρ'') (hle:N<=M):Ext N ρ ρ'' :=
 ⟨fun n hn=>(h'.blk n (by omega)).trans (h.blk n hn),fun n hn=>(h'.sh n (by omega)).trans (h.sh n hn),fun n hn=>(h'.ex n (by omega)).trans (h.ex n hn),fun n hn=>(h'.op n (by omega)).trans (h.op n hn)⟩
theorem blt_lt {a b:Nat} (h:Nat.blt a b=true):a<b:=by simpa[Nat.blt_eq]using h
theorem blt_of {a b:Nat} (h:a<b):Nat.blt a b=true:=by simpa[Nat.blt_eq]using h
theorem ble_le {a b:Nat} (h:Nat.ble a b=true):a<=b:=zB2 h
mutual
theorem val_ext {N:Nat} {ρ ρ':Ren} (e:Ext N ρ ρ'):∀ v,scb N v=true->ρ'.val v=ρ.val v
 |.bool _,_=>by rw[Ren.val,Ren.val]
 |.int _ _,_=>by rw[Ren.val,Ren.val]
 |.float _ _,_=>by rw[Ren.val,Ren.val]
 |.complex _ _ _,_=>by rw[Ren.val,Ren.val]
 |.string _,_=>by rw[Ren.val,Ren.val]
 |.pointer none,_=>by rw[Ren.val,Ren.val]
 |.pointer (some a),h=>by
  have h':=blt_lt (by simpa[scb]using h)
  simp only[Ren.val,e.blk _ h',e.sh _ h']
 |.slice none _ _,_=>by rw[Ren.val,Ren.val]
 |.slice (some a) _ _,h=>by
  have h':=blt_lt (by simpa[scb]using h)
  simp only[Ren.val,Ren.offS,Ren.capS,Ren.spS,e.blk _ h',e.sh _ h',e.ex _ h',e.op _ h']
 |.map none,_=>by rw[Ren.val,Ren.val]
 |.map (some r),h=>by
  have h':=blt_lt (by simpa[scb]using h)
  simp only[Ren.val,e.blk _ h']
 |.chan none,_=>by rw[Ren.val,Ren.val]
 |.chan (some k),h=>by
  have h':=blt_lt (by simpa[scb]using h)
  simp only[Ren.val,e.op _ h']
 |.func f a b,h=>by
  cases f with
  |yield l =>
   simp only[scb,zA4]at h
   simp only[Ren.val,Ren.fn,e.blk _ (blt_lt h.1.1),valA_ext e a h.1.2,valA_ext e b h.2]
  |_ =>
   simp only[scb,zA4]at h
   simp only[Ren.val,Ren.fn,valA_ext e a h.1,valA_ext e b h.2]
 |.nilFunc,_=>by rw[Ren.val,Ren.val]
 |.iface t v,h=>by rw[Ren.val,Ren.val,val_ext e v (by simpa[scb]using h)]
 |.nilIface,_=>by rw[Ren.val,Ren.val]
 |.agg cs,h=>by rw[Ren.val,Ren.val,valA_ext e cs (by simpa[scb]using h)]
 |.tuple cs,h=>by rw[Ren.val,Ren.val,valA_ext e cs (by simpa[scb]using h)]
theorem valA_ext {N:Nat} {ρ ρ':Ren} (e:Ext N ρ ρ'):∀ c,scbA N c=true->ρ'.valA c=ρ.valA c
 |⟨l⟩,h=>by rw[Ren.valA,Ren.valA,valL_ext e l (by simpa[scbA]using h)]
theorem valL_ext {N:Nat} {ρ ρ':Ren} (e:Ext N ρ ρ'):∀ l,scbL N l=true->ρ'.valL l=ρ.valL l
 |[],_=>rfl
 |v::r,h=>by
  simp only[scbL,zA4]at h
  rw[Ren.valL,Ren.valL,val_ext e v h.1,valL_ext e r h.2]
end
mutual
theorem scb_mono {N M:Nat} (hle:N<=M):∀ v,scb N v=true->scb M v=true
 |.bool _,_=>by simp[scb]
 |.int _ _,_=>by simp[scb]
 |.float _ _,_=>by simp[scb]
 |.complex _ _ _,_=>by simp[scb]
 |.string _,_=>by simp[scb]
 |.pointer none,_=>by simp[scb]
 |.pointer (some a),h=>by
  have h':=blt_lt (by simpa[scb]using h)
  simp only[scb]; exact blt_of (by omega)
 |.slice none _ _,_=>by simp[scb]
 |.slice (some a) _ _,h=>by
  have h':=blt_lt (by simpa[scb]using h)
  simp only[scb]; exact blt_of (by omega)
 |.map none,_=>by simp[scb]
 |.map (some r),h=>by
  have h':=blt_lt (by simpa[scb]using h)
  simp only[scb]; exact blt_of (by omega)
 |.chan none,_=>by simp[scb]
 |.chan (some r),h=>by
  have h':=blt_lt (by simpa[scb]using h)
  simp only[scb]; exact blt_of (by omega)
 |.func f a b,h=>by
  cases f with
  |yield l =>
   simp only[scb,zA4]at h ⊢
   have h':=blt_lt h.1.1
   exact⟨⟨blt_of (by omega),scbA_mono hle a h.1.2⟩,scbA_mono hle b h.2⟩
  |_ =>
   simp only[scb,zA4]at h ⊢
   exact⟨scbA_mono hle a h.1,scbA_mono hle b h.2⟩
 |.nilFunc,_=>by simp[scb]
 |.iface t v,h=>by rw[scb]; exact scb_mono hle v (by simpa[scb]using h)
 |.nilIface,_=>by simp[scb]
 |.agg cs,h=>by rw[scb]; exact scbA_mono hle cs (by simpa[scb]using h)
 |.tuple cs,h=>by rw[scb]; exact scbA_mono hle cs (by simpa[scb]using h)
theorem scbA_mono {N M:Nat} (hle:N<=M):∀ c,scbA N c=true->scbA M c=true
 |⟨l⟩,h=>by rw[scbA]; exact scbL_mono hle l (by simpa[scbA]using h)
theorem scbL_mono {N M:Nat} (hle:N<=M):∀ l,scbL N l=true->scbL M l=true
 |[],_=>rfl
 |v::r,h=>by
  simp only[scbL,zA4]at h ⊢
  exact⟨scb_mono hle v h.1,scbL_mono hle r h.2⟩
end
theorem scbL_iff {N:Nat} {l:List Value}:scbL N l=true ↔ ∀ v∈l,scb N v=true:=by
 induction l with
 |nil=>simp[scbL]
 |cons v r ih=>simp[scbL,ih]
theorem scb_undef (N:Nat):scb N undef=true:=by simp[undef,scb,scbA,scbL]
mutual
theorem scb_of_af {N:Nat}:∀ v,af v=true->scb N v=true
 |.bool _,_=>by simp[scb]
 |.int _ _,_=>by simp[scb]
 |.float _ _,_=>by simp[scb]
 |.complex _ _ _,_=>by simp[scb]
 |.string _,_=>by simp[scb]
 |.pointer none,_=>by simp[scb]
 |.pointer (some a),h=>by simp[af]at h
 |.slice none _ _,_=>by simp[scb]
 |.slice (some a) _ _,h=>by simp[af]at h
 |.map none,_=>by simp[scb]
 |.map (some r),h=>by simp[af]at h
 |.chan none,_=>by simp[scb]
 |.chan (some _),h=>by simp[af]at h
 |.func f a b,h=>by
  cases f<;>simp only[af,zA4,zB7]at h<;>simp only[scb,zA4,scbA_of_af a h.1,scbA_of_af b h.2,and_self]
 |.nilFunc,_=>by simp[scb]
 |.iface t v,h=>by rw[scb]; exact scb_of_af v (by simpa[af]using h)
 |.nilIface,_=>by simp[scb]
 |.agg cs,h=>by rw[scb]; exact scbA_of_af cs (by simpa[af]using h)
 |.tuple cs,h=>by rw[scb]; exact scbA_of_af cs (by simpa[af]using h)
theorem scbA_of_af {N:Nat}:∀ c,afA c=true->scbA N c=true
 |⟨l⟩,h=>by rw[scbA]; exact scbL_of_af l (by simpa[afA]using h)
theorem scbL_of_af {N:Nat}:∀ l,afL l=true->scbL N l=true
 |[],_=>rfl
 |v::r,h=>by
  simp only[afL,zA4]at h
  simp only[scbL,zA4]
  exact⟨scb_of_af v h.1,scbL_of_af r h.2⟩
end
theorem Ren.val_one (ρ:Ren) (v:Value):one (ρ.val v)=one v:=by
 cases v with
 |pointer a=>cases a<;>simp[Ren.val,one]
 |slice a _ _=>cases a<;>simp[Ren.val,one]
 |map a=>cases a<;>simp[Ren.val,one]
 |chan a =>
  cases a with
  |none=>simp[Ren.val,one]
  |some k=>rw[Ren.val,one_opq (ρ.op1 k)]; rfl
 |_=>simp[Ren.val,one]
theorem cells_one {v:Value} (h:one v=true) (hc:∀ cs,v≠.agg cs):v.cells=#[v]:=by
 cases v with
 |agg cs=>exact absurd rfl (hc cs)
 |_=>rfl
theorem Ren.val_cells (ρ:Ren) (v:Value):(ρ.val v).cells=v.cells.map ρ.val:=by
 cases v with
 |pointer a=>cases a<;>simp[Ren.val,Value.cells]
 |slice a _ _=>cases a<;>simp[Ren.val,Value.cells]
 |map a=>cases a<;>simp[Ren.val,Value.cells]
 |chan a =>
  cases a with
  |none=>simp[Ren.val,Value.cells]
  |some k =>
   have h:=one_opq (ρ.op1 k)
   rw[Ren.val,cells_one h (fun cs e=>by rw[e]at h; cases h)]
   simp[Value.cells,Ren.val]
 |agg cs=>simp[Ren.val,Value.cells,Ren.valA_eq]
 |_=>simp[Ren.val,Value.cells]
def Ren.entry (ρ:Ren) (e:MapEntry):MapEntry:={e with val:=ρ.val e.val}
def sco (N:Nat) (o:AObj):Prop :=
 match o.obj with
 |.cells _ _ _=>∀ i,i<o.rv.n->scb N (o.rv.get i)=true
 |.map es _=>∀ e∈es,keyOk e.key=true/\scb N e.val=true
 |.loop r=>r.defers<N/\∀ i,i<o.rv.n->scb N (o.rv.get i)=true
 |_=>True
def Ren.tmps (ρ:Ren) (e:RV):Array Value:=Array.ofFn (n:=e.n) fun i=>ρ.val (e.get i)
def Fits (P:Program) (ρ:Ren) (n:Nat) (o:AObj) (o':Obj):Prop :=
 match o.obj with
 |.cells _ e f0=>∃ (c:Array Value) (fz:Nat × Nat),o'=.cells c e fz/\(∀ i,i<o.rv.n->c[i+ρ.sh n]?=some (ρ.val (o.rv.get i))) /\
   (o.opn=false->c.size=o.rv.n/\ρ.sh n=0/\ρ.ex n=0/\fz=(0,0)) /\
   (o.opn=true->f0.1=0->(ρ.sh n+o.rv.n+ρ.ex n*P.cellsOf e<=c.size/\(ρ.ex n≠0->o.rv.n+ρ.ex n*P.cellsOf e<=9223372036854775807*P.cellsOf e))/\∀ i,ρ.sh n<=i->i<ρ.sh n+o.rv.n+ρ.ex n*P.cellsOf e->¬(fz.1<=i/\i<fz.2))
 |.map es clock=>o'=.map (es.map ρ.entry) clock
 |.stringIter s pos=>o'=.stringIter s pos/\ρ.sh n=0
 |.loop r=>∃ fn,o'=.loop {r with fn:=fn,tmps:=ρ.tmps o.rv,defers:=ρ.blk r.defers}
 |.deferred (some [])=>o'=.deferred (some [])
 |.deferred none=>o'=.deferred none
 |_=>False
def frz:AObj->Bool
 |⟨.cells _ _ (_+1,_),true,_⟩=>true
 |_=>false
def Fz (x:Option AObj):Prop:=∃ o,x=some o/\frz o=true
structure Rel (P:Program) (ρ:Ren) (H:AHeap) (w:World):Prop where
 base:H.base<=H.next
 glob:P.globals.size<=H.next/\∀ g,g<P.globals.size->ρ.blk g=g/\ρ.sh g=0
 inj:∀ m n,H.get m≠none->H.get n≠none->ρ.blk m=ρ.blk n->m=n\/Fz (H.get m)/\Fz (H.get n)
 dom:∀ n o,H.get n=some o->n<H.next/\sco H.next o
 obj:∀ n o,H.get n=some o->∃ o',w.heap[ρ.blk n]?=some o'/\Fits P ρ n o o'
structure Le (H H1:AHeap):Prop where
 next:H.next<=H1.next
 base:H1.base=H.base
 dirty:∀ n,n∈H.dirty->n∈H1.dirty
 keep:∀ n,n<H.base->n∉H1.dirty->H1.get n=H.get n
 gone:∀ n,n<H.next->H.get n=none->H1.get n=none
theorem Le.refl (H:AHeap):Le H H:=⟨zA8 _,rfl,fun _ h=>h,fun _ _ _=>rfl,fun _ _ h=>h⟩
theorem Le.trans {H H1 H2:AHeap} (a:Le H H1) (b:Le H1 H2):Le H H2 where
 next:=zB8 a.next b.next
 base:=b.base.trans a.base
 dirty:=fun n h=>b.dirty n (a.dirty n h)
 keep:=fun n h1 h2=>(b.keep n (by rw[a.base]; exact h1) h2).trans (a.keep n h1 (fun h=>h2 (b.dirty n h)))
 gone:=fun n h1 h2=>b.gone n (zC3 h1 a.next) (a.gone n h1 h2)
theorem Le.back {H H1:AHeap} (a:Le H H1) {n:Nat} (h:n<H.next) (h1:H1.get n≠none):H.get n≠none:=fun e=>h1 (a.gone n h e)
structure St (P:Program) (ρ:Ren) (H:AHeap) (w:World) (ρ1:Ren) (H1:AHeap) (w1:World):Prop where
 ext:Ext H.next ρ ρ1
 le:Le H H1
 rel:Rel P ρ1 H1 w1
 os:w1.os=w.os
 tape:w1.tape=w.tape
 output:w1.output=w.output
 size:w.heap.size<=w1.heap.size
 old:∀ b,b<w.heap.size->(∀ n,n<H.next->(H.base<=n\/n∈H1.dirty)->H.get n≠none->ρ.blk n≠b)->w1.heap[b]?=w.heap[b]?
 fresh:∀ n,H.next<=n->H1.get n≠none->w.heap.size<=ρ1.blk n\/∃ m,m<H.next/\H.get m≠none/\(H.base<=m\/m∈H1.dirty)/\ρ1.blk n=ρ.blk m
 ro:∀ n,Fz (H.get n)->(n∈H1.dirty->n∈H.dirty)/\H1.get n=H.get n
theorem Rel.lt {P:Program} {ρ:Ren} {H:AHeap} {w:World} (r:Rel P ρ H w) {n:Nat} (h:H.get n≠none):n<H.next:=by
 cases e:H.get n with
 |none=>exact absurd e h
 |some o=>exact (r.dom n o e).1
theorem Rel.blk_lt {P:Program} {ρ:Ren} {H:AHeap} {w:World} (r:Rel P ρ H w) {n:Nat} (h:H.get n≠none):ρ.blk n<w.heap.size:=by
 cases e:H.get n with
 |none=>exact absurd e h
 |some o =>
  obtain⟨o',h',_⟩:=r.obj n o e
  rcases zB6 (ρ.blk n) w.heap.size with h1|h1
  ·exact h1
  ·simp[Array.getElem?_eq_none h1]at h'
theorem St.refl {P:Program} {ρ:Ren} {H:AHeap} {w:World} (r:Rel P ρ H w):St P ρ H w ρ H w :=
 ⟨Ext.refl _ _,Le.refl _,r,rfl,rfl,rfl,zA8 _,fun _ _ _=>rfl,fun n h1 h2=>absurd (r.lt h2) (by omega),fun _ _=>⟨id,rfl⟩⟩
theorem Fz.ne {x:Option AObj} (h:Fz x):x≠none:=by
 obtain⟨o,rfl,_⟩:=h
 simp
theorem St.trans {P:Program} {ρ ρ1 ρ2:Ren} {H H1 H2:AHeap} {w w1 w2:World} (a:St P ρ H w ρ1 H1 w1) (b:St P ρ1 H1 w1 ρ2 H2 w2):St P ρ H w ρ2 H2 w2 where
 ext:=a.ext.trans b.ext a.le.next
 le:=a.le.trans b.le
 rel:=b.rel
 os:=b.os.trans a.os
 tape:=b.tape.trans a.tape
 output:=b.output.trans a.output
 size:=zB8 a.size b.size
 old:=fun x hx hc=>by
  have h1:w1.heap[x]?=w.heap[x]?:=a.old x hx fun n hn hd hg=>hc n hn (hd.imp id (b.le.dirty n)) hg
  rw[<-h1]
  refine b.old x (zC3 hx a.size) fun n hn hd hg=>?_
  rw[a.le.base]at hd
  rcases zB6 n H.next with h|h
  ·rw[a.ext.blk n h]
   exact hc n h hd (a.le.back h hg)
  ·rcases a.fresh n h hg with h'|⟨m,h2,h3,h4,h5⟩
   ·omega
   ·rw[h5]
    exact hc m h2 (h4.imp id (b.le.dirty m)) h3
 fresh:=fun n hn hg=>by
  rcases zB6 n H1.next with h|h
  ·rw[b.ext.blk n h]
   rcases a.fresh n hn (b.le.back h hg) with h'|⟨m,h2,h3,h4,h5⟩
   ·exact .inl h'
   ·exact .inr ⟨m,h2,h3,h4.imp id (b.le.dirty m),h5⟩
  ·rcases b.fresh n h hg with h'|⟨m,h2,h3,h4,h5⟩
   ·exact .inl (zB8 a.size h')
   ·rw[h5]
    rw[a.le.base]at h4
    rcases zB6 m H.next with hm|hm
    ·exact .inr ⟨m,hm,a.le.back hm h3,h4,a.ext.blk m hm⟩
    ·rcases a.fresh m hm h3 with h'|⟨k,k2,k3,k4,k5⟩
     ·exact .inl h'
     ·exact .inr ⟨k,k2,k3,k4.imp id (b.le.dirty k),k5⟩
 ro:=fun n h=>by
  obtain⟨a1,a2⟩:=a.ro n h
  obtain⟨b1,b2⟩:=b.ro n (by rw[a2]; exact h)
  exact⟨fun hd=>a1 (b1 hd),b2.trans a2⟩
theorem Ren.tmps_ext {N:Nat} {ρ ρ':Ren} (e:Ext N ρ ρ') (v:RV) (h:∀ i,i<v.n->scb N (v.get i)=true):ρ'.tmps v=ρ.tmps v:=by
 unfold Ren.tmps
 congr 1
 funext i
 exact val_ext e _ (h i i.2)
theorem Fits.ext {P:Program} {ρ ρ':Ren} {N n:Nat} {o:AObj} {o':Obj} (h:Fits P ρ n o o') (hn:n<N) (hs:sco N o) (e:Ext N ρ ρ'):Fits P ρ' n o o':=by
 obtain⟨ob,op,v⟩:=o
 unfold Fits sco at *
 cases ob with
 |cells c0 t f0 =>
  obtain⟨c,fz,h1,h2,h3,h4⟩:=h
  refine⟨c,fz,h1,fun i hi=>?_,?_,?_⟩
  ·rw[e.sh n hn,h2 i hi,val_ext e _ (hs i hi)]
  ·rw[e.sh n hn,e.ex n hn]; exact h3
  ·rw[e.sh n hn,e.ex n hn]; exact h4
 |map es clock =>
  simp only at h hs ⊢
  rw[h]
  congr 1
  apply Array.map_congr_left
  intro x hx
  simp only[Ren.entry,val_ext e _ (hs x hx).2]
 |loop r =>
  obtain⟨fn,h⟩:=h
  refine⟨fn,?_⟩
  rw[h,Ren.tmps_ext e v hs.2,e.blk _ hs.1]
 |stringIter s p=>exact⟨h.1,by rw[e.sh n hn]; exact h.2⟩
 |deferred ds =>
  cases ds with
  |none=>exact h
  |some l=>cases l<;>exact h
 |_=>exact h
theorem sco.mono {N M:Nat} {o:AObj} (h:sco N o) (hle:N<=M):sco M o:=by
 obtain⟨ob,op,v⟩:=o
 unfold sco at *
 cases ob with
 |cells c0 t f0=>exact fun i hi=>scb_mono hle _ (h i hi)
 |map es clock=>exact fun e he=>⟨(h e he).1,scb_mono hle _ (h e he).2⟩
 |loop r=>exact⟨zC3 h.1 hle,fun i hi=>scb_mono hle _ (h.2 i hi)⟩
 |_=>trivial
theorem St.world {P:Program} {ρ:Ren} {H:AHeap} {w w1:World} (r:Rel P ρ H w) (h:w1.heap=w.heap) (h1:w1.os=w.os) (h2:w1.tape=w.tape) (h3:w1.output=w.output) :
  St P ρ H w ρ H w1 :=
 ⟨Ext.refl _ _,Le.refl _,⟨r.base,r.glob,r.inj,r.dom,fun n o hn=>by rw[h]; exact r.obj n o hn⟩,h1,h2,h3,by rw[h]; exact zA8 _,fun b _ _=>by rw[h],
  fun n h1 h2=>absurd (r.lt h2) (by omega),fun _ _=>⟨id,rfl⟩⟩
def Ren.at (ρ:Ren) (n b s e:Nat):Ren:=⟨fun m=>if m=n then b else ρ.blk m,fun m=>if m=n then s else ρ.sh m,fun m=>if m=n then e else ρ.ex m,ρ.op,ρ.op1⟩
@[simp] theorem Ren.at_blk (ρ:Ren) (n b s e:Nat):(ρ.at n b s e).blk n=b:=by simp[Ren.at]
@[simp] theorem Ren.at_sh (ρ:Ren) (n b s e:Nat):(ρ.at n b s e).sh n=s:=by simp[Ren.at]
@[simp] theorem Ren.at_ex (ρ:Ren) (n b s e:Nat):(ρ.at n b s e).ex n=e:=by simp[Ren.at]
theorem Ren.at_ext (ρ:Ren) (n b s e:Nat):Ext n ρ (ρ.at n b s e) :=
 ⟨fun m h=>by simp[Ren.at,Nat.ne_of_lt h],fun m h=>by simp[Ren.at,Nat.ne_of_lt h],fun m h=>by simp[Ren.at,Nat.ne_of_lt h],fun m _=>by simp[Ren.at]⟩
theorem ne_none {α:Type} {o:Option α} {x:α} (h:o=some x):o≠none:=by rw[h]; simp
theorem St.new {P:Program} {ρ:Ren} {H:AHeap} {w:World} (r:Rel P ρ H w) (o:AObj) (o':Obj) (s e:Nat) (hs:sco H.next o)
  (hf:Fits P (ρ.at H.next w.heap.size s e) H.next o o'):St P ρ H w (ρ.at H.next w.heap.size s e) (H.new o) (w.alloc o'):=by
 have ex:=Ren.at_ext ρ H.next w.heap.size s e
 have hg:∀ n,n≠H.next->(H.new o).get n=H.get n:=fun n hn=>by rw[AHeap.get_new,if_neg hn]
 have hne:∀ {n},H.get n≠none->n≠H.next:=fun h e=>absurd (r.lt h) (by omega)
 have hgn:(H.new o).get H.next=some o:=by rw[AHeap.get_new,if_pos rfl]
 refine⟨ex,⟨Nat.le_succ _,rfl,fun _ h=>h,fun n hb _=>hg n (by have:=r.base; omega),fun n hn h=>by rw[hg n (by omega)]; exact h⟩,⟨Nat.le_succ_of_le r.base,⟨Nat.le_succ_of_le r.glob.1,fun g hgl=>?_⟩,?_,?_,?_⟩,rfl,rfl,rfl,by simp,fun b hb _=>?_,?_,fun n h=>⟨id,hg n (hne h.ne)⟩⟩
 ·have:=r.glob.1
  rw[ex.blk g (by omega),ex.sh g (by omega)]; exact r.glob.2 g hgl
 ·intro m n hm hn he
  by_cases h1:m=H.next<;>by_cases h2:n=H.next
  ·exact .inl (by rw[h1,h2])
  ·rw[hg n h2]at hn
   subst h1
   rw[Ren.at_blk,ex.blk n (r.lt hn)]at he
   have:=r.blk_lt hn
   omega
  ·rw[hg m h1]at hm
   subst h2
   rw[Ren.at_blk,ex.blk m (r.lt hm)]at he
   have:=r.blk_lt hm
   omega
  ·rw[hg m h1]at hm
   rw[hg n h2]at hn
   rw[ex.blk m (r.lt hm),ex.blk n (r.lt hn)]at he
   rw[hg m h1,hg n h2]
   exact r.inj m n hm hn he
 ·intro n x hx
  by_cases h1:n=H.next
  ·subst h1
   rw[hgn]at hx
   cases hx
   exact⟨zC1 _,hs.mono (Nat.le_succ _)⟩
  ·rw[hg n h1]at hx
   have:=r.dom n x hx
   exact⟨Nat.lt_succ_of_lt this.1,this.2.mono (Nat.le_succ _)⟩
 ·intro n x hx
  by_cases h1:n=H.next
  ·subst h1
   rw[hgn]at hx
   cases hx
   exact⟨o',by rw[Ren.at_blk]; show (w.heap.push o')[w.heap.size]?=some o'; simp,hf⟩
  ·rw[hg n h1]at hx
   obtain⟨y,hy,hfy⟩:=r.obj n x hx
   have hd:=r.dom n x hx
   refine⟨y,?_,hfy.ext hd.1 hd.2 ex⟩
   rw[ex.blk n hd.1]
   have:=r.blk_lt (ne_none hx)
   simp only[World.alloc]
   rw[Array.getElem?_push,if_neg (by omega)]; exact hy
 ·simp only[World.alloc]
  rw[Array.getElem?_push,if_neg (by omega)]
 ·intro n hn hgn'
  by_cases h1:n=H.next
  ·subst h1; exact .inl (by rw[Ren.at_blk]; exact zA8 _)
  ·rw[hg n h1]at hgn'
   exact absurd (r.lt hgn') (by omega)
theorem St.upd {P:Program} {ρ:Ren} {H:AHeap} {w w1:World} (r:Rel P ρ H w) {n:Nat} {o:AObj} {o':Obj} (h0:H.get n≠none) (hz0:¬Fz (H.get n)) (hs:sco H.next o)
  (hf:Fits P ρ n o o') (hw:w1.heap[ρ.blk n]?=some o') (hz:w1.heap.size=w.heap.size) (hrest:∀ b,b≠ρ.blk n->w1.heap[b]?=w.heap[b]?)
  (h1:w1.os=w.os) (h2:w1.tape=w.tape) (h3:w1.output=w.output):St P ρ H w ρ (H.upd n (some o)) w1:=by
 have hg:∀ m,m≠n->(H.upd n (some o)).get m=H.get m:=fun m hm=>by rw[AHeap.get_upd,if_neg hm]
 have hgn:(H.upd n (some o)).get n=some o:=by rw[AHeap.get_upd,if_pos rfl]
 have hdom:∀ m,(H.upd n (some o)).get m≠none->H.get m≠none:=fun m hm=>by
  by_cases h:m=n
  ·rw[h]; exact h0
  ·rw[hg m h]at hm; exact hm
 have hmark:n<H.base->n∈(H.upd n (some o)).dirty:=fun hb=>by simp[AHeap.upd_eq,blt_of hb]
 refine⟨Ext.refl _ _,⟨zA8 _,rfl,fun m hm=>?_,fun m hb hm=>hg m (fun e=>hm (e▸hmark (e▸hb))),fun m hm h=>?_⟩,⟨r.base,r.glob,fun m k hm hk he=>(r.inj m k (hdom m hm) (hdom k hk) he).imp id fun⟨a,b⟩=>⟨by rw[hg m (fun e=>hz0 (e▸a))]; exact a,by rw[hg k (fun e=>hz0 (e▸b))]; exact b⟩,?_,?_⟩,h1,h2,h3,by omega,fun b hb hc=>?_,fun m hm hg'=>absurd (r.lt (hdom m hg')) (by omega),fun m hm=>?_⟩
 ·simp only[AHeap.upd_eq]; split
  ·exact zB5 _ hm
  ·exact hm
 ·by_cases e:m=n
  ·subst e; exact absurd h h0
  ·rw[hg m e]; exact h
 ·intro m x hx
  by_cases e:m=n
  ·subst e
   rw[hgn]at hx
   cases hx
   exact⟨r.lt h0,hs⟩
  ·rw[hg m e]at hx; exact r.dom m x hx
 ·intro m x hx
  by_cases e:m=n
  ·subst e
   rw[hgn]at hx
   cases hx
   exact⟨o',hw,hf⟩
  ·rw[hg m e]at hx
   obtain⟨y,hy,hfy⟩:=r.obj m x hx
   refine⟨y,?_,hfy⟩
   rw[hrest _ (fun he=>(r.inj m n (ne_none hx) h0 he).elim e fun h=>hz0 h.2)]; exact hy
 ·by_cases e:b=ρ.blk n
  ·exact absurd e.symm (hc n (r.lt h0) (by
    rcases zB6 n H.base with h|h
    ·exact .inr (hmark h)
    ·exact .inl h) h0)
  ·exact hrest b e
 ·have hmn:m≠n:=fun e=>hz0 (e▸hm)
  refine⟨fun h=>?_,hg m hmn⟩
  simp only[AHeap.upd_eq]at h
  split at h
  ·exact (zB1.1 h).resolve_left hmn
  ·exact h
theorem St.del {P:Program} {ρ:Ren} {H:AHeap} {w:World} (r:Rel P ρ H w) (n:Nat) (hz0:¬Fz (H.get n)):St P ρ H w ρ (H.upd n none) w:=by
 have hg:∀ m,m≠n->(H.upd n none).get m=H.get m:=fun m hm=>by rw[AHeap.get_upd,if_neg hm]
 have hgn:(H.upd n none).get n=none:=by rw[AHeap.get_upd,if_pos rfl]
 have hdom:∀ m x,(H.upd n none).get m=some x->H.get m=some x:=fun m x hm=>by
  by_cases h:m=n
  ·rw[h,hgn]at hm; cases hm
  ·rw[hg m h]at hm; exact hm
 have hdom':∀ m,(H.upd n none).get m≠none->H.get m≠none:=fun m hm=>by
  cases e:(H.upd n none).get m with
  |none=>exact absurd e hm
  |some x=>exact ne_none (hdom m x e)
 have hmark:n<H.base->n∈(H.upd n none).dirty:=fun hb=>by simp[AHeap.upd_eq,blt_of hb]
 refine⟨Ext.refl _ _,⟨zA8 _,rfl,fun m hm=>?_,fun m hb hm=>hg m (fun e=>hm (e▸hmark (e▸hb))),fun m hm h=>?_⟩,⟨r.base,r.glob,fun m k hm hk he=>(r.inj m k (hdom' m hm) (hdom' k hk) he).imp id fun⟨a,b⟩=>⟨by rw[hg m (fun e=>hz0 (e▸a))]; exact a,by rw[hg k (fun e=>hz0 (e▸b))]; exact b⟩,fun m x hx=>r.dom m x (hdom m x hx),fun m x hx=>r.obj m x (hdom m x hx)⟩,rfl,rfl,rfl,zA8 _,fun _ _ _=>rfl,fun m hm hg'=>absurd (r.lt (hdom' m hg')) (by omega),fun m hm=>?_⟩
 ·simp only[AHeap.upd_eq]; split
  ·exact zB5 _ hm
  ·exact hm
 ·by_cases e:m=n
  ·subst e; exact hgn
  ·rw[hg m e]; exact h
 ·have hmn:m≠n:=fun e=>hz0 (e▸hm)
  refine⟨fun h=>?_,hg m hmn⟩
  simp only[AHeap.upd_eq]at h
  split at h
  ·exact (zB1.1 h).resolve_left hmn
  ·exact h
theorem St.move {P:Program} {ρ:Ren} {H:AHeap} {w w1:World} (r:Rel P ρ H w) {n:Nat} {o:AObj} {o':Obj} (s e:Nat) (h0:H.get n≠none) (hz0:¬Fz (H.get n)) (hs:sco H.next o)
  (hf:Fits P (ρ.at H.next (ρ.blk n) s e) H.next o o') (hw:w1.heap[ρ.blk n]?=some o') (hz:w1.heap.size=w.heap.size) (hrest:∀ b,b≠ρ.blk n->w1.heap[b]?=w.heap[b]?)
  (h1:w1.os=w.os) (h2:w1.tape=w.tape) (h3:w1.output=w.output):St P ρ H w (ρ.at H.next (ρ.blk n) s e) ((H.upd n none).new o) w1:=by
 have ex:=Ren.at_ext ρ H.next (ρ.blk n) s e
 have hnn:=r.lt h0
 have hnext:(H.upd n none).next=H.next:=rfl
 have hgn:((H.upd n none).new o).get H.next=some o:=by rw[AHeap.get_new,hnext,if_pos rfl]
 have hg0:((H.upd n none).new o).get n=none:=by rw[AHeap.get_new,hnext,if_neg (by omega),AHeap.get_upd,if_pos rfl]
 have hg:∀ m,m≠n->m≠H.next->((H.upd n none).new o).get m=H.get m:=fun m h h'=>by rw[AHeap.get_new,hnext,if_neg h',AHeap.get_upd,if_neg h]
 have hmark:n<H.base->n∈((H.upd n none).new o).dirty:=fun hb=>by simp[AHeap.new_eq,AHeap.upd_eq,blt_of hb]
 have hown:H.base<=n\/n∈((H.upd n none).new o).dirty:=by
  rcases zB6 n H.base with h|h
  ·exact .inr (hmark h)
  ·exact .inl h
 have hdom:∀ m,m≠H.next->((H.upd n none).new o).get m≠none->H.get m≠none/\m≠n:=fun m h hm=>by
  by_cases e:m=n
  ·subst e; exact absurd hg0 hm
  ·rw[hg m e h]at hm; exact⟨hm,e⟩
 refine⟨ex,⟨Nat.le_succ _,rfl,fun m hm=>?_,fun m hb hm=>hg m (fun e=>hm (e▸hmark (e▸hb))) (by have:=r.base; omega),fun m hm h=>?_⟩,
  ⟨Nat.le_succ_of_le r.base,⟨Nat.le_succ_of_le r.glob.1,fun g hgl=>?_⟩,?_,?_,?_⟩,h1,h2,h3,by omega,fun b hb hc=>?_,?_,fun m hm=>?_⟩
 ·simp only[AHeap.new_eq,AHeap.upd_eq]; split
  ·exact zB5 _ hm
  ·exact hm
 ·by_cases e:m=n
  ·subst e; exact hg0
  ·rw[hg m e (by omega)]; exact h
 ·have:=r.glob.1
  rw[ex.blk g (by omega),ex.sh g (by omega)]; exact r.glob.2 g hgl
 ·intro m k hm hk he
  by_cases e1:m=H.next<;>by_cases e2:k=H.next
  ·exact .inl (by rw[e1,e2])
  ·obtain⟨hk',hkn⟩:=hdom k e2 hk
   subst e1
   rw[Ren.at_blk,ex.blk k (r.lt hk')]at he
   exact ((r.inj n k h0 hk' he).elim (fun e=>absurd e.symm hkn) fun h=>absurd h.1 hz0)
  ·obtain⟨hm',hmn⟩:=hdom m e1 hm
   subst e2
   rw[Ren.at_blk,ex.blk m (r.lt hm')]at he
   exact ((r.inj m n hm' h0 he).elim (fun e=>absurd e hmn) fun h=>absurd h.2 hz0)
  ·obtain⟨hm',j1⟩:=hdom m e1 hm
   obtain⟨hk',j2⟩:=hdom k e2 hk
   rw[ex.blk m (r.lt hm'),ex.blk k (r.lt hk')]at he
   rw[hg m j1 e1,hg k j2 e2]
   exact r.inj m k hm' hk' he
 ·intro m x hx
  by_cases e1:m=H.next
  ·subst e1
   rw[hgn]at hx
   cases hx
   exact⟨zC1 _,hs.mono (Nat.le_succ _)⟩
  ·have hd:=hdom m e1 (ne_none hx)
   rw[hg m hd.2 e1]at hx
   have:=r.dom m x hx
   exact⟨Nat.lt_succ_of_lt this.1,this.2.mono (Nat.le_succ _)⟩
 ·intro m x hx
  by_cases e1:m=H.next
  ·subst e1
   rw[hgn]at hx
   cases hx
   exact⟨o',by rw[Ren.at_blk]; exact hw,hf⟩
  ·have hd:=hdom m e1 (ne_none hx)
   rw[hg m hd.2 e1]at hx
   obtain⟨y,hy,hfy⟩:=r.obj m x hx
   have hdm:=r.dom m x hx
   refine⟨y,?_,hfy.ext hdm.1 hdm.2 ex⟩
   rw[ex.blk m hdm.1,hrest _ (fun he=>(r.inj m n (ne_none hx) h0 he).elim hd.2 fun h=>hz0 h.2)]; exact hy
 ·by_cases e:b=ρ.blk n
  ·exact absurd e.symm (hc n hnn hown h0)
  ·exact hrest b e
 ·intro m hm hgm
  by_cases e1:m=H.next
  ·subst e1; exact .inr ⟨n,hnn,h0,hown,by rw[Ren.at_blk]⟩
  ·exact absurd (r.lt (hdom m e1 hgm).1) (by omega)
 ·have hmn:m≠n:=fun e=>hz0 (e▸hm)
  have hmN:m≠H.next:=fun e=>absurd (r.lt hm.ne) (by omega)
  refine⟨fun h=>?_,hg m hmn hmN⟩
  simp only[AHeap.new_eq,AHeap.upd_eq]at h
  split at h
  ·exact (zB1.1 h).resolve_left hmn
  ·exact h
theorem run_und {P:Program} {w:World} {t:TypeId} {d:TypeDesc} (h:P.underlying t=some d):(underlying t).run P w=.ok d w:=by
 simp[underlying,h]
theorem run_szOf {P:Program} {w:World} {t:TypeId} {n:Nat} (h:szOf P t=some n):(sizeOf t).run P w=.ok n w:=by
 unfold szOf at h
 cases e:P.info? t with
 |none=>simp[e]at h
 |some i=>simp[e]at h; simp[sizeOf,typeInfo,e,h]
theorem cellsOf_szOf {P:Program} {t:TypeId} {n:Nat} (h:szOf P t=some n):P.cellsOf t=n:=by
 unfold szOf at h
 simp[Program.cellsOf,h]
theorem run_info {P:Program} {w:World} {t:TypeId} {i:TypeInfo} (h:P.info? t=some i):(typeInfo t).run P w=.ok i w:=by simp[typeInfo,h]
theorem bytesOf_info {P:Program} {t:TypeId} {n:Nat} (h:bytesOf P t=some n):∃ i,P.info? t=some i/\i.bytes=n:=by
 unfold bytesOf at h
 cases e:P.info? t with
 |none=>simp[e]at h
 |some i=>simp[e]at h; exact⟨i,rfl,h⟩
theorem run_zeroOf {P:Program} {w:World} {t:TypeId} {v:Value} (h:zeroOf P t=some v):(zeroValue t).run P w=.ok v w/\af v=true:=by
 unfold zeroOf at h
 cases e:P.info? t with
 |none=>simp[e]at h
 |some i =>
  simp only[e]at h
  cases e2:i.zero with
  |none=>simp[e2]at h
  |some z =>
   simp only[e2]at h
   split at h
   ·rename_i ha
    simp only[Option.some.injEq]at h
    subst h
    exact⟨by simp[zeroValue,typeInfo,e,e2],ha⟩
   ·cases h
theorem run_aggT {P:Program} {w:World} {t:TypeId} {b:Bool} (h:aggT P t=some b):(isAgg t).run P w=.ok b w:=by
 unfold aggT at h
 unfold isAgg
 cases e:P.underlying t with
 |none=>simp[e]at h
 |some d =>
  simp only[e]at h
  simp only[Sem.run_bind,run_und e,Result.andThen_ok]
  cases d<;>simp_all
theorem peval_run {α:Type} {P:Program} (s:Sem α):∀ {a:α},peval P s=some a->∀ w,s.run P w=.ok a w:=by
 induction s with
 |pure x=>intro a h w; simp[peval]at h; simp[h]
 |program k ih=>intro a h w; simp only[peval]at h; simp only[Sem.run]; exact ih P h w
 |mark m k ih=>intro a h w; simp only[peval]at h; simp only[Sem.run]; exact ih h w
 |load|store|new|shape|freeze|frozen|getObj|setObj|choose|sys|halt=>intro a h; simp[peval]at h
theorem ppanic_run {α:Type} {P:Program} (s:Sem α):∀ {v:Value},ppanic P s=some v->∀ w,s.run P w=.halt (.panic v) w:=by
 induction s with
 |halt h =>
  intro v hv w
  cases h<;>simp[ppanic]at hv
  simp[hv]
 |program k ih=>intro a h w; simp only[ppanic]at h; simp only[Sem.run]; exact ih P h w
 |mark m k ih=>intro a h w; simp only[ppanic]at h; simp only[Sem.run]; exact ih h w
 |load|store|new|shape|freeze|frozen|getObj|setObj|choose|sys|pure=>intro a h; simp[ppanic]at h
structure CellsR (P:Program) (ρ:Ren) (n:Nat) (v:RV) (e:TypeId) (op:Bool) (w:World) (c:Array Value) (fz:Nat × Nat):Prop where
 at_:w.heap[ρ.blk n]?=some (.cells c e fz)
 cell:∀ i,i<v.n->c[i+ρ.sh n]?=some (ρ.val (v.get i))
 shut:op=false->c.size=v.n/\ρ.sh n=0/\ρ.ex n=0/\fz=(0,0)
structure Cells (P:Program) (ρ:Ren) (n:Nat) (v:RV) (e:TypeId) (op:Bool) (w:World) (c:Array Value) (fz:Nat × Nat):Prop extends CellsR P ρ n v e op w c fz where
 room:op=true->ρ.ex n≠0->v.n+ρ.ex n*P.cellsOf e<=9223372036854775807*P.cellsOf e
 open_:op=true->ρ.sh n+v.n+ρ.ex n*P.cellsOf e<=c.size/\∀ i,ρ.sh n<=i->i<ρ.sh n+v.n+ρ.ex n*P.cellsOf e->¬(fz.1<=i/\i<fz.2)
theorem cellsAt_get {H:AHeap} {n:Nat} {v:RV} {e:TypeId} {op:Bool} (h:cellsAt H n=some (v,e,op)):∃ c0 f0,H.get n=some ⟨.cells c0 e (0,f0),op,v⟩:=by
 unfold cellsAt at h
 split at h
 ·rename_i c0 e' f0 o v' hg
  simp only[Option.some.injEq,Prod.mk.injEq]at h
  obtain⟨rfl,rfl,rfl⟩:=h
  exact⟨c0,f0,hg⟩
 ·cases h
theorem cellsR_get {H:AHeap} {n:Nat} {v:RV} {e:TypeId} {op:Bool} (h:cellsR H n=some (v,e,op)):∃ c0 f0,H.get n=some ⟨.cells c0 e f0,op,v⟩:=by
 unfold cellsR at h
 split at h
 ·rename_i c0 e' f0 o v' hg
  simp only[Option.some.injEq,Prod.mk.injEq]at h
  obtain⟨rfl,rfl,rfl⟩:=h
  exact⟨c0,f0,hg⟩
 ·cases h
theorem cellsR_of {H:AHeap} {n:Nat} {x:RV × TypeId × Bool} (h:cellsAt H n=some x):cellsR H n=some x:=by
 obtain⟨v,e,op⟩:=x
 obtain⟨c0,f0,hg⟩:=cellsAt_get h
 simp[cellsR,hg]
theorem frz_shut {o:Obj} {c:RV}:frz ⟨o,false,c⟩=false:=by
 unfold frz
 split
 ·rename_i h; simp only[AObj.mk.injEq]at h; exact absurd h.2.1 (by simp)
 ·rfl
theorem nz_of {H:AHeap} {n:Nat} {x:AObj} (hg:H.get n=some x) (h:frz x=false):¬Fz (H.get n):=by
 rintro⟨o,h1,h2⟩
 rw[hg]at h1
 cases h1
 rw[h]at h2
 cases h2
theorem cellsAt_nz {H:AHeap} {n:Nat} {x:RV × TypeId × Bool} (h:cellsAt H n=some x):¬Fz (H.get n):=by
 obtain⟨v,e,op⟩:=x
 obtain⟨c0,f0,hg⟩:=cellsAt_get h
 rintro⟨o,h1,h2⟩
 rw[hg]at h1
 cases h1
 cases op<;>simp[frz]at h2
section
variable {P : Program} {ρ : Ren} {H : AHeap} {w : World}
theorem Rel.cells (r:Rel P ρ H w) {n:Nat} {v:RV} {e:TypeId} {op:Bool} (h:cellsAt H n=some (v,e,op)) :
  ∃ c fz,Cells P ρ n v e op w c fz:=by
 obtain⟨c0,f0,hg⟩:=cellsAt_get h
 obtain⟨o',hw,hf⟩:=r.obj n _ hg
 simp only[Fits]at hf
 obtain⟨c,fz,rfl,h1,h2,h3⟩:=hf
 exact⟨c,fz,⟨hw,h1,h2⟩,fun h=>(h3 h trivial).1.2,fun h=>⟨(h3 h trivial).1.1,(h3 h trivial).2⟩⟩
theorem Rel.rcells (r:Rel P ρ H w) {n:Nat} {v:RV} {e:TypeId} {op:Bool} (h:cellsR H n=some (v,e,op)) :
  ∃ c fz,CellsR P ρ n v e op w c fz:=by
 obtain⟨c0,f0,hg⟩:=cellsR_get h
 obtain⟨o',hw,hf⟩:=r.obj n _ hg
 simp only[Fits]at hf
 obtain⟨c,fz,rfl,h1,h2,h3⟩:=hf
 exact⟨c,fz,hw,h1,h2⟩
theorem Rel.cells_sc (r:Rel P ρ H w) {n:Nat} {v:RV} {e:TypeId} {op:Bool} (h:cellsAt H n=some (v,e,op)):∀ i,i<v.n->scb H.next (v.get i)=true:=by
 obtain⟨c0,f0,hg⟩:=cellsAt_get h
 have:=(r.dom n _ hg).2
 simpa only[sco]using this
theorem CellsR.lt {n:Nat} {v:RV} {e:TypeId} {op:Bool} {c:Array Value} {fz:Nat × Nat} (h:CellsR P ρ n v e op w c fz) {i:Nat} (hi:i<v.n):i+ρ.sh n<c.size:=by
 have:=h.cell i hi
 rcases zB6 (i+ρ.sh n) c.size with h1|h1
 ·exact h1
 ·simp[Array.getElem?_eq_none h1]at this
theorem CellsR.cell? {n:Nat} {v:RV} {e:TypeId} {op:Bool} {c:Array Value} {fz:Nat × Nat} (h:CellsR P ρ n v e op w c fz) {i:Nat} (hi:i<v.n) :
  w.cell? ⟨ρ.blk n,i+ρ.sh n,none⟩=some (ρ.val (v.get i)):=by
 simp[World.cell?,h.at_,h.cell i hi]
theorem Cells.thawed {n:Nat} {v:RV} {e:TypeId} {op:Bool} {c:Array Value} {fz:Nat × Nat} (h:Cells P ρ n v e op w c fz) {i:Nat} (h1:ρ.sh n<=i) (h2:i<ρ.sh n+v.n+ρ.ex n*P.cellsOf e):¬(fz.1<=i/\i<fz.2):=by
 cases op with
 |false=>have:=(h.shut rfl).2.2.2; subst this; simp
 |true=>exact (h.open_ rfl).2 i h1 h2
theorem addr_add (b off i:Nat):(Addr.mk b off none).add i=⟨b,off+i,none⟩:=by
 unfold Addr.add
 split
 ·subst_vars; rfl
 ·rfl
theorem run_loadCellsFrom (b off:Nat) (f:Nat->Value):∀ (n i:Nat) (acc:Array Value),(∀ j,j<n->w.cell? ⟨b,off+(i+j),none⟩=some (f (i+j))) ->
  (loadCellsFrom ⟨b,off,none⟩ i n acc).run P w=.ok (acc++((List.range n).map fun j=>f (i+j)).toArray) w:=by
 intro n
 induction n with
 |zero=>intro i acc _; simp[loadCellsFrom]
 |succ n ih =>
  intro i acc h
  have h0:=h 0 (Nat.succ_pos _)
  rw[zD3]at h0
  simp only[loadCellsFrom,Sem.run_bind,addr_add,run_load,h0,Result.andThen_ok]
  rw[ih (i+1) _ (fun j hj=>by have:=h (j+1) (by omega); rw[show i+1+j=i+(j+1) from by omega]; exact this)]
  congr 1
  rw[List.range_succ_eq_map,zB3,List.map_map]
  apply Array.ext'
  simp only[Array.toList_append,Array.toList_push,List.append_assoc,List.singleton_append,zD3]
  congr 2
  apply zD8
  intro j _
  simp only[Function.comp]
  rw[show i+1+j=i+j.succ from by omega]
theorem gets_map (ρ:Ren) (v:RV) (i k:Nat):(v.gets i k).map ρ.val=(List.range k).map fun j=>ρ.val (v.get (i+j)):=by
 rw[RV.gets_eq,List.map_map]; rfl
theorem CellsR.load {n:Nat} {v:RV} {e:TypeId} {op:Bool} {c:Array Value} {fz:Nat × Nat} (h:CellsR P ρ n v e op w c fz) {off k:Nat} (hk:off+k<=v.n) :
  (loadCells ⟨ρ.blk n,off+ρ.sh n,none⟩ k).run P w=.ok ((v.gets off k).map ρ.val).toArray w:=by
 unfold loadCells
 rw[run_loadCellsFrom (ρ.blk n) (off+ρ.sh n) (fun j=>ρ.val (v.get (off+j))) k 0 #[] (fun j hj=>by
  have:=h.cell? (i:=off+j) (by omega)
  rw[show off+ρ.sh n+(0+j)=off+j+ρ.sh n from by omega,show 0+j=j from by omega]; exact this)]
 simp[gets_map]
theorem aLoad_var (r:Rel P ρ H w) {t:TypeId} {n off:Nat} {x:Value} (h:aLoad P H t (.pointer (some ⟨n,off,none⟩))=some x) :
  (loadVar t ⟨ρ.blk n,off+ρ.sh n,none⟩).run P w=.ok (ρ.val x) w:=by
 simp only[aLoad,zA1,zA2]at h
 obtain⟨⟨v,e,op⟩,hc,b,hb,h⟩:=h
 obtain⟨c,fz,hC⟩:=r.rcells hc
 cases b with
 |true =>
  simp only[zA2]at h
  obtain⟨sz,hsz,h⟩:=h
  split at h
  ·rename_i hle
   simp only[Option.some.injEq]at h
   subst h
   simp only[loadVar,Sem.run_bind,run_aggT hb,Result.andThen_ok,if_true,run_szOf hsz,hC.load (ble_le hle),Sem.run_pure,Ren.val,Ren.valA,Ren.valL_eq]
  ·cases h
 |false =>
  simp only at h
  split at h
  ·rename_i hlt
   simp only[Option.some.injEq]at h
   subst h
   simp only[loadVar,Sem.run_bind,run_aggT hb,Result.andThen_ok,zB7,if_false,run_load,hC.cell? (blt_lt hlt)]
  ·cases h
theorem aLoad_ptr {t:TypeId} {p x:Value} (h:aLoad P H t p=some x):∃ n off,p=.pointer (some ⟨n,off,none⟩):=by
 unfold aLoad at h
 split at h
 ·rename_i n off; exact⟨n,off,rfl⟩
 ·cases h
theorem val_ptr (ρ:Ren) (n off:Nat):ρ.val (.pointer (some ⟨n,off,none⟩))=.pointer (some ⟨ρ.blk n,off+ρ.sh n,none⟩):=by simp[Ren.val]
theorem aLoad_run (r:Rel P ρ H w) {t:TypeId} {p x:Value} (h:aLoad P H t p=some x):(Instr.loadAt t (ρ.val p)).run P w=.ok (ρ.val x) w:=by
 obtain⟨n,off,rfl⟩:=aLoad_ptr h
 rw[val_ptr]
 simp[Instr.loadAt,Instr.sureAddr,aLoad_var r h]
def wrA (c:Array Value) (i:Nat):List Value->Array Value
 |[]=>c
 |v::r=>wrA (c.setIfInBounds i v) (i+1) r
theorem wrA_size (l:List Value):∀ (c:Array Value) (i:Nat),(wrA c i l).size=c.size:=by
 induction l with
 |nil=>intro c i; rfl
 |cons v r ih=>intro c i; simp[wrA,ih]
theorem wrA_get (l:List Value):∀ (c:Array Value) (i j:Nat),i+l.length<=c.size->(wrA c i l)[j]?=if i<=j/\j<i+l.length then l[j-i]? else c[j]?:=by
 induction l with
 |nil=>intro c i j _; simp[wrA]; omega
 |cons v r ih =>
  intro c i j h
  simp only[zB0]at h ⊢
  rw[wrA,ih _ _ _ (by simp; omega)]
  by_cases h1:i+1<=j/\j<i+1+r.length
  ·rw[if_pos h1,if_pos (by omega)]
   obtain⟨k,rfl⟩:∃ k,j=i+1+k:=⟨j-(i+1),by omega⟩
   rw[show i+1+k-(i+1)=k from by omega,show i+1+k-i=k+1 from by omega]
   simp
  ·rw[if_neg h1,Array.getElem?_setIfInBounds]
   by_cases h2:i=j
   ·subst h2
    rw[if_pos rfl,if_pos (by omega),if_pos (by omega)]
    simp
   ·rw[if_neg h2,if_neg (by omega)]
theorem one_cell {v:Value} (h:one v=true):v.oneCell'=true:=by cases v<;>simp_all [one,Value.oneCell']
theorem run_storeCells (b off:Nat) (e:TypeId) (fz:Nat × Nat):∀ (vs:List Value) (i:Nat) (w:World) (c:Array Value),w.heap[b]?=some (.cells c e fz)->off+i+vs.length<=c.size ->
  (∀ v∈vs,one v=true)->(∀ j,off+i<=j->j<off+i+vs.length->¬(fz.1<=j/\j<fz.2)) ->
  ∃ w',(storeCells ⟨b,off,none⟩ vs i).run P w=.ok () w'/\w'.heap[b]?=some (.cells (wrA c (off+i) vs) e fz)/\w'.heap.size=w.heap.size /\
   (∀ k,k≠b->w'.heap[k]?=w.heap[k]?)/\w'.os=w.os/\w'.tape=w.tape/\w'.output=w.output:=by
 intro vs
 induction vs with
 |nil=>intro i w c hb _ _ _; exact⟨w,by simp[storeCells],by simpa[wrA]using hb,rfl,fun _ _=>rfl,rfl,rfl,rfl⟩
 |cons v r ih =>
  intro i w c hb hle hone hfz
  simp only[zB0]at hle
  have hin:off+i<c.size:=by omega
  have hcell:w.cell? ⟨b,off+i,none⟩=some c[off+i]:=by simp[World.cell?,hb,hin]
  have hfr:w.frozen? ⟨b,off+i,none⟩=false:=by
   have:=hfz (off+i) (zA8 _) (by simp only[zB0]; omega)
   simp only[World.frozen?,hb]
   simpa using this
  have hset:(w.setCell ⟨b,off+i,none⟩ v).heap[b]?=some (.cells (c.setIfInBounds (off+i) v) e fz):=by
   simp[World.setCell,Array.getElem?_modify,hb]
  obtain⟨w',h1,h2,h3,h4,h5,h6,h7⟩:=ih (i+1) (w.setCell ⟨b,off+i,none⟩ v) (c.setIfInBounds (off+i) v) hset (by simp; omega) (fun x hx=>hone x (zB5 _ hx))
   (fun j h1 h2=>hfz j (by omega) (by simp only[zB0]; omega))
  refine⟨w',?_,?_,?_,?_,h5,h6,h7⟩
  ·simp only[storeCells,Sem.run_bind,addr_add,run_store P w _ v _ (one_cell (hone v (zB9 ..))),hcell,hfr,zB7,if_false,Result.andThen_ok]
   exact h1
  ·rw[h2]; simp only[wrA]; rfl
  ·rw[h3]; simp
  ·intro k hk
   rw[h4 k hk]
   simp only[World.setCell,Array.getElem?_modify]
   rw[if_neg (fun e=>hk e.symm)]
theorem aWrite_run (r:Rel P ρ H w) {n off:Nat} {vs:List Value} {H1:AHeap} (h:aWrite H n off vs=some H1) :
  ∃ w1,St P ρ H w ρ H1 w1/\(storeCells ⟨ρ.blk n,off+ρ.sh n,none⟩ (vs.map ρ.val)).run P w=.ok () w1:=by
 simp only[aWrite,zA1,zA2]at h
 obtain⟨⟨v,e,op⟩,hc,h⟩:=h
 simp only at h
 split at h
 ·rename_i hcond
  simp only[zA4]at hcond
  obtain⟨⟨hle,hone⟩,hsc⟩:=hcond
  have hle:=ble_le hle
  simp only[Option.some.injEq]at h
  subst h
  obtain⟨c,fz,hC⟩:=r.cells hc
  obtain⟨c0,f0,hg⟩:=cellsAt_get hc
  have hsize:ρ.sh n+v.n<=c.size:=by
   rcases Nat.eq_zero_or_pos v.n with hz|hp
   ·cases op with
    |false=>have:=hC.shut rfl; omega
    |true=>have:=(hC.open_ rfl).1; omega
   ·have:=hC.lt (i:=v.n-1) (by omega); omega
  obtain⟨w1,h1,h2,h3,h4,h5,h6,h7⟩:=run_storeCells (P:=P) (ρ.blk n) (off+ρ.sh n) e fz (vs.map ρ.val) 0 w c hC.at_ (by simp; omega)
   (fun x hx=>by
    obtain⟨y,hy,rfl⟩:=zE0.1 hx
    rw[Ren.val_one]; exact zC4.1 hone y hy)
   (fun j h1 h2=>hC.thawed (by omega) (by simp only[List.length_map]at h2; omega))
  refine⟨w1,?_,h1⟩
  refine St.upd r (ne_none hg) (cellsAt_nz hc) ?_ ?_ h2 h3 h4 h5 h6 h7
  ·simp only[sco]
   intro i hi
   rw[RV.n_sets]at hi
   rw[RV.get_sets]
   split
   ·rename_i hin
    have hlt:i-off<vs.length:=by omega
    have hm:vs.getD (i-off) undef∈vs:=by simp[List.getD,hlt]
    exact scbL_iff.1 hsc _ hm
   ·exact r.cells_sc hc i hi
  ·simp only[Fits]
   refine⟨_,fz,rfl,fun i hi=>?_,fun ho=>?_,fun ho=>?_⟩
   ·rw[RV.n_sets]at hi
    rw[wrA_get _ _ _ _ (by simp; omega),RV.get_sets]
    simp only[zD3,List.length_map]
    by_cases hin:off<=i/\i<off+vs.length
    ·rw[if_pos (by omega),if_pos hin]
     have hlt:i-off<vs.length:=by omega
     rw[show i+ρ.sh n-(off+ρ.sh n)=i-off from by omega]
     simp[List.getD,hlt]
    ·rw[if_neg (by omega),if_neg hin]; exact hC.cell i hi
   ·rw[wrA_size,RV.n_sets]; exact hC.shut ho
   ·intro _; rw[wrA_size,RV.n_sets]; exact⟨⟨(hC.open_ ho).1,hC.room ho⟩,(hC.open_ ho).2⟩
 ·cases h
theorem aStore_run (r:Rel P ρ H w) {t:TypeId} {p x:Value} {H1:AHeap} (h:aStore P H t p x=some H1) :
  ∃ w1,St P ρ H w ρ H1 w1/\(Instr.storeAt t (ρ.val p) (ρ.val x)).run P w=.ok () w1:=by
 unfold aStore at h
 split at h
 ·rename_i n off
  simp only[zA1,zA2]at h
  obtain⟨sz,hsz,h⟩:=h
  split at h
  ·rename_i hlen
   obtain⟨w1,hs,hr⟩:=aWrite_run r h
   refine⟨w1,hs,?_⟩
   have hcs:(ρ.val x).cells.size=sz:=by rw[Ren.val_cells]; simpa using hlen
   rw[val_ptr]
   simp only[Instr.storeAt,Instr.sureAddr,storeVar,Sem.run_bind,Sem.run_pure,Result.andThen_ok,run_szOf hsz,hcs,ne_eq,not_true,if_false]
   rw[Ren.val_cells]
   simpa using hr
  ·cases h
 ·cases h
theorem aNew_shut (r:Rel P ρ H w) {e:TypeId} {c:List Value} {H1:AHeap} (h:aNew H e c false=some H1) :
  St P ρ H w (ρ.at H.next w.heap.size 0 0) H1 (w.alloc (.cells (c.map ρ.val).toArray e)):=by
 unfold aNew at h
 split at h
 ·rename_i hsc
  simp only[Option.some.injEq]at h
  subst h
  refine St.new r _ _ 0 0 ?_ ?_
  ·simp only[sco,RV.n_ofList,RV.get_ofList]
   intro i hi
   exact scbL_iff.1 hsc _ (by simp[List.getD,hi])
  ·simp only[Fits]
   refine⟨_,(0,0),rfl,fun i hi=>?_,fun _=>?_,fun h=>by cases h⟩
   ·simp only[RV.n_ofList]at hi
    rw[RV.get_ofList,Ren.at_sh,val_ext (Ren.at_ext ρ H.next w.heap.size 0 0) _ (scbL_iff.1 hsc _ (by simp[List.getD,hi]))]
    simp[List.getD,hi]
   ·simp
 ·cases h
theorem aNew_open (r:Rel P ρ H w) {e:TypeId} {c:List Value} {H1:AHeap} (h:aNew H e c true=some H1) (post:Array Value) (ex:Nat) (hp:post.size=ex*P.cellsOf e) (hr:c.length+ex*P.cellsOf e<=9223372036854775807*P.cellsOf e) :
  St P ρ H w (ρ.at H.next w.heap.size 0 ex) H1 (w.alloc (.cells ((c.map ρ.val).toArray++post) e)):=by
 unfold aNew at h
 split at h
 ·rename_i hsc
  simp only[Option.some.injEq]at h
  subst h
  refine St.new r _ _ 0 ex ?_ ?_
  ·simp only[sco,RV.n_ofList,RV.get_ofList]
   intro i hi
   exact scbL_iff.1 hsc _ (by simp[List.getD,hi])
  ·simp only[Fits]
   refine⟨_,(0,0),rfl,fun i hi=>?_,fun h=>(by cases h),fun _=>?_⟩
   ·simp only[RV.n_ofList]at hi
    rw[RV.get_ofList,Ren.at_sh,val_ext (Ren.at_ext ρ H.next w.heap.size 0 ex) _ (scbL_iff.1 hsc _ (by simp[List.getD,hi]))]
    rw[Array.getElem?_append_left (by simpa using hi)]
    simp[List.getD,hi]
   ·simp[hp]
    exact fun _=>hr
 ·cases h
end
def Ren.dfr (ρ:Ren) (d:Deferred):Deferred :=
 match d.target with
 |.collected r=>⟨.collected (ρ.blk r),d.args⟩
 |.fn f cap=>⟨.fn (ρ.fn f) (ρ.valA cap),ρ.valA d.args⟩
 |_=>d
def Ren.act (ρ:Ren) (a:AAct):Act:=⟨ρ.tmps a.env,a.defers.map ρ.dfr⟩
theorem tmps_get? (ρ:Ren) (e:RV) (t:Nat):(ρ.tmps e)[t]?=if t<e.n then some (ρ.val (e.get t)) else none:=by
 unfold Ren.tmps
 by_cases h:t<e.n
 ·simp[h]
 ·simp[h]
theorem tmps_getD (ρ:Ren) (e:RV) (t:Nat):(ρ.tmps e).getD t undef=if t<e.n then ρ.val (e.get t) else undef:=by
 rw[Array.getD_eq_getD_getElem?,tmps_get?]
 split<;>rfl
@[simp] theorem tmps_size (ρ:Ren) (e:RV):(ρ.tmps e).size=e.n:=by simp[Ren.tmps]
theorem blt_false {a b:Nat} (h:¬a<b):Nat.blt a b=false:=by
 cases e:Nat.blt a b with
 |false=>rfl
 |true=>exact absurd (blt_lt e) h
theorem act_tmp (ρ:Ren) (a:AAct) (t:Nat):(ρ.act a).tmps.getD t undef=ρ.val (a.tmp t):=by
 simp only[Ren.act,tmps_getD,AAct.tmp]
 by_cases h:t<a.env.n
 ·simp[h,blt_of h]
 ·simp[h,blt_false h]
theorem tmps_set (ρ:Ren) (e:RV) (d:Nat) (v:Value):(ρ.tmps e).setIfInBounds d (ρ.val v)=ρ.tmps (if Nat.blt d e.n then e.set d v else e):=by
 apply Array.ext_getElem?
 intro i
 rw[Array.getElem?_setIfInBounds,tmps_get?,tmps_get?,tmps_size]
 by_cases h:d<e.n
 ·rw[blt_of h,if_pos rfl,RV.n_set,RV.get_set]
  by_cases e1:d=i
  ·subst e1; simp[h]
  ·have e2:¬i=d:=fun h=>e1 h.symm
   simp[e1,e2]
 ·rw[blt_false h]
  by_cases e1:d=i
  ·subst e1; simp[h]
  ·rw[if_neg e1]; simp
theorem act_put (ρ:Ren) (a:AAct) (dst:Option Tmp) (v:Value):(ρ.act a).put dst (ρ.val v)=ρ.act (a.put dst v):=by
 cases dst with
 |none=>rfl
 |some d =>
  simp only[Act.put,AAct.put_eq,Ren.act,tmps_set]
  split<;>rfl
section
variable {P : Program} {ρ : Ren} {H : AHeap} {w : World}
theorem aeval_run (r:Rel P ρ H w) {a:AAct} {x:Operand} {v:Value} (h:aeval P a x=some v):(ρ.act a).eval x=ρ.val v:=by
 cases x with
 |tmp t=>simp only[aeval,Option.some.injEq]at h; subst h; exact act_tmp ρ a t
 |const c =>
  simp only[aeval]at h
  split at h
  ·rename_i ha
   simp only[Option.some.injEq]at h
   subst h
   rw[val_af ρ _ ha]; rfl
  ·cases h
 |global g =>
  simp only[aeval]at h
  split at h
  ·rename_i hb
   simp only[Option.some.injEq]at h
   subst h
   obtain⟨h1,h2⟩:=r.glob.2 g (blt_lt hb)
   simp[Act.eval,Ren.val,h1,h2]
  ·cases h
 |func f=>simp only[aeval,Option.some.injEq]at h; subst h; simp[Act.eval,Ren.val,Ren.fn,Ren.valA,Ren.valL]
theorem aevals_run (r:Rel P ρ H w) {a:AAct}:∀ {xs:List Operand} {vs:List Value},aevals P a xs=some vs->xs.map (ρ.act a).eval=vs.map ρ.val
 |[],vs,h=>by simp only[aevals,Option.some.injEq]at h; subst h; rfl
 |x::xs,vs,h=>by
  simp only[aevals,zA1,zA2,Option.some.injEq]at h
  obtain⟨v,hv,us,hu,rfl⟩:=h
  simp[aeval_run r hv,aevals_run r hu]
theorem pairs_run (r:Rel P ρ H w) {a:AAct}:∀ {xs:List (Nat × Operand)} {vs:List (Nat × Value)},pairs P a xs=some vs->xs.map (fun p=>(p.1,(ρ.act a).eval p.2))=vs.map (fun p=>(p.1,ρ.val p.2))
 |[],vs,h=>by simp only[pairs,Option.some.injEq]at h; subst h; rfl
 |(i,x)::xs,vs,h=>by
  simp only[pairs,zA1,zA2,Option.some.injEq]at h
  obtain⟨v,hv,us,hu,rfl⟩:=h
  simp[aeval_run r hv,pairs_run r hu]
theorem optEval_run (r:Rel P ρ H w) {a:AAct} {x:Option Operand} {v:Option Value} (h:optEval P a x=some v):x.map (ρ.act a).eval=v.map ρ.val:=by
 cases x with
 |none=>simp only[optEval,Option.some.injEq]at h; subst h; rfl
 |some x =>
  simp only[optEval,zA6]at h
  obtain⟨u,hu,rfl⟩:=h
  simp[aeval_run r hu]
theorem aPart_run {t:TypeId} {cs:List Value} {off:Nat} {x:Value} (h:aPart P t cs off=some x):(part t (cs.map ρ.val).toArray off).run P w=.ok (ρ.val x) w:=by
 simp only[aPart,zA1,zA2]at h
 obtain⟨b,hb,h⟩:=h
 cases b with
 |true =>
  simp only[zA2,Option.some.injEq]at h
  obtain⟨sz,hsz,rfl⟩:=h
  simp only[part,Sem.run_bind,run_aggT hb,Result.andThen_ok,if_true,run_szOf hsz,Sem.run_pure,Ren.val,Ren.valA,Ren.valL_eq]
  congr 2
  apply Array.ext'
  simp only[Array.toList_extract,List.extract_eq_take_drop,List.map_take,List.map_drop]
  congr 1; omega
 |false =>
  simp only at h
  simp[part,run_aggT hb,h]
theorem aField_run {t:TypeId} {x v:Value} {f:Nat} (h:aField P t x f=some v):(Instr.field t (ρ.val x) f).run P w=.ok (ρ.val v) w:=by
 unfold aField at h
 split at h
 ·rename_i fields cs hu
  split at h
  ·rename_i fd hfd
   have hfd':fields[f]?=some fd:=by simpa using hfd
   have hp:=aPart_run (w:=w) (ρ:=ρ) h
   have hcs:ρ.val (.agg cs)=.agg (cs.toList.map ρ.val).toArray:=by rw[Ren.val,Ren.valA_eq]; congr 1; apply Array.ext'; simp
   rw[hcs]
   simp[Instr.field,run_und hu,hfd',asAgg,hp]
  ·cases h
 ·cases h
theorem add_val (ρ:Ren) (a:Addr) (k:Nat):ρ.val (.pointer (some (a.add k)))=.pointer (some ((Addr.mk (ρ.blk a.block) (a.off+ρ.sh a.block) a.spot).add k)):=by
 unfold Addr.add
 by_cases h:k=0
 ·simp[h,Ren.val]
 ·simp only[h,if_false,Ren.val]
  congr 3; omega
theorem aFieldAddr_run {t:TypeId} {x v:Value} {f:Nat} (h:aFieldAddr P t x f=some v):(Instr.fieldAt t (ρ.val x) f).run P w=.ok (ρ.val v) w:=by
 unfold aFieldAddr at h
 split at h
 ·rename_i fields a hu
  split at h
  ·rename_i fd hfd
   have hfd':fields[f]?=some fd:=by simpa using hfd
   split at h
   ·cases h
   ·rename_i k hne hk
    simp only[Option.some.injEq]at h
    subst h
    have hk0:k≠0:=fun e=>hne e
    rw[add_val]
    simp only[Ren.val,Instr.fieldAt,Sem.run_bind,run_und hu,Result.andThen_ok,hfd',Instr.sureAddr,Sem.run_pure,fieldPlace,run_szOf hk,hk0,if_false]
   ·cases h
  ·cases h
 ·cases h
theorem ba_get (s:ByteArray) (n:Nat):s[n]?=s.data.toList[n]?:=by
 by_cases h:n<s.size
 ·rw[getElem?_pos s n h,Array.getElem?_toList]
  exact (Array.getElem?_eq_getElem h).symm
 ·rw[getElem?_neg s n h,Array.getElem?_toList]
  exact (Array.getElem?_eq_none (Nat.not_lt.1 h)).symm
theorem aIndex_run {t:TypeId} {x i v:Value} (h:aIndex P t x i=some v):(Instr.index t (ρ.val x) (ρ.val i)).run P w=.ok (ρ.val v) w:=by
 unfold aIndex at h
 split at h
 ·rename_i len elem cs k n hu
  simp only[zA1,zA2]at h
  obtain⟨sz,hsz,h⟩:=h
  split at h
  ·rename_i hin
   have hp:=aPart_run (w:=w) (ρ:=ρ) h
   have hcs:ρ.val (.agg cs)=.agg (cs.toList.map ρ.val).toArray:=by rw[Ren.val,Ren.valA_eq]; congr 1; apply Array.ext'; simp
   rw[hcs]
   simp[Instr.index,asIntOf,Ren.val,run_und hu,hin,run_szOf hsz,hp]
  ·cases h
 ·rename_i s k n hu
  split at h
  ·rename_i hn
   simp only[zA6]at h
   obtain⟨b,hb,rfl⟩:=h
   have hb':s[n.toNat]?=some b:=by rw[ba_get]; exact hb
   simp[Instr.index,asIntOf,Ren.val,run_und hu,hn,hb']
  ·cases h
 ·cases h
theorem aIndexAddr_run {t:TypeId} {x i v:Value} (h:aIndexAddr P t x i=some v):(Instr.indexAt t (ρ.val x) (ρ.val i)).run P w=.ok (ρ.val v) w:=by
 unfold aIndexAddr at h
 split at h
 ·rename_i len elem a k n hu
  simp only[zA1,zA2]at h
  obtain⟨sz,hsz,h⟩:=h
  split at h
  ·rename_i hin
   simp only[Option.some.injEq]at h
   subst h
   rw[add_val]
   simp[Instr.indexAt,asIntOf,Ren.val,run_und hu,hin,run_szOf hsz,Instr.sureAddr]
  ·cases h
 ·rename_i elem a len cap k n hu
  simp only[zA1,zA2]at h
  obtain⟨sz,hsz,h⟩:=h
  split at h
  ·rename_i hin
   simp only[Option.some.injEq]at h
   subst h
   have ho:ρ.offS a len cap=a.off:=Ren.offS_of (.inr (by omega))
   have hos:ρ.spS a len cap=none:=Ren.spS_of (.inr (by omega))
   simp[Instr.indexAt,asIntOf,Ren.val,ho,hos,run_und hu,hin,run_szOf hsz,addr_add]
   omega
  ·cases h
 ·cases h
theorem bound_none {d k:Nat} (h:bound d none=some k):k=d:=by simpa[bound]using h.symm
theorem bound_some {d k:Nat} {v:Value} (h:bound d (some v)=some k):∃ kd,v=.int kd (k:Int):=by
 unfold bound at h
 split at h
 ·rename_i heq; cases heq
 ·rename_i kd i heq
  split at h
  ·rename_i h0
   cases heq
   simp only[Option.some.injEq]at h
   exact⟨kd,by rw[<-h,Int.toNat_of_nonneg h0]⟩
  ·cases h
 ·cases h
theorem run_sliceBound {kd:IntKind} {k y:Nat} (code:BoundsCode) (h:k<=y):(Instr.sliceBound (.int kd k) y code).run P w=.ok k w:=by
 simp[Instr.sliceBound,asIntOf,h]
theorem run_sliceBounds (isS:Bool) {len cap l h:Nat} {lo hi:Option Value} (hl:bound 0 lo=some l) (hh:bound len hi=some h) (h1:hi=none\/h<=cap) (h2:l<=h) :
  (Instr.sliceBounds isS len cap (lo.map ρ.val) (hi.map ρ.val) none).run P w=.ok (l,h,cap) w:=by
 cases hi with
 |none =>
  have:=bound_none hh
  subst this
  cases lo with
  |none=>have:=bound_none hl; subst this; simp[Instr.sliceBounds]
  |some v=>obtain⟨kd,rfl⟩:=bound_some hl; simp[Instr.sliceBounds,Ren.val,run_sliceBound _ h2]
 |some u =>
  obtain⟨kd,rfl⟩:=bound_some hh
  have hc:h<=cap:=by simpa using h1
  cases lo with
  |none=>have:=bound_none hl; subst this; simp[Instr.sliceBounds,Ren.val,run_sliceBound _ hc]
  |some v=>obtain⟨kd,rfl⟩:=bound_some hl; simp[Instr.sliceBounds,Ren.val,run_sliceBound _ h2,run_sliceBound _ hc]
theorem run_sliceBounds3 {len cap l h m:Nat} {kd:IntKind} {lo hi:Option Value} (hl:bound 0 lo=some l) (hh:bound len hi=some h) (hhi:hi≠none) (h0:m<=cap) (h1:h<=m) (h2:l<=h) :
  (Instr.sliceBounds true len cap (lo.map ρ.val) (hi.map ρ.val) (some (.int kd m))).run P w=.ok (l,h,m) w:=by
 cases hi with
 |none=>exact absurd rfl hhi
 |some u =>
  obtain⟨kd,rfl⟩:=bound_some hh
  cases lo with
  |none=>have:=bound_none hl; subst this; simp[Instr.sliceBounds,Ren.val,run_sliceBound _ h0,run_sliceBound _ h1]
  |some v=>obtain⟨kd,rfl⟩:=bound_some hl; simp[Instr.sliceBounds,Ren.val,run_sliceBound _ h0,run_sliceBound _ h1,run_sliceBound _ h2]
def VOk (P:Program) (ρ:Ren) (H:AHeap) (w:World) (s:Sem Value) (v:Value) (H1:AHeap):Prop :=
 ∃ ρ1 w1,St P ρ H w ρ1 H1 w1/\s.run P w=.ok (ρ1.val v) w1
theorem VOk.same (r:Rel P ρ H w) {s:Sem Value} {v:Value} (h:s.run P w=.ok (ρ.val v) w):VOk P ρ H w s v H:=⟨ρ,w,St.refl r,h⟩
theorem isOpen_cells {n:Nat} {b:Bool} (h:isOpen H n=some b):∃ v e,cellsR H n=some (v,e,b):=by
 unfold isOpen at h
 split at h
 ·rename_i c e f o v hg
  simp only[Option.some.injEq]at h
  subst h
  exact⟨v,e,by simp[cellsR,hg]⟩
 ·cases h
theorem exact_cap (r:Rel P ρ H w) {a:Addr} {len cap:Nat} (h:exactAt H a=some true):ρ.val (.slice (some a) len cap)=.slice (some ⟨ρ.blk a.block,a.off+ρ.sh a.block,none⟩) len cap:=by
 unfold exactAt at h
 split at h
 ·rename_i hs; obtain⟨ab,ao,asp⟩:=a; simp only at hs; subst hs; simp[Ren.val]
 ·cases h
 ·rename_i hs
  simp only[zA6]at h
  obtain⟨b,hb,hb'⟩:=h
  have hbf:b=false:=by cases b<;>simp_all
  subst hbf
  obtain⟨v,e,hc⟩:=isOpen_cells hb
  obtain⟨c,fz,hC⟩:=r.rcells hc
  obtain⟨ab,ao,asp⟩:=a; simp only at hs; subst hs
  have:=(hC.shut rfl).2.2.1
  simp only at this
  simp[Ren.val,this]
theorem exactAp_true {a:Addr} {len cap:Nat} (h:exactAp H a len cap=some true):exactAt H a=some true:=by
 unfold exactAp at h
 split at h
 ·split at h
  ·split at h<;>cases h
  ·cases h
 ·exact h
theorem inexact {a:Addr} (h:exactAt H a=some false):a.spot=none/\isOpen H a.block=some true:=by
 unfold exactAt at h
 split at h
 ·cases h
 ·cases h
 ·rename_i hs
  simp only[zA6]at h
  obtain⟨b,hb,hb'⟩:=h
  have:b=true:=by cases b<;>simp_all
  subst this
  exact⟨hs,hb⟩
theorem inexactAp {a:Addr} {len cap:Nat} (h:exactAp H a len cap=some false):isOpen H a.block=some true/\(a.spot=none\/∃ k,a.spot=some (k+1)/\len=0/\cap=0):=by
 unfold exactAp at h
 split at h
 ·rename_i k hk
  split at h
  ·rename_i hz
   have hz:len+cap=0:=zD9 hz
   split at h
   ·rename_i ho
    exact⟨ho,.inr ⟨k,hk,by omega,by omega⟩⟩
   ·cases h
  ·cases h
 ·exact⟨(inexact h).2,.inl (inexact h).1⟩
theorem optAdd (b o m l sz:Nat):(if m=l then some (Addr.mk b o none) else (some (Addr.mk b o none)).map (·.add (l*sz)))=some ⟨b,if m=l then o else o+l*sz,none⟩:=by
 by_cases h:m=l
 ·simp[h]
 ·simp[h,addr_add]
theorem ite_add (c:Prop) [Decidable c] (a b s:Nat):(if c then a+s else a+s+b)=(if c then a else a+b)+s:=by split<;>omega
theorem aSlice3_run (r:Rel P ρ H w) {t e:TypeId} {sz:Nat} {a:Option Addr} {len cap m:Nat} {kd:IntKind} {lo hi:Option Value} {v:Value} {H1:AHeap}
  (hu:P.underlying t=some (.slice e)) (hsz:szOf P e=some sz) (hhi:hi≠none) (h:aSlice3 H sz a len cap lo hi m=some (v,H1)) :
  VOk P ρ H w (Instr.slice t (ρ.val (.slice a len cap)) (lo.map ρ.val) (hi.map ρ.val) (some (.int kd m))) v H1:=by
 simp only[aSlice3,zA1,zA2]at h
 obtain⟨l,hl,hh,hhh,h⟩:=h
 split at h
 ·rename_i hc
  obtain⟨c1,c2,c3,c4⟩:=hc
  cases a with
  |none =>
   simp only[Option.some.injEq,Prod.mk.injEq]at h
   obtain⟨rfl,rfl⟩:=h
   refine VOk.same r ?_
   simp only[Ren.val,Instr.slice,Sem.run_bind,run_und hu,Result.andThen_ok,run_sliceBounds3 hl hhh hhi c1 c2 c3,run_szOf hsz,Sem.run_pure,Option.map_none,ite_self]
  |some a =>
   simp only[Option.some.injEq,Prod.mk.injEq]at h
   obtain⟨rfl,rfl⟩:=h
   refine VOk.same r ?_
   have hcap:m<=ρ.capS a len cap:=zB8 c1 Ren.cap_le
   simp only[Ren.val,Instr.slice,Sem.run_bind,run_und hu,Result.andThen_ok,run_sliceBounds3 hl hhh hhi hcap c2 c3,run_szOf hsz,Sem.run_pure]
   simp only[Ren.offS_of (.inl (c4 a rfl)),Ren.spS_of (.inl (c4 a rfl)),Ren.spS_zero,Ren.offS_zero,Ren.capS_zero,optAdd,ite_add]
 ·cases h
theorem aSlice2_run (r:Rel P ρ H w) {t e:TypeId} {sz:Nat} {a:Option Addr} {len cap:Nat} {lo hi:Option Value} {v:Value} {H1:AHeap}
  (hu:P.underlying t=some (.slice e)) (hsz:szOf P e=some sz) (h:aSlice2 H sz a len cap lo hi=some (v,H1)) :
  VOk P ρ H w (Instr.slice t (ρ.val (.slice a len cap)) (lo.map ρ.val) (hi.map ρ.val) none) v H1:=by
 simp only[aSlice2,zA1,zA2]at h
 obtain⟨l,hl,hh,hhh,h⟩:=h
 split at h
 ·rename_i hc
  obtain⟨c1,c2⟩:=hc
  cases a with
  |none =>
   simp only[Option.some.injEq,Prod.mk.injEq]at h
   obtain⟨rfl,rfl⟩:=h
   refine VOk.same r ?_
   simp only[Ren.val,Instr.slice,Sem.run_bind,run_und hu,Result.andThen_ok,run_sliceBounds true hl hhh (.inr c1) c2,run_szOf hsz,Sem.run_pure,Option.map_none,ite_self]
  |some a =>
   obtain⟨ob,hb⟩:=Go.Ax.exq (exactAt H a)
   simp only[hb]at h
   cases ob with
   |none =>
    simp only at h
    split at h
    ·rename_i hc
     obtain⟨rfl,rfl,_⟩:=hc
     simp only[Option.some.injEq,Prod.mk.injEq]at h
     obtain⟨rfl,rfl⟩:=h
     refine VOk.same r ?_
     have hcap:=Ren.cap_le (ρ:=ρ) (a:=a) (len:=hh) (cap:=cap)
     simp only[Ren.val,Instr.slice,Sem.run_bind,run_und hu,Result.andThen_ok,run_sliceBounds (cap:=ρ.capS a hh cap) true hl hhh (.inr (by omega)) c2,run_szOf hsz,Sem.run_pure]
     simp[Addr.add]
    ·cases h
   |some b =>
    cases b with
    |true =>
    simp only[Option.some.injEq,Prod.mk.injEq]at h
    obtain⟨rfl,rfl⟩:=h
    refine VOk.same r ?_
    rw[exact_cap r hb]
    simp only[Instr.slice,Sem.run_bind,run_und hu,Result.andThen_ok,run_sliceBounds true hl hhh (.inr c1) c2,run_szOf hsz,Sem.run_pure,optAdd,Ren.val,Ren.spS_zero,Ren.offS_zero,Ren.capS_zero,ite_add]
    |false =>
    obtain⟨hs,ho⟩:=inexact hb
    have hval:ρ.val (.slice (some a) len cap)=.slice (some ⟨ρ.blk a.block,a.off+ρ.sh a.block,none⟩) len (cap+ρ.ex a.block):=by
     obtain⟨ab,ao,asp⟩:=a; simp only at hs; subst hs; simp[Ren.val]
    have hrun:(Instr.slice t (ρ.val (.slice (some a) len cap)) (lo.map ρ.val) (hi.map ρ.val) none).run P w =
      .ok (.slice (some ⟨ρ.blk a.block,if cap+ρ.ex a.block=l then a.off+ρ.sh a.block else a.off+ρ.sh a.block+l*sz,none⟩) (hh-l) (cap+ρ.ex a.block-l)) w:=by
     rw[hval]
     simp only[Instr.slice,Sem.run_bind,run_und hu,Result.andThen_ok,run_sliceBounds (cap:=cap+ρ.ex a.block) true hl hhh (.inr (by omega)) c2,run_szOf hsz,Sem.run_pure,optAdd]
    simp only at h
    split at h
    ·rename_i hl0
     simp only[Option.some.injEq,Prod.mk.injEq]at h
     obtain⟨rfl,rfl⟩:=h
     refine VOk.same r ?_
     rw[hrun]
     subst hl0
     simp[Ren.val]
    ·split at h
     ·rename_i hl0 hlc
      simp only[Option.some.injEq,Prod.mk.injEq]at h
      obtain⟨rfl,rfl⟩:=h
      refine VOk.same r ?_
      rw[hrun,if_neg (by omega)]
      simp only[Ren.val,Ren.offS_none,Ren.spS_none,Ren.capS_none]
      rw[show a.off+ρ.sh a.block+l*sz=a.off+l*sz+ρ.sh a.block from by omega,show cap+ρ.ex a.block-l=cap-l+ρ.ex a.block from by omega]
     ·rename_i hl0 hlc
      have hle:l=cap:=by omega
      have hhl:hh=l:=by omega
      split at h
      ·cases h
      rename_i hsz0
      simp only[Option.some.injEq,Prod.mk.injEq]at h
      obtain⟨rfl,rfl⟩:=h
      have hso:ρ.spS ⟨a.block,a.off+l*sz,some (a.off+1)⟩ 0 0=none:=Ren.spS_off (by
       have:=Nat.mul_pos (Nat.pos_of_ne_zero hl0) (Nat.pos_of_ne_zero hsz0)
       show a.off+l*sz≠0
       omega)
      refine VOk.same r ?_
      rw[hrun]
      subst hhl
      subst hle
      simp only[Ren.val,hso,Ren.offS,Ren.capS,true_and,if_true,Nat.sub_self,and_self]
      by_cases h0:ρ.ex a.block=0
      ·simp[h0]
      ·simp only[h0,if_false]
       rw[if_neg (by omega)]
       rw[show hh+ρ.ex a.block-hh=ρ.ex a.block from by omega,show a.off+ρ.sh a.block+hh*sz=a.off+hh*sz+ρ.sh a.block from by omega]
 ·cases h
end
section
variable {P : Program} {ρ : Ren} {H : AHeap} {w : World}
theorem aSlice_run (r:Rel P ρ H w) {t:TypeId} {x:Value} {lo hi mx:Option Value} {v:Value} {H1:AHeap} (h:aSlice P H t x lo hi mx=some (v,H1)) :
  VOk P ρ H w (Instr.sliceAt t (ρ.val x) (lo.map ρ.val) (hi.map ρ.val) (mx.map ρ.val)) v H1:=by
 unfold aSlice at h
 split at h
 ·rename_i s hu
  simp only[zA1,zA2]at h
  obtain⟨l,hl,hh,hhh,h⟩:=h
  split at h
  ·rename_i hc
   simp only[Option.some.injEq,Prod.mk.injEq]at h
   obtain⟨rfl,rfl⟩:=h
   refine VOk.same r ?_
   simp only[Instr.sliceAt,Instr.slice,Sem.run_bind,run_und hu,Result.andThen_ok,Ren.val,Option.map_none,Option.isSome_none,zB7,if_false,run_sliceBounds false hl hhh (.inr hc.1) hc.2,Sem.run_pure]
  ·cases h
 ·rename_i e a len cap hu
  simp only[zA1,zA2]at h
  obtain⟨sz,hsz,h⟩:=h
  obtain⟨ρ1,w1,hst,hr⟩:=aSlice2_run r hu hsz h
  refine⟨ρ1,w1,hst,?_⟩
  rw[<-hr]
  simp only[Instr.sliceAt,Sem.run_bind,run_und hu,Result.andThen_ok,Option.map_none]
 ·rename_i e a len cap kd m hu
  simp only[zA1]at h
  split at h
  ·rename_i hm
   simp only[zA2]at h
   obtain⟨sz,hsz,h⟩:=h
   have hhi:hi≠none:=by intro e; rw[e]at hm; simp at hm
   obtain⟨ρ1,w1,hst,hr⟩:=aSlice3_run (kd:=kd) r hu hsz hhi h
   refine⟨ρ1,w1,hst,?_⟩
   rw[<-hr]
   simp only[Instr.sliceAt,Sem.run_bind,run_und hu,Result.andThen_ok,zA5,Ren.val,Int.toNat_of_nonneg hm.1]
  ·cases h
 ·rename_i n e a hu
  simp only[zA1,zA2]at h
  obtain⟨l,hl,hh,hhh,sz,hsz,h⟩:=h
  split at h
  ·rename_i hc
   obtain⟨c1,c2,c3⟩:=hc
   simp only[Option.some.injEq,Prod.mk.injEq]at h
   obtain⟨rfl,rfl⟩:=h
   refine VOk.same r ?_
   obtain⟨b,o,s⟩:=a
   simp only at c3
   subst c3
   simp only[Instr.sliceAt,Sem.run_bind,run_und hu,Result.andThen_ok,Ren.val,Instr.sureAddr,Sem.run_pure,Option.map_none,run_sliceBounds false hl hhh (.inr c1) c2,run_szOf hsz,addr_add]
   congr 4
   split<;>simp<;>omega
  ·cases h
 ·cases h
theorem zipIdx_fold_map (ρ:Ren) (off:Nat):∀ (l:List Value) (k:Nat) (cells:Array Value),
  ((l.map ρ.val).zipIdx k).foldl (fun cs (x:Value × Nat)=>cs.setIfInBounds (off+x.2) x.1) (cells.map ρ.val) =
   ((l.zipIdx k).foldl (fun cs (x:Value × Nat)=>cs.setIfInBounds (off+x.2) x.1) cells).map ρ.val
 |[],k,cells=>by simp
 |v::l,k,cells=>by
  simp only[zB3,List.zipIdx_cons,List.foldl_cons]
  have:(cells.map ρ.val).setIfInBounds (off+k) (ρ.val v)=(cells.setIfInBounds (off+k) v).map ρ.val:=by simp
  rw[this,zipIdx_fold_map ρ off l (k+1)]
theorem fill_map (ρ:Ren) (place:Nat->Option (Nat × Nat)):∀ (parts:List (Nat × Value)) (cells:Array Value),
  Instr.fill place (cells.map ρ.val) (parts.map fun p=>(p.1,ρ.val p.2))=(Instr.fill place cells parts).map fun c=>c.map ρ.val
 |[],cells=>by simp[Instr.fill]
 |(i,v)::parts,cells=>by
  simp only[zB3,Instr.fill]
  cases hp:place i with
  |none=>rfl
  |some os =>
   obtain⟨off,size⟩:=os
   simp only[Ren.val_cells,Array.size_map]
   split
   ·rfl
   ·have hz:=zipIdx_fold_map ρ off v.cells.toList 0 cells
    have h1:(v.cells.map ρ.val).zipIdx.foldl (fun cs (x:Value × Nat)=>cs.setIfInBounds (off+x.2) x.1) (cells.map ρ.val) =
      (v.cells.zipIdx.foldl (fun cs (x:Value × Nat)=>cs.setIfInBounds (off+x.2) x.1) cells).map ρ.val:=by
     rw[<-Array.foldl_toList,<-Array.foldl_toList]
     simpa using hz
    have h2:=fill_map ρ place parts (v.cells.zipIdx.foldl (fun cs (x:Value × Nat)=>cs.setIfInBounds (off+x.2) x.1) cells)
    rw[<-h1]at h2
    exact h2
theorem af_cells (ρ:Ren) {z:Value} (h:af z=true):z.cells.map ρ.val=z.cells:=by rw[<-Ren.val_cells,val_af ρ z h]
theorem aBuild_run {t:TypeId} {parts:List (Nat × Value)} {v:Value} (h:aBuild P t parts=some v) :
  (Instr.build t (parts.map fun p=>(p.1,ρ.val p.2)).toArray).run P w=.ok (ρ.val v) w:=by
 simp only[aBuild,zA1,zA2]at h
 obtain⟨z,hz,h⟩:=h
 obtain⟨hzr,hza⟩:=run_zeroOf (w:=w) hz
 split at h
 ·rename_i fields hu
  simp only[zA2,zA6]at h
  obtain⟨places,hp,cells,hc,rfl⟩:=h
  have hf:=fill_map ρ (places[·]?) parts z.cells
  rw[af_cells ρ hza,hc]at hf
  simp only[Instr.build,Sem.run_bind,hzr,Result.andThen_ok,run_und hu,peval_run _ hp,hf,zA5,Sem.run_pure,Ren.val,Ren.valA_eq]
 ·rename_i len elem hu
  simp only[zA2,zA6]at h
  obtain⟨sz,hsz,cells,hc,rfl⟩:=h
  have hf:=fill_map ρ (fun i=>some (i*sz,sz)) parts z.cells
  rw[af_cells ρ hza,hc]at hf
  simp only[Instr.build,Sem.run_bind,hzr,Result.andThen_ok,run_und hu,run_szOf hsz,hf,zA5,Sem.run_pure,Ren.val,Ren.valA_eq]
 ·cases h
theorem zerosL_len (z:List Value) (n:Nat):(zerosL z n).length=n*z.length:=by
 induction n with
 |zero=>simp[zerosL]
 |succ n ih=>simp[zerosL,ih,Nat.succ_mul]; omega
theorem zerosL_get (z:List Value):∀ (n i:Nat),i<n*z.length->(zerosL z n)[i]?=z[i % z.length]?
 |0,i,h=>by simp at h
 |n+1,i,h=>by
  have hz:0<z.length:=by
   rcases Nat.eq_zero_or_pos z.length with h0|h0
   ·rw[h0]at h; simp at h
   ·exact h0
  by_cases hi:i<z.length
  ·rw[zerosL,List.getElem?_append_left hi,Nat.mod_eq_of_lt hi]
  ·rw[zerosL,List.getElem?_append_right (by omega),zerosL_get z n (i-z.length) (by rw[Nat.succ_mul]at h; omega)]
   rw[<-Nat.mod_eq_sub_mod (by omega)]
theorem zeros_range (z:Array Value) (n:Nat):(Array.range (n*z.size)).map (fun i=>z[i % z.size]!)=(zerosL z.toList n).toArray:=by
 apply Array.ext_getElem?
 intro i
 by_cases h:i<n*z.size
 ·have hz:0<z.size:=by
   rcases Nat.eq_zero_or_pos z.size with h0|h0
   ·rw[h0]at h; simp at h
   ·exact h0
  have hm:i % z.size<z.size:=Nat.mod_lt _ hz
  have:=zerosL_get z.toList n i (by simpa using h)
  simp only[List.getElem?_toArray,this]
  simp[h,hm]
 ·rw[Array.getElem?_eq_none (by simpa using h),Array.getElem?_eq_none (by simpa[zerosL_len]using h)]
theorem zerosL_map (ρ:Ren) (z:List Value) (h:z.map ρ.val=z) (n:Nat):(zerosL z n).map ρ.val=zerosL z n:=by
 induction n with
 |zero=>rfl
 |succ n ih=>simp[zerosL,ih,h]
theorem af_list (ρ:Ren) {z:Value} (h:af z=true):z.cells.toList.map ρ.val=z.cells.toList:=by
 have:=congrArg Array.toList (af_cells ρ h)
 simpa using this
theorem val_new (ρ:Ren) (n b s e:Nat):(ρ.at n b s e).val (.pointer (some ⟨n,0,none⟩))=.pointer (some ⟨b,s,none⟩):=by simp[val_ptr]
theorem aBuildSlice_run (r:Rel P ρ H w) {t:TypeId} {len:Nat} {parts:List (Nat × Value)} {v:Value} {H1:AHeap} (h:aBuildSlice P H t len parts=some (v,H1)) :
  VOk P ρ H w (Instr.buildSlice t len (parts.map fun p=>(p.1,ρ.val p.2)).toArray) v H1:=by
 simp only[aBuildSlice,zA1,zA2]at h
 obtain⟨d,hu,h⟩:=h
 split at h
 ·rename_i e
  simp only[zA2]at h
  obtain⟨sz,hsz,z,hz,h⟩:=h
  split at h
  ·rename_i hc
   obtain⟨c1,c2⟩:=hc
   simp only[zA2,Option.some.injEq,Prod.mk.injEq]at h
   obtain⟨cells,hf0,g,hg,rfl,rfl⟩:=h
   obtain⟨hzr,hza⟩:=run_zeroOf (w:=w) hz
   have hf:=fill_map ρ (fun i=>some (i*sz,sz)) parts (zerosL z.cells.toList len).toArray
   rw[hf0]at hf
   have hzm:(zerosL z.cells.toList len).toArray.map ρ.val=(zerosL z.cells.toList len).toArray:=by
    simp[zerosL_map ρ _ (af_list ρ hza) len]
   rw[hzm]at hf
   refine⟨_,_,aNew_shut r hg,?_⟩
   have hbig:¬(len*sz>2 ^ 24):=by omega
   have hm:Array.map ρ.val cells=(cells.toList.map ρ.val).toArray:=by apply Array.ext'; simp
   have h00:Array.range 0=#[]:=rfl
   by_cases h0:len*sz=0
   ·have hnil:(zerosL z.cells.toList len)=[]:=zD4 (by rw[zerosL_len,c2]; exact h0)
    rw[hnil]at hf
    simp only[Instr.buildSlice,Sem.run_bind,run_und hu,Result.andThen_ok,run_szOf hsz,h0,if_true]
    simp[hf,newRow,Ren.val,h00,hm]
   ·have hz2:(Array.range (len*sz)).map (fun i=>z.cells[i % z.cells.size]!)=(zerosL z.cells.toList len).toArray:=by
     have:sz=z.cells.size:=by simpa using c2.symm
     rw[this]; exact zeros_range _ _
    simp only[Instr.buildSlice,Sem.run_bind,run_und hu,Result.andThen_ok,run_szOf hsz,hbig,if_false,Sem.run_pure,h0,hzr,hz2,hf,zA5]
    simp[newRow,Ren.val,hm]
  ·cases h
 ·cases h
end
section
variable {P : Program} {ρ : Ren} {H : AHeap} {w : World}
theorem wrap_small {n:Int} (h0:0<=n) (h1:n<=140737488351232):IntKind.i64.wrap n=n:=by
 have:n % (2 ^ IntKind.i64.bits:Int)=n:=by
  have e:(2 ^ IntKind.i64.bits:Int)=18446744073709551616:=by decide
  rw[e]; omega
 have h2:(2 ^ (IntKind.i64.bits-1):Int)=9223372036854775808:=by decide
 simp only[IntKind.wrap,this,h2]
 split
 ·rename_i hc
  simp only[zA4,decide_eq_true_eq]at hc
  omega
 ·rfl
theorem small_le {n b:Nat} (h:small n b=true):n*b<=140737488351232/\n<=140737488351232:=by
 simp only[small,zA4]at h
 exact⟨ble_le h.1,ble_le h.2⟩
theorem aMakeSlice_run (r:Rel P ρ H w) {t:TypeId} {l c:Value} {v:Value} {H1:AHeap} (h:aMakeSlice P H t l c=some (v,H1)) :
  VOk P ρ H w (Instr.makeSlice t (ρ.val l) (ρ.val c)) v H1:=by
 unfold aMakeSlice at h
 split at h
 ·rename_i l c
  simp only[zA1,zA2]at h
  obtain⟨d,hu,h⟩:=h
  split at h
  ·rename_i e
   simp only[zA2]at h
   obtain⟨by1,hby,sz,hsz,z,hz,h⟩:=h
   split at h
   ·rename_i hc
    obtain⟨c1,c2,c3,c4⟩:=hc
    simp only[zA2,Option.some.injEq,Prod.mk.injEq]at h
    obtain⟨g,hg,rfl,rfl⟩:=h
    obtain⟨hzr,hza⟩:=run_zeroOf (w:=w) hz
    obtain⟨inf,hinf,hib⟩:=bytesOf_info hby
    obtain⟨s1,s2⟩:=small_le c3
    have wl:IntKind.i64.wrap l=l:=wrap_small c1 (by omega)
    have wc:IntKind.i64.wrap c=c:=wrap_small (by omega) (by omega)
    have hbig:¬((by1:Int)*c>2 ^ 48):=by
     have:((by1:Int)*c)=((c.toNat*by1:Nat):Int):=by
      rw[Int.natCast_mul,Int.toNat_of_nonneg (by omega),Int.mul_comm]
     rw[this]; omega
    refine⟨_,_,aNew_shut r hg,?_⟩
    have t1:(decide (c<0)||decide ((by1:Int)*c>2 ^ 48))=false:=by simp; omega
    have t2:¬(((decide (c<0)||decide ((by1:Int)*c>2 ^ 48))||decide (l<0)||decide (l>c))=true):=by rw[t1]; simp; omega
    by_cases h0:c.toNat*sz=0
    ·have hnil:(zerosL z.cells.toList c.toNat)=[]:=zD4 (by rw[zerosL_len,c4]; exact h0)
     simp only[Ren.val,Instr.makeSlice,Sem.run_bind,run_und hu,Result.andThen_ok,asInt,asIntOf,Sem.run_pure,run_info hinf,hib,wl,wc,t2,hnil]
     simp[newRow,run_szOf hsz,h0,show Array.range 0=#[] from rfl]
    ·have hz2:(Array.range (c.toNat*sz)).map (fun i=>z.cells[i % z.cells.size]!)=(zerosL z.cells.toList c.toNat).toArray:=by
      have:sz=z.cells.size:=by simpa using c4.symm
      rw[this]; exact zeros_range _ _
     simp only[Ren.val,Instr.makeSlice,Sem.run_bind,run_und hu,Result.andThen_ok,asInt,asIntOf,Sem.run_pure,run_info hinf,hib,wl,wc,t2,zerosL_map ρ _ (af_list ρ hza)]
     simp[newRow,run_szOf hsz,h0,hzr,hz2]
   ·cases h
  ·cases h
 ·cases h
theorem aTypeAssert_run {x v:Value} {xt t:TypeId} {ok:Bool} (h:aTypeAssert P x t ok=some v):(Instr.typeAssert (ρ.val x) xt t ok).run P w=.ok (ρ.val v) w:=by
 unfold aTypeAssert at h
 split at h
 ·rename_i want u y hu
  split at h
  ·rename_i i hi
   split at h
   ·rename_i hm
    simp only[Option.some.injEq]at h
    subst h
    cases ok<;>simp[Instr.typeAssert,Ren.val,run_und hu,run_info hi,hm,Ren.valA_eq]
   ·rename_i m hm
    split at h
    ·rename_i hok
     simp only[zA6]at h
     obtain⟨z,hz,rfl⟩:=h
     obtain⟨hzr,hza⟩:=run_zeroOf (w:=w) hz
     simp[Instr.typeAssert,Ren.val,run_und hu,run_info hi,hm,Ren.valA_eq,hok,hzr,val_af ρ z hza]
    ·cases h
  ·cases h
 ·rename_i d hu
  split at h
  ·rename_i hok
   simp only[zA6]at h
   obtain⟨z,hz,rfl⟩:=h
   obtain⟨hzr,hza⟩:=run_zeroOf (w:=w) hz
   cases d<;>simp[Instr.typeAssert,Ren.val,run_und hu,Ren.valA_eq,hok,hzr,val_af ρ z hza]
  ·cases h
 ·rename_i d u y hnot hu
  split at h
  ·rename_i heq
   simp only[Option.some.injEq]at h
   subst h
   cases d<;>cases ok<;>first
    |(exact absurd rfl (hnot _)) 
    |simp[Instr.typeAssert,Ren.val,run_und hu,Ren.valA_eq,heq]
  ·rename_i hne
   split at h
   ·rename_i hok
    simp only[zA6]at h
    obtain⟨z,hz,rfl⟩:=h
    obtain⟨hzr,hza⟩:=run_zeroOf (w:=w) hz
    cases d<;>first
     |(exact absurd rfl (hnot _))
     |simp[Instr.typeAssert,Ren.val,run_und hu,Ren.valA_eq,hok,hne,hzr,val_af ρ z hza]
   ·cases h
 ·cases h
end
section
variable {P : Program} {ρ : Ren} {H : AHeap} {w : World}
def ROk (P:Program) (ρ:Ren) (H:AHeap) (w:World) (s:Sem Value) (x:ANext) (H1:AHeap):Prop :=
 ∃ ρ1 w1,St P ρ H w ρ1 H1 w1/\match x with
  |.value v=>s.run P w=.ok (ρ1.val v) w1
  |.panic v=>s.run P w=.halt (.panic (ρ1.val v)) w1
  |_=>False
theorem ROk.val (r:Rel P ρ H w) {s:Sem Value} {v:Value} (h:s.run P w=.ok (ρ.val v) w):ROk P ρ H w s (.value v) H:=⟨ρ,w,St.refl r,h⟩
theorem ROk.of {s:Sem Value} {v:Value} {H1:AHeap} (h:VOk P ρ H w s v H1):ROk P ρ H w s (.value v) H1:=h
theorem shut_facts (r:Rel P ρ H w) {n:Nat} (h:isOpen H n=some false) :
  H.get n≠none/\¬Fz (H.get n)/\ρ.sh n=0/\(∀ o,w.frozen? ⟨ρ.blk n,o,none⟩=false)/\(∀ o s,w.frozen? ⟨ρ.blk n,o,s⟩=false)/\∃ e k,w.shape? (ρ.blk n)=some (e,k):=by
 obtain⟨v,e,hc⟩:=isOpen_cells h
 obtain⟨c,fz,hC⟩:=r.rcells hc
 obtain⟨c0,f0,hg⟩:=cellsR_get hc
 obtain⟨h1,h2,h3,h4⟩:=hC.shut rfl
 subst h4
 refine⟨ne_none hg,(fun⟨o,e1,e2⟩=>by rw[hg]at e1; cases e1; simp[frz]at e2),h2,fun o=>by simp[World.frozen?,hC.at_],fun o s=>by simp[World.frozen?,hC.at_],e,c.size,by simp[World.shape?,hC.at_]⟩
theorem sameAddr_run (r:Rel P ρ H w) {a b:Addr} (ha:isOpen H a.block=some false) (hb:isOpen H b.block=some false) :
  (sameAddr ⟨ρ.blk a.block,a.off+ρ.sh a.block,a.spot⟩ ⟨ρ.blk b.block,b.off+ρ.sh b.block,b.spot⟩).run P w=.ok (a == b) w:=by
 obtain⟨a1,az,a2,a3,a4,ea,ka,a5⟩:=shut_facts r ha
 obtain⟨b1,bz,b2,b3,b4,eb,kb,b5⟩:=shut_facts r hb
 by_cases h:a.block=b.block
 ·have hs:(ρ.blk a.block == ρ.blk b.block)=true:=by simp[h]
  simp only[sameAddr,hs,if_true,Sem.run_pure]
  congr 1
  rw[Bool.eq_iff_iff]
  simp only[beq_iff_eq]
  obtain⟨ab,ao,as0⟩:=a
  obtain⟨bb,bo,bs⟩:=b
  simp only at h ⊢
  subst h
  simp
 ·have hne:(ρ.blk a.block == ρ.blk b.block)=false:=by
   simp only[beq_eq_false_iff_ne]
   exact fun e=>(r.inj _ _ a1 b1 e).elim h fun e=>az e.1
  have hab:(a == b)=false:=by
   simp only[beq_eq_false_iff_ne]
   exact fun e=>h (by rw[e])
  simp[sameAddr,hne,a4,b4,noView,viewAt,a5,b5,mayBeOne,stringish,hab]
theorem aEq_run (r:Rel P ρ H w):∀ (d:Nat) {t:TypeId} {x y:Value} {b:Bool},aEq P H d t x y=some b->∀ k,d<=k->(Op.equalIn k t (ρ.val x) (ρ.val y)).run P w=.ok b w
 |0,t,x,y,b,h,k,hk=>by simp[aEq]at h
 |d+1,t,x,y,b,h,0,hk=>by omega
 |d+1,t,x,y,b,h,k+1,hk=>by
  unfold aEq at h
  split at h
  ·rename_i e q hu
   simp only[Option.some.injEq]at h
   subst h
   cases q<;>simp[Op.equalIn,run_und hu,Ren.val]
  ·rename_i e q hu
   simp only[Option.some.injEq]at h
   subst h
   simp[Op.equalIn,run_und hu,Ren.val]
  ·rename_i e p q hu
   split at h
   ·rename_i sz hsz ha hb
    simp only[Option.some.injEq]at h
    subst h
    simp only[Op.equalIn,Ren.val,Sem.run_bind,run_und hu,Result.andThen_ok,run_szOf hsz]
    simp[sameAddr_run r ha hb]
   ·cases h
  ·rename_i e n1 c1 q n2 c2 hu
   simp only[Option.some.injEq]at h
   subst h
   cases q<;>simp[Op.equalIn,run_und hu,Ren.val]
  ·rename_i e q n1 c1 n2 c2 hu
   simp only[Option.some.injEq]at h
   subst h
   simp[Op.equalIn,run_und hu,Ren.val]
  ·rename_i e1 e2 q hu
   simp only[Option.some.injEq]at h
   subst h
   cases q<;>simp[Op.equalIn,run_und hu,Ren.val]
  ·rename_i e1 e2 q hu
   simp only[Option.some.injEq]at h
   subst h
   simp[Op.equalIn,run_und hu,Ren.val]
  ·rename_i e1 e2 e3 f1 f2 f3 hu
   simp only[Option.some.injEq]at h
   subst h
   simp[Op.equalIn,run_und hu,Ren.val]
  ·rename_i e1 e2 e3 f1 f2 f3 hu
   simp only[Option.some.injEq]at h
   subst h
   simp[Op.equalIn,run_und hu,Ren.val]
  ·rename_i ms t1 v1 hu
   simp only[Option.some.injEq]at h
   subst h
   simp[Op.equalIn,run_und hu,Ren.val]
  ·rename_i ms t1 v1 hu
   simp only[Option.some.injEq]at h
   subst h
   simp[Op.equalIn,run_und hu,Ren.val]
  ·rename_i ms tx vx ty vy hu
   split at h
   ·rename_i hne
    simp only[Option.some.injEq]at h
    subst h
    simp[Op.equalIn,run_und hu,Ren.val,hne]
   ·rename_i heq
    have heq:tx=ty:=by simpa using heq
    subst heq
    split at h
    ·rename_i i hi
     split at h
     ·rename_i hcmp
      have:=aEq_run r d h k (by omega)
      simp[Op.equalIn,run_und hu,Ren.val,run_info hi,hcmp,this]
     ·cases h
    ·cases h
  ·cases h
def addrish:Value->Bool
 |.pointer _=>true
 |.slice _ _ _=>true
 |.map _=>true
 |.func _ _ _=>true
 |.nilFunc=>true
 |.iface _ _=>true
 |.nilIface=>true
 |_=>false
theorem aEq_addrish {d:Nat} {t:TypeId} {x y:Value} {b:Bool} (h:aEq P H d t x y=some b):addrish x=true/\addrish y=true:=by
 cases d with
 |zero=>simp[aEq]at h
 |succ d =>
  unfold aEq at h
  split at h<;>first
   |exact⟨rfl,rfl⟩
   |cases h
theorem addrish_val (ρ:Ren) {x:Value} (h:addrish x=true):addrish (ρ.val x)=true:=by
 cases x with
 |pointer a=>cases a<;>simp[Ren.val,addrish]
 |slice a _ _=>cases a<;>simp[Ren.val,addrish]
 |map a=>cases a<;>simp[Ren.val,addrish]
 |func f a b=>simp[Ren.val,addrish]
 |nilFunc=>simp[Ren.val,addrish]
 |iface t v=>simp[Ren.val,addrish]
 |nilIface=>simp[Ren.val,addrish]
 |_=>simp[addrish]at h
theorem binOp_eql {t:TypeId} {x y:Value} (h:addrish x=true):binOp .eql t x y=(do pure (.bool (<-Op.equal t x y))):=by
 cases x<;>first
  |rfl
  |(simp[addrish]at h; done)
theorem binOp_neq {t:TypeId} {x y:Value} (h:addrish x=true):binOp .neq t x y=(do pure (.bool (!(<-Op.equal t x y)))):=by
 cases x<;>first
  |rfl
  |(simp[addrish]at h; done)
def noGuard (a b:Value):Bool :=
 match a,b with
 |.nilIface,.nilIface=>false
 |.agg _,.agg _=>false
 |_,_=>true
theorem run_if {c:Prop} [Decidable c] {A B:Sem Unit} (h1:c->A.run P w=.ok () w) (h2:¬c->B.run P w=.ok () w):(if c then A else B).run P w=.ok () w:=by
 by_cases h:c
 ·rw[if_pos h]; exact h1 h
 ·rw[if_neg h]; exact h2 h
theorem eqGuard_run {op:BinOp} {t:TypeId} {x y:Operand} {a b:Value} (h:noGuard a b=true):(eqGuard op t x y a b).run P w=.ok () w:=by
 unfold eqGuard
 refine run_if (fun _=>rfl) (fun _=>?_)
 split
 ·simp[noGuard]at h
 ·simp[noGuard]at h
 ·rfl
theorem noGuard_addr (ρ:Ren) {x y:Value} (hx:addrish x=true) (hy:addrish y=true) (h:¬(x=.nilIface/\y=.nilIface)):noGuard (ρ.val x) (ρ.val y)=true:=by
 cases x with
 |pointer a=>cases a<;>simp[Ren.val,noGuard]
 |slice a _ _=>cases a<;>simp[Ren.val,noGuard]
 |map a=>cases a<;>simp[Ren.val,noGuard]
 |func f a b=>simp[Ren.val,noGuard]
 |nilFunc=>simp[Ren.val,noGuard]
 |iface t v=>simp[Ren.val,noGuard]
 |nilIface =>
  cases y with
  |nilIface=>exact absurd ⟨rfl,rfl⟩ h
  |pointer a=>cases a<;>simp[Ren.val,noGuard]
  |slice a _ _=>cases a<;>simp[Ren.val,noGuard]
  |map a=>cases a<;>simp[Ren.val,noGuard]
  |chan a=>simp[addrish]at hy
  |_=>simp[Ren.val,noGuard]
 |_=>simp[addrish]at hx
theorem aBinAddr_run (r:Rel P ρ H w) {op:BinOp} {t:TypeId} {x y:Operand} {p q v:Value} (h:aBinAddr P H op t p q=some v) :
  (do eqGuard op t x y (ρ.val p) (ρ.val q); binOp op t (ρ.val p) (ρ.val q):Sem Value).run P w=.ok (ρ.val v) w:=by
 have hmain:∀ b,aEq P H 100 t p q=some b->eqOp op b=some v->¬(p=.nilIface/\q=.nilIface) ->
   (do eqGuard op t x y (ρ.val p) (ρ.val q); binOp op t (ρ.val p) (ρ.val q):Sem Value).run P w=.ok (ρ.val v) w:=by
  intro b hb hv hn
  obtain⟨hx,hy⟩:=aEq_addrish hb
  have he:=aEq_run r 100 hb Op.maxDepth (by decide)
  simp only[Sem.run_bind,eqGuard_run (noGuard_addr ρ hx hy hn),Result.andThen_ok]
  cases op<;>simp[eqOp]at hv
  ·subst hv
   rw[binOp_eql (addrish_val ρ hx)]
   simp[Op.equal,he,Ren.val]
  ·subst hv
   rw[binOp_neq (addrish_val ρ hx)]
   simp[Op.equal,he,Ren.val]
 unfold aBinAddr at h
 split at h
 ·cases h
 ·cases h
 ·rename_i hn1 hn2
  simp only[zA2]at h
  obtain⟨b,hb,hv⟩:=h
  exact hmain b hb hv (fun e=>hn2 e.1 e.2)
theorem aBin_run (r:Rel P ρ H w) {op:BinOp} {t:TypeId} {x y:Operand} {p q v:Value} (h:aBin P H op t p q=some v) :
  (do eqGuard op t x y (ρ.val p) (ρ.val q); binOp op t (ρ.val p) (ρ.val q):Sem Value).run P w=.ok (ρ.val v) w:=by
 unfold aBin at h
 split at h
 ·rename_i k a k' b
  split at h
  ·rename_i hk
   subst hk
   have hg:(eqGuard op t x y (.int k a) (.int k b)).run P w=.ok () w:=eqGuard_run rfl
   simp only[Ren.val,Sem.run_bind,hg,Result.andThen_ok]
   cases op<;>simp only[intBin,Option.some.injEq]at h<;>first
    |(subst h; simp[binOp,Op.intArith,Op.intCmp,Ren.val]; done)
    | (split at h
       ·cases h
       ·rename_i hz
        simp only[Option.some.injEq]at h
        subst h
        simp[binOp,Op.intDiv,hz,Ren.val])
    |cases h
  ·cases h
 ·rename_i a b
  split at h
  ·rename_i hu
   have hg:(eqGuard op t x y (.bool a) (.bool b)).run P w=.ok () w:=eqGuard_run rfl
   simp only[Ren.val,Sem.run_bind,hg,Result.andThen_ok]
   have he:(Op.equal t (.bool a) (.bool b)).run P w=.ok (a == b) w:=by
    have:∀ k,(Op.equalIn (k+1) t (.bool a) (.bool b)).run P w=.ok (a == b) w:=fun k=>by simp[Op.equalIn,run_und hu]
    exact this 9999
   have h1:binOp .eql t (.bool a) (.bool b)=(do pure (.bool (<-Op.equal t (.bool a) (.bool b)))):=rfl
   have h2:binOp .neq t (.bool a) (.bool b)=(do pure (.bool (!(<-Op.equal t (.bool a) (.bool b))))):=rfl
   cases op<;>simp only[eqOp,Option.some.injEq]at h<;>first
    |(subst h; rw[h1]; simp only[Sem.run_bind,he,Result.andThen_ok,Sem.run_pure,Ren.val]; done)
    |(subst h; rw[h2]; simp only[Sem.run_bind,he,Result.andThen_ok,Sem.run_pure,Ren.val]; done)
    |cases h
  ·cases h
 ·exact aBinAddr_run r h
theorem aPlain_run (r:Rel P ρ H w) {s:Sem Value} {x:ANext} (h:aPlain P s=some x):ROk P ρ H w s x H:=by
 unfold aPlain at h
 split at h
 ·rename_i v hv
  split at h
  ·rename_i ha
   simp only[Option.some.injEq]at h
   subst h
   exact ROk.val r (by rw[peval_run s hv w,val_af ρ v ha])
  ·cases h
 ·split at h
  ·rename_i v hv
   split at h
   ·rename_i ha
    simp only[Option.some.injEq]at h
    subst h
    exact⟨ρ,w,St.refl r,by show s.run P w=.halt (.panic (ρ.val v)) w; rw[ppanic_run s hv w,val_af ρ v ha]⟩
   ·cases h
  ·cases h
theorem binV_run (r:Rel P ρ H w) {op:BinOp} {t:TypeId} {x y:Operand} {p q:Value} {nx:ANext} {H1:AHeap} (h:binV P H op t x y p q=some (nx,H1)) :
  ROk P ρ H w (do eqGuard op t x y (ρ.val p) (ρ.val q); binOp op t (ρ.val p) (ρ.val q)) nx H1:=by
 unfold binV at h
 split at h
 ·rename_i v hv
  simp only[Option.some.injEq,Prod.mk.injEq]at h
  obtain⟨rfl,rfl⟩:=h
  exact ROk.val r (aBin_run r hv)
 ·split at h
  ·rename_i ha
   simp only[zA4]at ha
   simp only[zA6,Prod.mk.injEq]at h
   obtain⟨z,hz,rfl,rfl⟩:=h
   rw[val_af ρ p ha.1,val_af ρ q ha.2]
   exact aPlain_run r hz
  ·cases h
theorem unV_run (r:Rel P ρ H w) {op:UnOp} {p:Value} {nx:ANext} {H1:AHeap} (h:unV P H op p=some (nx,H1)) :
  ROk P ρ H w (Op.unary op (ρ.val p)) nx H1:=by
 unfold unV at h
 split at h
 ·simp only[Option.some.injEq,Prod.mk.injEq]at h
  obtain⟨rfl,rfl⟩:=h
  exact ROk.val r (by simp[Op.unary,Ren.val])
 ·simp only[Option.some.injEq,Prod.mk.injEq]at h
  obtain⟨rfl,rfl⟩:=h
  exact ROk.val r (by simp[Op.unary,Op.intArith,Ren.val])
 ·split at h
  ·rename_i ha
   simp only[zA6,Prod.mk.injEq]at h
   obtain⟨z,hz,rfl,rfl⟩:=h
   rw[val_af ρ _ ha]
   exact aPlain_run r hz
  ·cases h
theorem indexV_run (r:Rel P ρ H w) {t:TypeId} {p q:Value} {nx:ANext} {H1:AHeap} (h:indexV P H t p q=some (nx,H1)) :
  ROk P ρ H w (Instr.index t (ρ.val p) (ρ.val q)) nx H1:=by
 unfold indexV at h
 split at h
 ·rename_i v hv
  simp only[Option.some.injEq,Prod.mk.injEq]at h
  obtain⟨rfl,rfl⟩:=h
  exact ROk.val r (aIndex_run hv)
 ·split at h
  ·rename_i ha
   simp only[zA4]at ha
   simp only[zA6,Prod.mk.injEq]at h
   obtain⟨z,hz,rfl,rfl⟩:=h
   rw[val_af ρ p ha.1,val_af ρ q ha.2]
   exact aPlain_run r hz
  ·cases h
end
section
variable {P : Program} {ρ : Ren} {H : AHeap} {w : World}
theorem val_bytesV (ρ:Ren) (l:List UInt8):(bytesV l).map ρ.val=bytesV l:=by
 simp only[bytesV,List.map_map]
 apply zD8
 intro b _
 simp[Ren.val]
theorem firstC_run (r:Rel P ρ H w) {sz n:Nat} {x:Value} {l:List Value} (h:firstC H sz n x=some l) (hn:∀ k,lenV x=some k->n<=k) :
  (Builtin.firstCells sz n (ρ.val x)).run P w=.ok (l.map ρ.val).toArray w:=by
 unfold firstC at h
 split at h
 ·rename_i a len cap
  have hn:=hn len rfl
  cases n with
  |zero =>
   rw[if_pos rfl]at h
   simp only[Option.some.injEq]at h
   subst h
   simp only[Ren.val,Builtin.firstCells,Nat.zero_mul]
   rfl
  |succ n =>
   rw[if_neg (Nat.succ_ne_zero n)]at h
   simp only[zA1,zA2]at h
   obtain⟨⟨v,e,op⟩,hc,h⟩:=h
   obtain⟨c,fz,hC⟩:=r.rcells hc
   simp only at h
   split at h
   ·rename_i hle
    simp only[Option.some.injEq]at h
    subst h
    have ho:ρ.offS a len cap=a.off:=Ren.offS_of (.inr (by omega))
    have hos:ρ.spS a len cap=none:=Ren.spS_of (.inr (by omega))
    simp only[Ren.val,ho,hos,Builtin.firstCells,hC.load (ble_le hle)]
   ·cases h
 ·simp only[Option.some.injEq]at h
  subst h
  simp[Ren.val,Builtin.firstCells]
 ·rename_i s
  simp only[Option.some.injEq]at h
  subst h
  simp only[Ren.val,Builtin.firstCells,Sem.run_pure,val_bytesV]
  congr 1
  apply Array.ext'
  simp[bytesV,ByteArray.data_extract]
 ·cases h
theorem lenV_run {x:Value} {n:Nat} (h:lenV x=some n):(Builtin.lenOf (ρ.val x)).run P w=.ok n w:=by
 unfold lenV at h
 split at h
 ·rename_i a n' c
  simp only[Option.some.injEq]at h
  subst h
  cases a<;>simp[Ren.val,Builtin.lenOf]
 ·simp only[Option.some.injEq]at h
  subst h
  simp[Ren.val,Builtin.lenOf]
 ·cases h
theorem growBy_step (n k c:Nat):Builtin.growBy n (k+1) c=if c ≥ n then c else Builtin.growBy n k (c+(c+768) / 4):=rfl
theorem growBy_le {n c B:Nat} (k:Nat) (hn:n<=B) (hc:c<=B) (hs:∀ x,x<n->x+(x+768) / 4<=B):Builtin.growBy n k c<=B:=by
 induction k generalizing c with
 |zero=>exact hc
 |succ k ih =>
  rw[growBy_step]
  split
  ·exact hc
  ·exact ih (hs c (by omega))
theorem nextcap_le {n c:Nat} (h:c<n):Builtin.nextslicecap n c<=2*n:=by
 unfold Builtin.nextslicecap
 split
 ·omega
 ·split
  ·omega
  ·exact growBy_le _ (by omega) (by omega) (fun x hx=>by omega)
theorem cut_append_le (need old:Nat) (e:TypeId) (t:Nat) (h:need<=9000000000000000000):(Question.appendCap need old e).cut t<=9223372036854775807:=by
 have hlt:=Nat.mod_lt t (show 0<2 ^ 63-need by omega)
 simp only[Question.cut]
 omega
theorem cut_append (need old:Nat) (e:TypeId) (t:Nat):need<=(Question.appendCap need old e).cut t:=by
 simp[Question.cut]
def appTail (e:TypeId) (sz:Nat) (base:Option Addr) (len cap n:Nat) (zeros:Bool) (x:Value) (appended:Sem (Array Value)):Sem Value:=do
 let need:=len+n
 if need<=cap then
  let new <-appended
  if let some a:=base then storeCells (a.add (len*sz)) new.toList
  pure (.slice base need cap)
 else
  if (need:Int)>IntKind.i64.max/\(zeros\/(<-typeInfo e).bytes=0) then runtimePanic (.error "growslice: len out of range")
  if Builtin.nextslicecap need cap*(<-typeInfo e).bytes>2 ^ 48 then (if zeros then runtimePanic (.error "growslice: len out of range") else do
   if !(<-Builtin.mayShare sz len n base x) then mark .noRoom
   unsupported (.resourceLimit "append: a slice or a string whose bytes no memory bears"))
  let newCap <-choose (.appendCap need cap e)
  askRoom (newCap*(<-typeInfo e).bytes)
  let old <-Builtin.firstCells sz len (.slice base len cap)
  let new <-appended
  let rest:=Builtin.zeroCells (<-zeroValue e).cells (newCap-need)
  pure (.slice (some (<-newRow e (old++new++rest))) need newCap)
theorem append_eq {ts:Array TypeId} {ty st xt e:TypeId} {rest:List TypeId} {sz:Nat} {s x:Value} {base:Option Addr} {len cap n:Nat} {d:TypeDesc} (hts:ts.toList=st::xt::rest) (hu:P.underlying st=some (.slice e)) (hsz:szOf P e=some sz)
  (hx:P.underlying xt=some d) (hd:∀ k,d≠.int k) (hs:s=.slice base len cap) (hn:(Builtin.lenOf x).run P w=.ok n w) :
  (Builtin.append_ ts ty #[s,x]).run P w=(appTail e sz base len cap n false x (Builtin.firstCells sz n x)).run P w:=by
 obtain⟨l⟩:=ts
 simp only at hts
 subst hts hs
 unfold Builtin.append_ appTail
 simp only[List.getElem?_toArray,zC5,zD0,Sem.run_bind,run_und hu,Result.andThen_ok,run_szOf hsz,run_und hx,Sem.run_pure]
 have:(match d with|.int _=>true|_=>false)=false:=by cases d<;>first|rfl|exact absurd rfl (hd _)
 simp only[zB7,if_false,Bool.not_false,if_true]
 rw[Sem.run_bind,hn]
 rfl
theorem append_eq0 {ts:Array TypeId} {ty st xt e:TypeId} {rest:List TypeId} {sz by1:Nat} {s:Value} {base:Option Addr} {len cap:Nat} {k:IntKind} {l:Int} (hts:ts.toList=st::xt::rest) (hu:P.underlying st=some (.slice e)) (hsz:szOf P e=some sz)
  (hx:P.underlying xt=some (.int k)) (hs:s=.slice base len cap) (hl:0<=l) (hl1:l<=140737488351232) (hb:bytesOf P e=some by1) (hlb:l*by1<=140737488351232) :
  (Builtin.append_ ts ty #[s,.int .i64 l]).run P w=(appTail e sz base len cap l.toNat true (.int .i64 l) (if l.toNat*sz=0 then pure #[] else do pure (Builtin.zeroCells (<-zeroValue e).cells l.toNat))).run P w:=by
 obtain⟨ll⟩:=ts
 simp only at hts
 subst hts hs
 obtain⟨inf,hinf,hib⟩:=bytesOf_info hb
 have t1:¬(l<0):=by omega
 have t2:¬(l*(inf.bytes:Int)>2 ^ 48):=by rw[hib]; omega
 unfold Builtin.append_ appTail
 simp only[List.getElem?_toArray,zC5,zD0,Sem.run_bind,run_und hu,Result.andThen_ok,run_szOf hsz,run_und hx,Sem.run_pure,if_true,asInt,asIntOf,wrap_small hl hl1,t1,if_false,run_info hinf,t2,Bool.not_true,zB7]
 rfl
theorem appTail_in {e:TypeId} {sz len cap n:Nat} {zeros:Bool} {x:Value} {a:Addr} {app:Sem (Array Value)} {new:List Value} {w1:World} (hle:len+n<=cap) (ha:app.run P w=.ok new.toArray w)
  (hs:(storeCells (a.add (len*sz)) new).run P w=.ok () w1):(appTail e sz (some a) len cap n zeros x app).run P w=.ok (.slice (some a) (len+n) cap) w1:=by
 unfold appTail
 simp only[hle,if_true,Sem.run_bind,ha,Result.andThen_ok,hs,Sem.run_pure]
theorem appTail_in0 {e:TypeId} {sz len cap:Nat} {zeros:Bool} {x:Value} {app:Sem (Array Value)} {new:Array Value} (hle:len+0<=cap) (ha:app.run P w=.ok new w) :
  (appTail e sz none len cap 0 zeros x app).run P w=.ok (.slice none len cap) w:=by
 have hle':len<=cap:=by omega
 unfold appTail
 simp only[zD3,hle',if_true,Sem.run_bind,ha,Result.andThen_ok,Sem.run_pure]
theorem appTail_out {e:TypeId} {sz len cap n by1:Nat} {zeros:Bool} {x:Value} {base:Option Addr} {app:Sem (Array Value)} {old new:List Value} {z:Value} (hgt:¬len+n<=cap) (hsm:small (len+n) by1=true) (hb:bytesOf P e=some by1)
  (hz:zeroOf P e=some z) (hzl:z.cells.toList.length=sz) (ho:(Builtin.firstCells sz len (.slice base len cap)).run P w.drew=.ok old.toArray w.drew) (ha:app.run P w.drew=.ok new.toArray w.drew) :
  ∃ ex,len+n+ex<=9223372036854775807/\(appTail e sz base len cap n zeros x app).run P w=.ok (.slice (some ⟨w.heap.size,0,none⟩) (len+n) (len+n+ex)) (w.drew.alloc (.cells ((old++new).toArray++(zerosL z.cells.toList ex).toArray) e)):=by
 obtain⟨inf,hinf,hib⟩:=bytesOf_info hb
 obtain⟨s1,s2⟩:=small_le hsm
 obtain⟨hzr,hza⟩:=run_zeroOf (w:=w.drew) hz
 have t1:¬(((len+n:Nat):Int)>IntKind.i64.max/\(zeros=true\/inf.bytes=0)):=by
  have:IntKind.i64.max=9223372036854775807:=by decide
  rw[this]; omega
 have t2:¬(Builtin.nextslicecap (len+n) cap*inf.bytes>2 ^ 48):=by
  have h1:=nextcap_le (n:=len+n) (c:=cap) (by omega)
  have h2:Builtin.nextslicecap (len+n) cap*inf.bytes<=(2*(len+n))*inf.bytes:=Nat.mul_le_mul_right _ h1
  have h4:(2*(len+n))*inf.bytes=2*((len+n)*by1):=by rw[hib,Nat.mul_assoc]
  omega
 have hcut:=cut_append (len+n) cap e (w.tape w.drawn (.appendCap (len+n) cap e))
 obtain⟨ex,hex⟩:∃ ex,(Question.appendCap (len+n) cap e).cut (w.tape w.drawn (.appendCap (len+n) cap e))=len+n+ex:=⟨_,(Nat.add_sub_cancel' hcut).symm⟩
 refine⟨ex,hex▸cut_append_le _ _ _ _ (by omega),?_⟩
 have hzc:Builtin.zeroCells z.cells ex=(zerosL z.cells.toList ex).toArray:=by
  unfold Builtin.zeroCells
  exact zeros_range _ _
 have hfo:(Question.appendCap (len+n) cap e).forced=false:=rfl
 unfold appTail
 simp only[hgt,if_false,Sem.run_bind,run_info hinf,Result.andThen_ok,Sem.run_ite,t1,t2,run_choose,hfo,zB7,hex]
 have hdrew:({w with drawn:=w.drawn+1}:World)=w.drew:=rfl
 simp only[hdrew,Result.andThen_ok,run_askRoom,ho,ha,hzr,Nat.add_sub_cancel_left,hzc,newRow,Sem.run_bind,run_newObj,Sem.run_pure]
 simp
 rfl
theorem Rel.heap {w':World} (r:Rel P ρ H w) (h:w'.heap=w.heap):Rel P ρ H w':=⟨r.base,r.glob,r.inj,r.dom,fun n o hn=>by rw[h]; exact r.obj n o hn⟩
theorem drew_st (r:Rel P ρ H w):St P ρ H w ρ H w.drew:=St.world r rfl rfl rfl rfl
theorem val_fresh (ρ:Ren) (n b s e len cap:Nat):(ρ.at n b s e).val (.slice (some ⟨n,0,none⟩) len cap)=.slice (some ⟨b,s,none⟩) len (cap+e):=by simp[Ren.val]
theorem append_new (r:Rel P ρ H w) {e:TypeId} {sz len cap n by1:Nat} {zeros:Bool} {x:Value} {base':Option Addr} {app:Sem (Array Value)} {old new:List Value} {z:Value} {g:AHeap}
  (hgt:¬len+n<=cap) (hsm:small (len+n) by1=true) (hb:bytesOf P e=some by1) (hsz:szOf P e=some sz)
  (hz:zeroOf P e=some z) (hzl:z.cells.toList.length=sz) (ho:(Builtin.firstCells sz len (.slice base' len cap)).run P w.drew=.ok (old.map ρ.val).toArray w.drew)
  (ha:app.run P w.drew=.ok (new.map ρ.val).toArray w.drew) (hg:aNew H e (old++new) true=some g) (hlen:(old++new).length=(len+n)*sz) :
  VOk P ρ H w (appTail e sz base' len cap n zeros x app) (.slice (some ⟨H.next,0,none⟩) (len+n) (len+n)) g:=by
 obtain⟨ex,hexl,hrun⟩:=appTail_out (x:=x) (zeros:=zeros) hgt hsm hb hz hzl ho ha
 have hst:=aNew_open (r.heap (w':=w.drew) rfl) hg (zerosL z.cells.toList ex).toArray ex (by simp[zerosL_len,hzl,cellsOf_szOf hsz]) (by
  rw[hlen,cellsOf_szOf hsz,<-Nat.add_mul]
  exact Nat.mul_le_mul_right _ hexl)
 refine⟨_,_,(drew_st r).trans hst,?_⟩
 rw[hrun,val_fresh]
 simp
theorem aAppend2_run (r:Rel P ρ H w) {e:TypeId} {sz len cap n by1 cap':Nat} {zeros:Bool} {x:Value} {base base':Option Addr} {app:Sem (Array Value)} {new:List Value} {z v:Value} {H1:AHeap}
  (hv:ρ.val (.slice base len cap)=.slice base' len cap') (hsm:small (len+n) by1=true) (hb:bytesOf P e=some by1) (hsz:szOf P e=some sz)
  (hz:zeroOf P e=some z) (hzl:z.cells.toList.length=sz) (hnew:new.length=n*sz) (happ:∀ w',w'.heap=w.heap->app.run P w'=.ok (new.map ρ.val).toArray w')
  (h:aAppend2 H e sz base len cap n new=some (v,H1)):VOk P ρ H w (appTail e sz base' len cap' n zeros x app) v H1:=by
 unfold aAppend2 at h
 split at h
 ·rename_i hle
  split at h
  ·split at h
   ·rename_i hn0
    subst hn0
    simp only[Option.some.injEq,Prod.mk.injEq]at h
    obtain⟨rfl,rfl⟩:=h
    simp only[Ren.val,Value.slice.injEq,true_and]at hv
    obtain⟨rfl,rfl⟩:=hv
    refine VOk.same r ?_
    rw[appTail_in0 hle (happ w rfl)]
    simp[Ren.val]
   ·cases h
  ·rename_i a
   simp only[zA1,zA2,Option.some.injEq,Prod.mk.injEq]at h
   obtain⟨g,hg,rfl,rfl⟩:=h
   obtain⟨w1,hst,hrun⟩:=aWrite_run r hg
   simp only[Ren.val,Value.slice.injEq,true_and]at hv
   obtain⟨rfl,rfl⟩:=hv
   refine⟨ρ,w1,hst,?_⟩
   have hle':len+n<=ρ.capS a len cap:=zB8 hle Ren.cap_le
   by_cases hz0:len+n=0
   ·have hn0:n=0:=by omega
    have hl0:len=0:=by omega
    subst hn0
    subst hl0
    have hnil:new=[]:=zD4 (by simpa using hnew)
    subst hnil
    have hw:w1=w:=by
     have:(storeCells (Addr.mk (ρ.blk a.block) (a.off+0*sz+ρ.sh a.block) none) ([].map ρ.val)).run P w=.ok () w:=rfl
     rw[this]at hrun
     exact (Result.ok.inj hrun).2.symm
    subst hw
    rw[appTail_in hle' (happ _ rfl) (w1:=w1) rfl]
    simp[Ren.val]
   have hc0:cap≠0:=by omega
   have ho:ρ.offS a len cap=a.off:=Ren.offS_cap hc0
   have hos:ρ.spS a len cap=none:=Ren.spS_cap hc0
   have hrun':(storeCells (Addr.add ⟨ρ.blk a.block,ρ.offS a len cap+ρ.sh a.block,ρ.spS a len cap⟩ (len*sz)) (new.map ρ.val)).run P w=.ok () w1:=by
    rw[hos,addr_add,ho,show a.off+ρ.sh a.block+len*sz=a.off+len*sz+ρ.sh a.block from by omega]; exact hrun
   rw[appTail_in hle' (happ w rfl) (w1:=w1) hrun']
   simp[Ren.val,Ren.spS_cap hc0,Ren.offS_cap hc0,Ren.capS_cap (len:=len) (len':=len+n) hc0]
 ·rename_i hgt
  simp only[zA1,zA2]at h
  obtain⟨old,hold,h⟩:=h
  split at h
  ·rename_i hc
   simp only[zA4,decide_eq_true_eq]at hc
   obtain⟨⟨hol,hone1⟩,hone2⟩:=hc
   have hln:(old++new).length=(len+n)*sz:=by rw[zC8,hol,hnew,Nat.add_mul]
   have hod:(Builtin.firstCells sz len (.slice base' len cap')).run P w.drew=.ok (old.map ρ.val).toArray w.drew:=by
    rw[<-hv]; exact firstC_run (w:=w.drew) (r.heap rfl) hold (fun k hk=>by simp only[lenV,Option.some.injEq]at hk; omega)
   split at h
   ·simp only[zA2,Option.some.injEq,Prod.mk.injEq]at h
    obtain⟨g,hg,rfl,rfl⟩:=h
    have hcap:cap'=cap:=by simpa[Ren.val]using (congrArg (fun v=>match v with|.slice _ _ c=>c|_=>0) hv).symm
    subst hcap
    exact append_new r hgt hsm hb hsz hz hzl hod (happ _ rfl) hg hln
   ·rename_i a
    simp only[zA2]at h
    obtain⟨b,hb',h⟩:=h
    cases b with
    |true =>
     simp only[zA2,Option.some.injEq,Prod.mk.injEq]at h
     obtain⟨g,hg,rfl,rfl⟩:=h
     rw[exact_cap r (exactAp_true hb')]at hv
     have hcap:cap'=cap:=by simpa using (congrArg (fun v=>match v with|.slice _ _ c=>c|_=>0) hv).symm
     subst hcap
     exact append_new r hgt hsm hb hsz hz hzl hod (happ _ rfl) hg hln
    |false =>
     simp only[zA2]at h
     obtain⟨⟨v0,e0,o0⟩,hc0,h⟩:=h
     obtain⟨ho,hs⟩:=inexactAp hb'
     obtain⟨v1,e1,hc1⟩:=isOpen_cells ho
     have:(v0,e0,o0)=(v1,e1,true):=by rw[cellsR_of hc0]at hc1; simpa using hc1
     cases this
     simp only at h
     split at h
     ·rename_i hcond
      obtain⟨rfl,hend⟩:=hcond
      have hend:=ble_le hend
      simp only[zA2,Option.some.injEq,Prod.mk.injEq]at h
      obtain⟨g,hg,rfl,rfl⟩:=h
      have hcap:cap'=cap+ρ.ex a.block/\(len+n<=cap'->base'=some ⟨ρ.blk a.block,a.off+ρ.sh a.block,none⟩):=by
       obtain⟨ab,ao,asp⟩:=a; simp only at hs
       rcases hs with rfl|⟨k,rfl,rfl,rfl⟩
       ·simp only[Ren.val,Ren.offS_none,Ren.spS_none,Ren.capS_none,Value.slice.injEq,true_and]at hv
        exact⟨hv.2.symm,fun _=>hv.1.symm⟩
       ·simp only[Ren.val,Ren.offS,Ren.capS,and_self,true_and,if_true,Value.slice.injEq]at hv
        refine⟨by rw[<-hv.2,zC0],fun hle=>?_⟩
        rw[<-hv.1]
        have hne:ρ.ex ab≠0:=by rw[hv.2]; omega
        rw[if_neg hne,Ren.spS_ex hne]
      obtain⟨hcap,hbase⟩:=hcap
      by_cases hin:len+n<=cap'
      ·obtain⟨c,fz,hC⟩:=r.cells hc0
       obtain⟨cc,ff,hg0⟩:=cellsAt_get hc0
       obtain⟨hsize,hfz⟩:=hC.open_ rfl
       rw[cellsOf_szOf hsz]at hsize
       have har:(len+n)*sz<=(cap+ρ.ex a.block)*sz:=Nat.mul_le_mul_right _ (by omega)
       have hadd:(len+n)*sz=len*sz+n*sz:=Nat.add_mul _ _ _
       have hadd2:(cap+ρ.ex a.block)*sz=cap*sz+ρ.ex a.block*sz:=Nat.add_mul _ _ _
       have hsub:(cap+ρ.ex a.block-(len+n))*sz=(cap+ρ.ex a.block)*sz-(len+n)*sz:=Nat.sub_mul _ _ _
       obtain⟨w1,h1,h2,h3,h4,h5,h6,h7⟩:=run_storeCells (P:=P) (ρ.blk a.block) (a.off+ρ.sh a.block+len*sz) e0 fz (new.map ρ.val) 0 w c hC.at_ (by simp[hnew]; omega)
        (fun y hy=>by
         obtain⟨y0,hy0,rfl⟩:=zE0.1 hy
         rw[Ren.val_one]; exact zC4.1 hone2 y0 hy0)
        (fun j h1 h2=>hC.thawed (by omega) (by rw[cellsOf_szOf hsz]; simp only[List.length_map,hnew]at h2; omega))
       unfold aNew at hg
       split at hg
       ·rename_i hsc
        simp only[Option.some.injEq]at hg
        subst hg
        have hsc':∀ y∈old++new,scb H.next y=true:=scbL_iff.1 hsc
        have hext:=Ren.at_ext ρ H.next (ρ.blk a.block) (a.off+ρ.sh a.block) (cap+ρ.ex a.block-(len+n))
        refine⟨ρ.at H.next (ρ.blk a.block) (a.off+ρ.sh a.block) (cap+ρ.ex a.block-(len+n)),w1,St.move r _ _ (ne_none hg0) (cellsAt_nz hc0) ?_ ?_ h2 h3 h4 h5 h6 h7,?_⟩
        ·simp only[sco,RV.n_ofList,RV.get_ofList]
         intro i hi
         exact hsc' _ (by simp only[List.getD,zA7 hi,Option.getD_some]; exact List.getElem_mem _)
        ·simp only[Fits]
         refine⟨_,fz,rfl,fun i hi=>?_,fun h=>(by cases h),fun _ _=>⟨?_,?_⟩⟩
         ·simp only[RV.n_ofList]at hi
          have hi':=hi
          simp only[zC8,hol,hnew]at hi'
          rw[RV.get_ofList,Ren.at_sh,val_ext hext _ (hsc' _ (by simp only[List.getD,zA7 hi,Option.getD_some]; exact List.getElem_mem _))]
          rw[wrA_get _ _ _ _ (by simp[hnew]; omega)]
          simp only[zD3,List.length_map,hnew]
          by_cases hil:i<len*sz
          ·rw[if_neg (by omega)]
           have hl0:len≠0:=by rintro rfl; rw[Nat.zero_mul]at hil; exact absurd hil (Nat.not_lt_zero _)
           simp only[firstC,if_neg hl0,zA1,zA2]at hold
           obtain⟨⟨v2,e2,o2⟩,hc2,hold⟩:=hold
           rw[hc1]at hc2
           cases hc2
           simp only at hold
           split at hold
           ·rename_i hfit
            have hfit:=ble_le hfit
            simp only[Option.some.injEq]at hold
            subst hold
            have hcc:=hC.cell (a.off+i) (by omega)
            rw[show i+(a.off+ρ.sh a.block)=a.off+i+ρ.sh a.block from by omega,hcc]
            rw[List.getD,List.getElem?_append_left (by simpa using hil)]
            have:=RV.gets_getD v0 a.off (len*sz) i hil
            rw[List.getD]at this
            rw[this]
           ·cases hold
          ·rw[if_pos (by omega)]
           rw[List.getD,List.getElem?_append_right (by omega),hol]
           rw[show i+(a.off+ρ.sh a.block)-(a.off+ρ.sh a.block+len*sz)=i-len*sz from by omega]
           have hlt:i-len*sz<new.length:=by omega
           simp[hlt]
         ·simp only[Ren.at_sh,Ren.at_ex,RV.n_ofList,zC8,hol,hnew,wrA_size,cellsOf_szOf hsz]
          refine⟨by omega,fun hex=>?_⟩
          have hrm:=hC.room rfl (by omega)
          rw[cellsOf_szOf hsz]at hrm
          omega
         ·intro i h1 h2
          simp only[Ren.at_sh,Ren.at_ex,RV.n_ofList,zC8,hol,hnew,cellsOf_szOf hsz]at h1 h2
          exact hfz i (by omega) (by rw[cellsOf_szOf hsz]; omega)
        ·rw[val_fresh,hbase hin,appTail_in (new:=new.map ρ.val) hin (happ w rfl) (w1:=w1) (by rw[addr_add]; exact h1)]
         rw[hcap,show len+n+(cap+ρ.ex a.block-(len+n))=cap+ρ.ex a.block from by omega]
       ·cases hg
      ·have hdel:=St.del r a.block (cellsAt_nz hc0)
       have hn:=append_new (x:=x) (zeros:=zeros) hdel.rel hin hsm hb hsz hz hzl hod (happ _ rfl) hg hln
       obtain⟨ρ1,w1,hst,hrun⟩:=hn
       exact⟨ρ1,w1,hdel.trans hst,hrun⟩
     ·cases h
  ·cases h
end
section
variable {P : Program} {ρ : Ren} {H : AHeap} {w : World}
theorem val_slice (ρ:Ren) (base:Option Addr) (len cap:Nat):∃ base' cap',ρ.val (.slice base len cap)=.slice base' len cap':=by
 cases base with
 |none=>exact⟨none,cap,by simp[Ren.val]⟩
 |some a=>exact⟨_,_,by rw[Ren.val]⟩
theorem aAppend_run (r:Rel P ρ H w) {ts:Array TypeId} {ty:TypeId} {s x v:Value} {H1:AHeap} (h:aAppend P H ts s x=some (v,H1)) :
  VOk P ρ H w (Builtin.append_ ts ty #[ρ.val s,ρ.val x]) v H1:=by
 unfold aAppend at h
 split at h
 ·rename_i st xt rest base len cap hts
  simp only[zA1,zA2]at h
  obtain⟨d,hu,h⟩:=h
  split at h
  ·rename_i e
   simp only[zA2]at h
   obtain⟨sz,hsz,by1,hby,z,hz,b,hbt,h⟩:=h
   obtain⟨hzr,hza⟩:=run_zeroOf (w:=w) hz
   obtain⟨base',cap',hv⟩:=val_slice ρ base len cap
   split at h
   ·rename_i l
    split at h
    ·rename_i hc
     obtain⟨c1,c2,c3⟩:=hc
     obtain⟨s1,s2⟩:=small_le c2
     have hxu:∃ k,P.underlying xt=some (.int k):=by
      unfold intTy at hbt
      split at hbt
      ·rename_i k hk; exact⟨k,hk⟩
      ·cases hbt
      ·cases hbt
     obtain⟨k,hxu⟩:=hxu
     have hlb:l*(by1:Int)<=140737488351232:=by
      have h1:l.toNat*by1<=(len+l.toNat)*by1:=Nat.mul_le_mul_right _ (by omega)
      have h2:l*(by1:Int)=((l.toNat*by1:Nat):Int):=by rw[Int.natCast_mul,Int.toNat_of_nonneg c1]
      rw[h2]; omega
     have happ:∀ w':World,w'.heap=w.heap->(if l.toNat*sz=0 then (pure #[]:Sem (Array Value)) else do pure (Builtin.zeroCells (<-zeroValue e).cells l.toNat)).run P w'=.ok ((zerosL z.cells.toList l.toNat).map ρ.val).toArray w':=by
      intro w' _
      rw[zerosL_map ρ _ (af_list ρ hza)]
      by_cases h0:l.toNat*sz=0
      ·have:(zerosL z.cells.toList l.toNat)=[]:=zD4 (by rw[zerosL_len,c3]; exact h0)
       simp[h0,this]
      ·have hzc:Builtin.zeroCells z.cells l.toNat=(zerosL z.cells.toList l.toNat).toArray:=by
        unfold Builtin.zeroCells
        exact zeros_range _ _
       simp[h0,(run_zeroOf (w:=w') hz).1,hzc]
     obtain⟨ρ1,w1,hst,hrun⟩:=aAppend2_run (x:=.int .i64 l) (zeros:=true) r hv c2 hby hsz hz c3 (by rw[zerosL_len,c3]) happ h
     refine⟨ρ1,w1,hst,?_⟩
     rw[<-hrun,hv,Ren.val]
     exact append_eq0 hts hu hsz hxu rfl c1 (by omega) hby hlb
    ·cases h
   ·cases h
   ·simp only[zA2]at h
    obtain⟨n,hn,new,hnew,h⟩:=h
    split at h
    ·rename_i hc
     obtain⟨c1,c2,c3⟩:=hc
     have hxu:∃ d,P.underlying xt=some d/\∀ k,d≠.int k:=by
      unfold intTy at hbt
      split at hbt
      ·cases hbt
      ·rename_i d hne hd; exact⟨d,hd,fun k e=>hne k e⟩
      ·cases hbt
     obtain⟨d,hxu,hd⟩:=hxu
     obtain⟨ρ1,w1,hst,hrun⟩:=aAppend2_run (x:=ρ.val x) (zeros:=false) r hv c2 hby hsz hz c3 c1 (fun w' hw'=>firstC_run (w:=w') (r.heap hw') hnew (fun k hk=>by rw[hn]at hk; cases hk; exact zA8 _)) h
     refine⟨ρ1,w1,hst,?_⟩
     rw[<-hrun]
     exact append_eq hts hu hsz hxu hd hv (lenV_run hn)
    ·cases h
  ·cases h
 ·cases h
theorem firstC_zero {H:AHeap} {sz:Nat} {v:Value} {l:List Value} (h:firstC H sz 0 v=some l):l=[]:=by
 unfold firstC at h
 split at h
 ·rw[if_pos rfl]at h
  simpa using h.symm
 ·simpa using h.symm
 ·simpa[bytesV]using h.symm
 ·cases h
theorem aCopy_run (r:Rel P ρ H w) {ts:Array TypeId} {ty:TypeId} {d s v:Value} {H1:AHeap} (h:aCopy P H ts d s=some (v,H1)) :
  VOk P ρ H w (Builtin.copy_ ts ty #[ρ.val d,ρ.val s]) v H1:=by
 unfold aCopy at h
 split at h
 ·rename_i dt rest base dl cap hts
  obtain⟨lt⟩:=ts
  simp only at hts
  subst hts
  simp only[zA1,zA2]at h
  obtain⟨dd,hu,h⟩:=h
  split at h
  ·rename_i e
   simp only[zA2]at h
   obtain⟨sz,hsz,sl,hsl,cs,hcs,h⟩:=h
   have hmn:∀ k,lenV s=some k->zD1 sl dl<=k:=fun k hk=>by rw[hsl]at hk; cases hk; exact Nat.min_le_left _ _
   cases base with
   |none =>
    simp only[Option.some.injEq,Prod.mk.injEq]at h
    obtain⟨rfl,rfl⟩:=h
    refine VOk.same r ?_
    simp[Builtin.copy_,run_und hu,Ren.val,lenV_run hsl,run_szOf hsz,firstC_run r hcs hmn,goInt]
   |some a =>
    simp only at h
    split at h
    case isFalse hsp =>
     have hd0:dl=0:=Nat.eq_zero_of_not_pos (fun hp=>hsp (.inr (by omega)))
     subst hd0
     simp only[Option.some.injEq,Prod.mk.injEq]at h
     obtain⟨rfl,rfl⟩:=h
     refine VOk.same r ?_
     have hm0:zD1 sl 0=0:=Nat.min_eq_right (zA9 _)
     rw[hm0]at hcs hmn
     have hcs0:=firstC_zero hcs
     subst hcs0
     have hst:∀ b:Addr,(storeCells b []).run P w=.ok () w:=fun _=>rfl
     simp only[Builtin.copy_,List.getElem?_toArray,zC5,zD0,Sem.run_bind,run_und hu,Result.andThen_ok,lenV_run hsl,run_szOf hsz,hm0,firstC_run r hcs hmn,List.map_nil,hst,Sem.run_pure,goInt,Ren.val]
     rfl
    rename_i hsp
    simp only[zA2,Option.some.injEq,Prod.mk.injEq]at h
    obtain⟨g,hg,rfl,rfl⟩:=h
    obtain⟨w1,hst,hrun⟩:=aWrite_run r hg
    refine⟨ρ,w1,hst,?_⟩
    have hv:∃ c,ρ.val (.slice (some a) dl cap)=.slice (some ⟨ρ.blk a.block,a.off+ρ.sh a.block,none⟩) dl c:=⟨_,by rw[Ren.val,Ren.offS_of hsp,Ren.spS_of hsp]⟩
    obtain⟨c,hv⟩:=hv
    rw[hv]
    simp only[Builtin.copy_,List.getElem?_toArray,zC5,zD0,Sem.run_bind,run_und hu,Result.andThen_ok,lenV_run hsl,run_szOf hsz,firstC_run r hcs hmn,hrun,Sem.run_pure,goInt,Ren.val]
  ·cases h
 ·cases h
theorem aLen_run (r:Rel P ρ H w) {ts:Array TypeId} {ty t:TypeId} {rest:List TypeId} {x v:Value} (hts:ts.toList=t::rest) (h:aLen P H t x=some v) :
  (Builtin.len_ ts ty #[ρ.val x]).run P w=.ok (ρ.val v) w:=by
 obtain⟨lt⟩:=ts
 simp only at hts
 subst hts
 unfold aLen at h
 split at h
 ·rename_i e a n c hu
  simp only[Option.some.injEq]at h
  subst h
  obtain⟨b',c',hv⟩:=val_slice ρ a n c
  rw[hv]
  simp[Builtin.len_,run_und hu,goInt,Ren.val]
 ·rename_i s hu
  simp only[Option.some.injEq]at h
  subst h
  simp[Builtin.len_,run_und hu,goInt,Ren.val]
 ·rename_i k e hu
  simp only[Option.some.injEq]at h
  subst h
  simp[Builtin.len_,run_und hu,goInt,Ren.val]
 ·rename_i k e m hu
  split at h
  ·rename_i es clock op v0 hg
   simp only[Option.some.injEq]at h
   subst h
   obtain⟨o',hw,hf⟩:=r.obj _ _ hg
   simp only[Fits]at hf
   subst hf
   simp[Builtin.len_,run_und hu,goInt,Ren.val,getObj,Sem.run,hw]
  ·cases h
 ·rename_i n e hu
  simp only[Option.some.injEq]at h
  subst h
  simp[Builtin.len_,run_und hu,goInt,Ren.val]
 ·cases h
theorem aCap_run (r:Rel P ρ H w) {ts:Array TypeId} {ty t:TypeId} {rest:List TypeId} {x v:Value} (hts:ts.toList=t::rest) (h:aCap P H t x=some v) :
  (Builtin.cap_ ts ty #[ρ.val x]).run P w=.ok (ρ.val v) w:=by
 obtain⟨lt⟩:=ts
 simp only at hts
 subst hts
 unfold aCap at h
 split at h
 ·rename_i e n c hu
  simp only[Option.some.injEq]at h
  subst h
  simp[Builtin.cap_,run_und hu,goInt,Ren.val]
 ·rename_i e a n c hu
  split at h
  ·rename_i hx
   simp only[Option.some.injEq]at h
   subst h
   rw[exact_cap r hx]
   simp[Builtin.cap_,run_und hu,goInt,Ren.val]
  ·cases h
 ·rename_i n e hu
  simp only[Option.some.injEq]at h
  subst h
  simp[Builtin.cap_,run_und hu,goInt,Ren.val]
 ·cases h
theorem aMax_run {ts:Array TypeId} {ty:TypeId} {args:List Value} {v:Value} (h:aMinMax true args=some v):(Builtin.max_ ts ty (args.map ρ.val).toArray).run P w=.ok (ρ.val v) w:=by
 unfold aMinMax at h
 split at h
 ·rename_i k x k' y
  simp only[if_true,Option.some.injEq]at h
  subst h
  simp[Builtin.max_,Builtin.max2,Ren.val]
 ·cases h
theorem aMin_run {ts:Array TypeId} {ty:TypeId} {args:List Value} {v:Value} (h:aMinMax false args=some v):(Builtin.min_ ts ty (args.map ρ.val).toArray).run P w=.ok (ρ.val v) w:=by
 unfold aMinMax at h
 split at h
 ·rename_i k x k' y
  simp only[zB7,if_false,Option.some.injEq]at h
  subst h
  simp[Builtin.min_,Builtin.min2,Ren.val]
 ·cases h
def NRun (ρ1:Ren) (x:ANext) (res:Result Next) (w1:World):Prop :=
 match x with
 |.value v=>res=.ok (.value (ρ1.val v)) w1
 |.skip=>res=.ok .skip w1
 |.enter f args=>res=.ok (.enter f (args.map ρ1.val).toArray) w1
 |.round rd=>∃ fn,res=.ok (.round (ρ1.blk rd.l) fn (ρ1.tmps rd.env) rd.assign rd.body) w1
 |.panic v=>res=.halt (.panic (ρ1.val v)) w1
def NOk (P:Program) (ρ:Ren) (H:AHeap) (w:World) (s:Sem Next) (x:ANext) (H1:AHeap):Prop :=
 ∃ ρ1 w1,St P ρ H w ρ1 H1 w1/\NRun ρ1 x (s.run P w) w1
theorem NOk.of {s:Sem Value} {x:ANext} {H1:AHeap} (h:ROk P ρ H w s x H1):NOk P ρ H w (do pure (.value (<-s))) x H1:=by
 obtain⟨ρ1,w1,hst,hr⟩:=h
 refine⟨ρ1,w1,hst,?_⟩
 cases x<;>simp_all [NRun]
theorem NOk.ofV {s:Sem Value} {v:Value} {H1:AHeap} (h:VOk P ρ H w s v H1):NOk P ρ H w (do pure (.value (<-s))) (.value v) H1:=NOk.of (ROk.of h)
theorem NOk.val (r:Rel P ρ H w) {s:Sem Value} {v:Value} (h:s.run P w=.ok (ρ.val v) w):NOk P ρ H w (do pure (.value (<-s))) (.value v) H:=NOk.of (ROk.val r h)
end
section
variable {P : Program} {ρ : Ren} {H : AHeap} {w : World}
theorem liesAt_off {e:TypeId} (hc:P.cellsOf e=1) (count off n:Nat) (hn:off+n<=count):liesAt P P.depth e (count / P.cellsOf e) off e n=true:=by
 have hd:P.depth=(2*(P.types.size+Made.depth)+1)+1:=rfl
 rw[hd]
 simp only[liesAt,Bool.or_eq_true]
 left
 rw[hd]
 simp[rowAt,hc,hn,sameLayout,Nat.mod_one]
theorem liesAt_one {u:TypeId} {sz:Nat} (hc:P.cellsOf u=sz) (h0:0<sz):liesAt P P.depth u (sz / P.cellsOf u) 0 u 1=true:=by
 have hd:P.depth=(2*(P.types.size+Made.depth)+1)+1:=rfl
 rw[hd]
 simp only[liesAt,Bool.or_eq_true]
 left
 rw[hd]
 simp[rowAt,hc,sameLayout,Nat.div_self h0]
 omega
theorem bytesOfCells_eq:∀ {cs:List Value} {l:List UInt8},bytesOfCells cs=some l->l.length=cs.length/\∀ (j:Nat) v,cs[j]?=some v->∃ n,v=.int .u8 n/\l[j]?=some (UInt8.ofNat n.toNat)
 |[],l,h=>by cases h; exact⟨rfl,fun j v h=>by simp at h⟩
 |v::cs,l,h=>by
  cases v with
  |int k n =>
   cases k<;>simp only[bytesOfCells,zA6,reduceCtorEq]at h
   obtain⟨r,hr,rfl⟩:=h
   obtain⟨h1,h2⟩:=bytesOfCells_eq hr
   refine⟨by simp[h1],fun j v hv=>?_⟩
   cases j with
   |zero=>simp only[zC5,Option.some.injEq]at hv; subst hv; exact⟨n,rfl,rfl⟩
   |succ j=>simpa using h2 j v (by simpa using hv)
  |_=>simp[bytesOfCells]at h
theorem run_loadU8:∀ (l:List UInt8) (a:Addr) (acc:ByteArray),(∀ j x,l[j]?=some x->∃ n,w.cell? (a.add j)=some (.int .u8 n)/\x=n.toNat.toUInt8) ->
  (loadBytes a acc l.length).run P w=.ok ⟨acc.data++l.toArray⟩ w
 |[],a,acc,_=>by simp[loadBytes]
 |x::l,a,acc,h=>by
  obtain⟨n,h0,hx⟩:∃ n,w.cell? a=some (.int .u8 n)/\x=n.toNat.toUInt8:=by
   have:=h 0 x rfl
   simpa[Addr.add]using this
  have ih:=run_loadU8 l (a.add 1) (acc.push x) (fun j y hy=>by
   have:=h (j+1) y (by simpa using hy)
   have e:(a.add 1).add j=a.add (j+1):=by
    unfold Addr.add
    by_cases hj:j=0
    ·subst hj; simp
    ·simp[hj]; omega
   rw[e]; exact this)
  simp only[zB0,loadBytes,Sem.run_bind,run_load,h0,Result.andThen,<-hx]
  rw[ih]
  congr 1
  apply ByteArray.ext
  simp[ByteArray.push]
theorem aSliceData_run {x v:Value} {ts:Array TypeId} {ty:TypeId} (h:aSliceData x=some v):(Builtin.unsafeSliceData_ ts ty ([x].map ρ.val).toArray).run P w=.ok (ρ.val v) w:=by
 unfold aSliceData at h
 split at h
 ·cases h; rfl
 ·rename_i n off sp len c
  cases h
  have h1:=Ren.offS_cap (ρ:=ρ) (a:=⟨n,off,sp⟩) (len:=len) (cap:=c+1) (Nat.succ_ne_zero c)
  have h2:=Ren.spS_cap (ρ:=ρ) (a:=⟨n,off,sp⟩) (len:=len) (cap:=c+1) (Nat.succ_ne_zero c)
  have h3:=Ren.cap_le (ρ:=ρ) (a:=⟨n,off,sp⟩) (len:=len) (cap:=c+1)
  simp only[zB3,List.map_nil,Ren.val,h1,h2]
  have h4:ρ.capS ⟨n,off,sp⟩ len (c+1)≠0:=by omega
  exact Lib.run_unsafeSliceData_row w ts ty ⟨ρ.blk n,off+ρ.sh n,none⟩ len _ h4
 ·cases h
theorem freeze_at {b:Nat} {c:Array Value} {e:TypeId} {fz:Nat × Nat} (h:w.heap[b]?=some (.cells c e fz)) (off n:Nat) (hn:n≠0) :
  (∃ fz',(w.freeze ⟨b,off,none⟩ n).heap[b]?=some (.cells c e fz'))/\(w.freeze ⟨b,off,none⟩ n).heap.size=w.heap.size/\(∀ b',b'≠b->(w.freeze ⟨b,off,none⟩ n).heap[b']?=w.heap[b']?) /\
   (w.freeze ⟨b,off,none⟩ n).os=w.os/\(w.freeze ⟨b,off,none⟩ n).tape=w.tape/\(w.freeze ⟨b,off,none⟩ n).output=w.output:=by
 unfold World.freeze
 rw[if_neg hn]
 refine⟨?_,by simp,fun b' hb=>?_,rfl,rfl,rfl⟩
 ·obtain⟨lo,hi⟩:=fz
  simp[Array.getElem?_modify,h]
 ·simp only[Array.getElem?_modify]
  rw[if_neg (fun e=>hb e.symm)]
theorem unsafeStr_none {pt ty:TypeId} {rest:List TypeId}:(Builtin.unsafeString_ ⟨pt::rest⟩ ty #[.pointer none,.int .i64 0]).run P w=.ok (.string .empty) w:=by
 have hmax:IntKind.i64.max=9223372036854775807:=rfl
 obtain⟨A,B,C,hdef⟩:∃ (A:Sem PUnit) (B:Sem PUnit) (C:Sem Value),Builtin.unsafeString_ ⟨pt::rest⟩ ty #[.pointer none,.int .i64 0] =
   (do
    let n <-asInt (.int .i64 0)
    if n<0 then A
    if n>IntKind.i64.max then B
    if n=0 then pure (.string .empty)
    else C):=⟨_,_,_,rfl⟩
 rw[hdef]
 simp[asInt,asIntOf,hmax]
theorem unsafeStr_some {pt ty : TypeId} {rest : List TypeId} {a : Addr} {n : Int} : ∃ (A : Sem PUnit) (B : Sem PUnit) (C : Sem Value), Builtin.unsafeString_ ⟨pt :: rest⟩ ty #[.pointer (some a), .int .i64 n] =
   (do
    let n <-asInt (.int .i64 n)
    if n<0 then A
    if n>IntKind.i64.max then B
    if n=0 then pure (.string .empty)
    else if <-variablesAt a (<-elemOf pt) n.toNat then do
     let s <-loadBytes a .empty n.toNat
     freeze a n.toNat
     pure (.string s)
    else C):=⟨_,_,_,rfl⟩
theorem run_unsafeStr_off {ts:Array TypeId} {pt ty e:TypeId} {rest:List TypeId} (hts:ts.toList=pt::rest) (hp:P.underlying pt=some (.pointer e)) (hc:P.cellsOf e=1) (g off cells:Nat) (hsh:w.shape? g=some (e,cells)) (l:List UInt8) (h0:l.length≠0) (hn:off+l.length<=cells) (h63:l.length<=9223372036854775807)
  (hcell:∀ j x,l[j]?=some x->∃ n,w.cell? ((⟨g,off,none⟩:Addr).add j)=some (.int .u8 n)/\x=n.toNat.toUInt8) :
  (Builtin.unsafeString_ ts ty #[.pointer (some ⟨g,off,none⟩),.int .i64 l.length]).run P w=.ok (.string ⟨l.toArray⟩) (w.freeze ⟨g,off,none⟩ l.length):=by
 have hlb:=run_loadU8 (P:=P) l ⟨g,off,none⟩ .empty hcell
 have hlies:=liesAt_off (P:=P) hc cells off l.length hn
 have h63':¬(9223372036854775807:Int)<(l.length:Int):=by omega
 have hmax:IntKind.i64.max=9223372036854775807:=rfl
 have hneg:¬(l.length:Int)<0:=by omega
 have hl:l≠[]:=fun e=>h0 (by rw[e]; rfl)
 obtain⟨ts⟩:=ts
 simp only at hts
 subst hts
 obtain⟨A,B,C,hd⟩:=unsafeStr_some (pt:=pt) (ty:=ty) (rest:=rest) (a:=⟨g,off,none⟩) (n:=(l.length:Int))
 rw[hd]
 simp[asInt,asIntOf,hmax,h63',hneg,hl,variablesAt,hsh,elemOf,run_underlying hp,hlies,hlb]
theorem aUnsafeStr_run (r:Rel P ρ H w) {ts:Array TypeId} {ty:TypeId} {p n v:Value} {H1:AHeap} (h:aUnsafeStr P H ts p n=some (v,H1)) :
  VOk P ρ H w (Builtin.unsafeString_ ts ty ([p,n].map ρ.val).toArray) v H1:=by
 unfold aUnsafeStr at h
 have hmax:IntKind.i64.max=9223372036854775807:=rfl
 split at h
 ·rename_i pt rest hts
  simp only[Option.some.injEq,Prod.mk.injEq]at h
  obtain⟨rfl,rfl⟩:=h
  refine VOk.same r ?_
  obtain⟨ts⟩:=ts
  simp only at hts
  subst hts
  simp only[zB3,List.map_nil,Ren.val]
  exact unsafeStr_none
 ·rename_i pt rest b off n hts
  simp only[zA1,zA2]at h
  obtain⟨u,hpt,h⟩:=h
  split at h
  ·rename_i e'
   simp only[zA2]at h
   obtain⟨u2,hu2,h⟩:=h
   split at h
   ·simp only[zA2]at h
    obtain⟨u3,hsz,h⟩:=h
    split at h
    ·split at h
     ·rename_i z e q o c hg
      split at h
      ·rename_i hn0
       subst hn0
       simp only[Option.some.injEq,Prod.mk.injEq]at h
       obtain⟨rfl,rfl⟩:=h
       refine VOk.same r ?_
       obtain⟨ts⟩:=ts
       simp only at hts
       subst hts
       simp only[zB3,List.map_nil,Ren.val]
       obtain⟨A,B,C,hd⟩:=unsafeStr_some (pt:=pt) (ty:=ty) (rest:=rest) (a:=⟨ρ.blk b,off+ρ.sh b,none⟩) (n:=0)
       rw[hd]
       simp[asInt,asIntOf,hmax]
      ·split at h
       ·rename_i hc
        obtain⟨he,hn,hn9,hle⟩:=hc
        subst he
        have hle:=ble_le hle
        simp only[zA2,Option.some.injEq,Prod.mk.injEq]at h
        obtain⟨l,hl,rfl,rfl⟩:=h
        obtain⟨hlen,hbyte⟩:=bytesOfCells_eq hl
        rw[RV.length_gets]at hlen
        obtain⟨o',hw,hfit⟩:=r.obj _ _ hg
        simp only[Fits]at hfit
        obtain⟨cs,fz,rfl,hcs,hcl,hop⟩:=hfit
        have hsize:ρ.sh b+c.n<=cs.size:=by
         cases o with
         |false=>obtain⟨k1,k2,_⟩:=hcl rfl; omega
         |true=>have:=(hop rfl trivial).1.1; omega
        have hnl:n=(l.length:Int):=by omega
        obtain⟨⟨fz',m1⟩,m2,m3,m4,m5,m6⟩:=freeze_at hw (off+ρ.sh b) l.length (by omega)
        have hnz:¬Fz (H.get b):=nz_of hg (by cases o<;>rfl)
        refine⟨ρ,_,St.upd r (ne_none hg) hnz (o:=⟨.cells z e (1,q),true,c⟩) (o':=.cells cs e fz') ?_ ?_ m1 m2 m3 m4 m5 m6,?_⟩
        ·exact (r.dom _ _ hg).2
        ·simp only[Fits]
         exact⟨cs,_,rfl,hcs,fun h=>(by cases h),fun _ h=>(by cases h)⟩
        ·simp only[zB3,List.map_nil,Ren.val]
         rw[hnl]
         have hsh:w.shape? (ρ.blk b)=some (e,cs.size):=by unfold World.shape?; rw[hw]
         refine run_unsafeStr_off hts hpt (cellsOf_szOf hsz) _ _ _ hsh l (by omega) (by omega) (by omega) fun j x hx=>?_
         have hj:j<n.toNat:=by have:=(List.getElem?_eq_some_iff.1 hx).1; omega
         obtain⟨k,e1,e2⟩:=hbyte j ((c.gets off n.toNat)[j]'(by simpa using hj)) (zA7 _)
         refine⟨k,?_,?_⟩
         ·have e3:c.get (off+j)=.int .u8 k:=by
           have:=RV.gets_getD c off n.toNat j hj
           rw[<-this,List.getD_eq_getElem?_getD,zA7 (by simpa using hj),e1]; rfl
          have:=hcs (off+j) (by omega)
          rw[e3,Ren.val]at this
          have ea:(⟨ρ.blk b,off+ρ.sh b,none⟩:Addr).add j=⟨ρ.blk b,off+j+ρ.sh b,none⟩:=by
           unfold Addr.add
           by_cases hj:j=0
           ·subst hj; simp
           ·simp[hj]; omega
          rw[ea]
          unfold World.cell?
          rw[hw]
          exact this
         ·rw[hx]at e2
          cases e2
          rfl
       ·cases h
     ·cases h
    ·cases h
   ·cases h
  ·cases h
 ·cases h
theorem run_seenAt {a:Addr} {c:Array Value} {e:TypeId} {f:Nat × Nat} (hw:w.heap[a.block]?=some (.cells c e f)):(Conv.seenAt a).run P w=.ok a w:=by
 have hsh:w.shape? a.block=some (e,c.size):=by unfold World.shape?; rw[hw]
 have hv:(viewAt a.block).run P w=.ok none w:=by
  unfold viewAt
  simp[hsh]
 unfold Conv.seenAt
 simp[hv]
theorem conv_unsafe1 {s d t:TypeId} {a:Addr} {c:Array Value} {e:TypeId} {f:Nat × Nat} {sz:Nat} (h1:P.underlying s=some (.pointer t)) (h2:P.underlying d=some .unsafePointer) (hw:w.heap[a.block]?=some (.cells c e f)) (hs:a.spot=none) (ho:a.off<c.size) (hz:szOf P t=some sz) (h0:0<sz) :
  (Conv.unsafePointer s d (.pointer (some a))).run P w=.ok (.pointer (some a)) w:=by
 have hsh:w.shape? a.block=some (e,c.size):=by unfold World.shape?; rw[hw]
 have hc:(cellsIn a.block).run P w=.ok (some c.size) w:=by
  unfold cellsIn
  simp[hsh]
 have hn:¬c.size<=a.off:=by omega
 have h0':sz≠0:=by omega
 unfold Conv.unsafePointer
 simp[Sem.run_bind,run_und h1,run_und h2,run_seenAt hw,hc,run_szOf hz,hn,h0']
theorem conv_unsafe2 {s d u:TypeId} {a:Addr} {c:Array Value} {f:Nat × Nat} {sz:Nat} (h1:P.underlying s=some .unsafePointer) (h2:P.underlying d=some (.pointer u)) (hw:w.heap[a.block]?=some (.cells c u f)) (ho:a.off=0) (hz:szOf P u=some sz) (h0:0<sz) (hc:c.size=sz) :
  (Conv.unsafePointer s d (.pointer (some a))).run P w=.ok (.pointer (some a)) w:=by
 have hsh:w.shape? a.block=some (u,c.size):=by unfold World.shape?; rw[hw]
 have hl:=liesAt_one (P:=P) (cellsOf_szOf hz) h0
 unfold Conv.unsafePointer
 simp[Sem.run_bind,run_und h1,run_und h2,run_seenAt hw,run_szOf hz,variablesAt,hsh,ho,hc,hl]
theorem isExt_of {g:FuncId} {name:String} (h:isExt P g name=true):∃ fn,P.funcs[g]?=some fn/\fn.body.isNone=true/\fn.name=name/\fn.origin = "" := by
 unfold isExt at h
 split at h
 ·rename_i fn hf
  simp only[zA4,beq_iff_eq]at h
  exact⟨fn,hf,h.1.1,h.1.2,h.2⟩
 ·cases h
theorem ext_noEsc {fn:Func} (h1:fn.name = "internal/abi.NoEscape") (h2:fn.origin = ""):Extern.findNext fn=none/\Extern.find fn=some Extern.AbiNoEscape.same:=by
 unfold Extern.findNext Extern.find
 simp only[h1,h2]
 exact⟨by kernel_rfl,by kernel_rfl⟩
theorem ext_noZero {fn:Func} (h1:fn.name = "internal/bytealg.MakeNoZero") (h2:fn.origin = ""):Extern.findNext fn=none/\Extern.find fn=some (Extern.BytealgMakeNoZero.makeNoZero fn.params fn.resultTypes):=by
 unfold Extern.findNext Extern.find
 simp only[h1,h2]
 exact⟨by kernel_rfl,by kernel_rfl⟩
theorem externW_run (r:Rel P ρ H w) {g:FuncId} {args:List Value} {x:ANext} {H1:AHeap} (h:externW P H g args=some (x,H1)) :
  NOk P ρ H w (callFunc g (args.map ρ.val).toArray) x H1:=by
 unfold externW at h
 split at h
 ·rename_i a
  split at h
  ·rename_i he
   simp only[Option.some.injEq,Prod.mk.injEq]at h
   obtain⟨rfl,rfl⟩:=h
   obtain⟨fn,hf,hb,hn,ho⟩:=isExt_of he
   obtain⟨f1,f2⟩:=ext_noEsc hn ho
   refine⟨ρ,w,St.refl r,?_⟩
   have:=run_callFunc_extern hf (by rw[hn]; decide) hb f1 f2 ([Value.pointer (some a)].map ρ.val).toArray w
   simp only[NRun]
   rw[this]
   have hs:Extern.AbiNoEscape.same ([Value.pointer (some a)].map ρ.val).toArray=pure (ρ.val (.pointer (some a))):=rfl
   rw[hs]
   simp only[Sem.run_pure,Result.andThen_ok]
  ·cases h
 ·rename_i n
  split at h
  ·rename_i hc
   simp only[zA4,decide_eq_true_eq]at hc
   obtain⟨⟨he,hn0⟩,hn1⟩:=hc
   obtain⟨fn,hf,hb,hn,ho⟩:=isExt_of he
   obtain⟨f1,f2⟩:=ext_noZero hn ho
   rw[hf]at h
   simp only at h
   split at h
   ·rename_i t hts
    split at h
    ·rename_i e hu
     split at h
     ·rename_i hsz
      simp only[Option.some.injEq,Prod.mk.injEq]at h
      obtain⟨rfl,rfl⟩:=h
      have hr:fn.resultTypes=#[t]:=by
       apply Array.ext'
       rw[hts]
      obtain⟨k,rfl⟩:∃ k:Nat,n=k:=⟨n.toNat,by omega⟩
      obtain⟨cs,hrun,hle,hmx⟩:=Lib.run_makeNoZero (P:=P) w fn.params t e hu k (by omega)
      have s1:=drew_st r
      have s2:=s1.trans (drew_st s1.rel)
      have s3:=St.new s2.rel ⟨.cells #[] e (0,0),true,⟨[],0⟩⟩ (.cells cs e) 0 cs.size (by intro i hi; exact absurd hi (Nat.not_lt_zero i)) (by
       simp only[Fits]
       refine⟨_,_,rfl,fun i hi=>absurd hi (Nat.not_lt_zero i),fun h=>(by cases h),fun _ _=>⟨⟨?_,fun _=>?_⟩,fun i _ _=>?_⟩⟩
       ·simp[cellsOf_szOf hsz]
       ·have:=hmx (by simp only[maxLen]; omega)
        simp only[maxLen]at this
        simp[cellsOf_szOf hsz]
        omega
       ·simp only; omega)
      refine⟨_,_,s2.trans s3,?_⟩
      have:=run_callFunc_extern hf (by rw[hn]; decide) hb f1 f2 ([Value.int .i64 (k:Int)].map ρ.val).toArray w
      have ha:([Value.int .i64 (k:Int)].map ρ.val).toArray=#[.int .i64 (k:Int)]:=by simp[Ren.val]
      simp only[NRun]
      rw[this,hr,ha,hrun]
      have hv:=val_fresh ρ H.next w.drew.drew.heap.size 0 cs.size k 0
      rw[zC0]at hv
      simp only[Result.andThen_ok,Int.toNat_natCast]
      rw[hv]
      rfl
     ·cases h
    ·cases h
   ·cases h
  ·cases h
 ·cases h
end
section
variable {P : Program} {ρ : Ren} {H : AHeap} {w : World}
theorem runes_af (s:ByteArray):∀ (b i:Nat) (acc:Array Value),(∀ v∈acc.toList,af v=true)->∀ v∈(Conv.runesFrom s b i acc).toList,af v=true:=by
 intro b
 induction b with
 |zero=>intro i acc h; simpa[Conv.runesFrom]using h
 |succ b ih =>
  intro i acc h
  simp only[Conv.runesFrom]
  split
  ·refine ih _ _ ?_
   intro v hv
   simp only[Array.toList_push,zC9,zB4]at hv
   rcases hv with hv|rfl
   ·exact h v hv
   ·rfl
  ·exact h
theorem aNew_str (r:Rel P ρ H w) {e:TypeId} {c:List Value} {H1:AHeap} (h:aNew H e c true=some H1) (post:Array Value) (ex:Nat) (hp:post.size=ex*P.cellsOf e) (hr:c.length+ex*P.cellsOf e<=9223372036854775807*P.cellsOf e) :
  St P ρ H w (ρ.at H.next w.heap.size 0 ex) H1 (w.alloc (.cells ((c.map ρ.val).toArray++post) e (c.length+post.size,c.length+post.size+1))):=by
 unfold aNew at h
 split at h
 ·rename_i hsc
  simp only[Option.some.injEq]at h
  subst h
  refine St.new r _ _ 0 ex ?_ ?_
  ·simp only[sco,RV.n_ofList,RV.get_ofList]
   intro i hi
   exact scbL_iff.1 hsc _ (by simp[List.getD,hi])
  ·simp only[Fits]
   refine⟨_,_,rfl,fun i hi=>?_,fun h=>(by cases h),fun _=>?_⟩
   ·simp only[RV.n_ofList]at hi
    rw[RV.get_ofList,Ren.at_sh,val_ext (Ren.at_ext ρ H.next w.heap.size 0 ex) _ (scbL_iff.1 hsc _ (by simp[List.getD,hi]))]
    rw[Array.getElem?_append_left (by simpa using hi)]
    simp[List.getD,hi]
   ·simp[hp]
    exact⟨fun _=>hr,by omega⟩
 ·cases h
theorem run_shape (b:Nat):(shape b).run P w=.ok (w.shape? b) w:=rfl
theorem run_freeze (a:Addr) (n:Nat):(freeze a n).run P w=.ok () (w.freeze a n):=rfl
theorem alloc_heap (o:Obj):(w.alloc o).heap=w.heap.push o:=rfl
theorem alloc_at (o:Obj):(w.alloc o).heap[w.heap.size]?=some o:=by rw[alloc_heap]; simp
theorem run_markStr (c:Array Value) (e:TypeId):(markStringish ⟨w.heap.size,0,none⟩).run P (w.alloc (.cells c e))=.ok () (w.alloc (.cells c e (c.size,c.size+1))):=by
 have h1:(w.alloc (.cells c e)).shape? w.heap.size=some (e,c.size):=by
  unfold World.shape?
  rw[alloc_at]
 unfold markStringish
 simp only[Sem.run_bind,run_shape,h1,Result.andThen_ok,run_freeze]
 congr 1
 unfold World.freeze
 rw[if_neg (by decide),alloc_heap]
 have:∀ f:Obj->Obj,(w.heap.push (.cells c e)).modify w.heap.size f=w.heap.push (f (.cells c e)):=by
  intro f
  apply Array.ext_getElem?
  intro i
  rw[Array.getElem?_modify]
  by_cases hi:w.heap.size=i
  ·subst hi; simp
  ·rw[if_neg hi,Array.getElem?_push,Array.getElem?_push,if_neg (fun h=>hi h.symm),if_neg (fun h=>hi h.symm)]
 simp only[this]
 simp
 rfl
theorem run_markOld {b:Nat} {c:Array Value} {e:TypeId} (h:w.heap[b]?=some (.cells c e (0,0))) (off:Nat) :
  (markStringish ⟨b,off,none⟩).run P w=.ok () (w.freeze ⟨b,c.size,none⟩ 1)/\(w.freeze ⟨b,c.size,none⟩ 1).heap[b]?=some (.cells c e (c.size,c.size+1))/\(w.freeze ⟨b,c.size,none⟩ 1).heap.size=w.heap.size/\(∀ b',b'≠b->(w.freeze ⟨b,c.size,none⟩ 1).heap[b']?=w.heap[b']?) /\
   (w.freeze ⟨b,c.size,none⟩ 1).os=w.os/\(w.freeze ⟨b,c.size,none⟩ 1).tape=w.tape:=by
 have h1:w.shape? b=some (e,c.size):=by
  unfold World.shape?
  rw[h]
 refine⟨?_,?_,?_,fun b' hb=>?_,?_,?_⟩
 ·unfold markStringish
  simp only[Sem.run_bind,run_shape,h1,Result.andThen_ok,run_freeze]
 ·unfold World.freeze
  rw[if_neg (by decide)]
  simp[Array.getElem?_modify,h]
 ·unfold World.freeze
  rw[if_neg (by decide)]
  simp
 ·unfold World.freeze
  rw[if_neg (by decide)]
  simp only[Array.getElem?_modify]
  rw[if_neg (fun e=>hb e.symm)]
 ·unfold World.freeze; rw[if_neg (by decide)]
 ·unfold World.freeze; rw[if_neg (by decide)]
theorem bytesV_map (s:ByteArray):(bytesV s.data.toList).toArray=s.data.map fun b=>(.int .u8 b.toNat:Value):=by
 unfold bytesV
 apply Array.ext'
 simp
theorem conv_bytes (r:Rel P ρ H w) {e:TypeId} {s:ByteArray} {g:AHeap} (hsz:szOf P e=some 1) (hg:aNew H e (bytesV s.data.toList) true=some g) (hs:s.size<=1000000000) :
  VOk P ρ H w (Conv.stringToBytes e s) (.slice (some ⟨H.next,0,none⟩) s.size s.size) g:=by
 have hcut:=cut_append s.size 0 e (w.tape w.drawn (.appendCap s.size 0 e))
 obtain⟨ex,hex⟩:∃ ex,(Question.appendCap s.size 0 e).cut (w.tape w.drawn (.appendCap s.size 0 e))=s.size+ex:=⟨_,(Nat.add_sub_cancel' hcut).symm⟩
 have hfo:(Question.appendCap s.size 0 e).forced=false:=rfl
 have hst:=aNew_str (r.heap (w':=w.drew) rfl) hg (Array.replicate ex (.int .u8 0)) ex (by simp[cellsOf_szOf hsz]) (by
  rw[cellsOf_szOf hsz,Nat.mul_one,Nat.mul_one]
  have:=cut_append_le s.size 0 e (w.tape w.drawn (.appendCap s.size 0 e)) (by omega)
  have hl:(bytesV s.data.toList).length=s.size:=by unfold bytesV; simp
  omega)
 refine⟨_,_,(drew_st r).trans hst,?_⟩
 unfold Conv.stringToBytes
 simp only[Sem.run_bind,run_choose,hfo,zB7,if_false,hex]
 have hdrew:({w with drawn:=w.drawn+1}:World)=w.drew:=rfl
 simp only[hdrew,Result.andThen_ok,newRow,Sem.run_bind,run_newObj,Sem.run_pure,Nat.add_sub_cancel_left]
 have:=run_markStr (P:=P) (w:=w.drew) ((s.data.map fun b=>(.int .u8 b.toNat:Value))++Array.replicate ex (.int .u8 0)) e
 have e1:((bytesV s.data.toList).map ρ.val).toArray=s.data.map fun b=>(.int .u8 b.toNat:Value):=by
  rw[<-bytesV_map]
  congr 1
  unfold bytesV
  rw[List.map_map]
  apply zD8
  intro b _
  simp[Ren.val]
 refine (congrArg (fun q=>Result.andThen q _) this).trans ?_
 rw[val_fresh,e1]
 simp only[Result.andThen_ok]
 simp[bytesV]
theorem conv_runes (r:Rel P ρ H w) {e:TypeId} {s:ByteArray} {g:AHeap} (hsz:szOf P e=some 1) (hg:aNew H e (Conv.runesFrom s s.size 0 #[]).toList true=some g) (hs:(Conv.runesFrom s s.size 0 #[]).toList.length<=1000000000) :
  VOk P ρ H w (Conv.stringToRunes e s) (.slice (some ⟨H.next,0,none⟩) (Conv.runesFrom s s.size 0 #[]).toList.length (Conv.runesFrom s s.size 0 #[]).toList.length) g:=by
 generalize hel:Conv.runesFrom s s.size 0 #[]=el at hg hs
 have hcut:=cut_append el.size 0 e (w.tape w.drawn (.appendCap el.size 0 e))
 obtain⟨ex,hex⟩:∃ ex,(Question.appendCap el.size 0 e).cut (w.tape w.drawn (.appendCap el.size 0 e))=el.size+ex:=⟨_,(Nat.add_sub_cancel' hcut).symm⟩
 have hfo:(Question.appendCap el.size 0 e).forced=false:=rfl
 have hst:=aNew_open (r.heap (w':=w.drew) rfl) hg (Array.replicate ex (.int .i32 0)) ex (by simp[cellsOf_szOf hsz]) (by
  rw[cellsOf_szOf hsz,Nat.mul_one,Nat.mul_one]
  have hl:el.toList.length=el.size:=by simp
  have:=cut_append_le el.size 0 e (w.tape w.drawn (.appendCap el.size 0 e)) (by omega)
  omega)
 refine⟨_,_,(drew_st r).trans hst,?_⟩
 unfold Conv.stringToRunes
 simp only[hel,Sem.run_bind,run_choose,hfo,zB7,if_false,hex]
 have hdrew:({w with drawn:=w.drawn+1}:World)=w.drew:=rfl
 simp only[hdrew,Result.andThen_ok,newRow,Sem.run_bind,run_newObj,Sem.run_pure,Nat.add_sub_cancel_left]
 have haf:∀ v∈el.toList,af v=true:=by
  rw[<-hel]; exact runes_af s s.size 0 #[] (by simp)
 have e1:(el.toList.map ρ.val).toArray=el:=by
  have:el.toList.map ρ.val=el.toList:=by
   conv=>rhs; rw[<-List.map_id el.toList]
   apply zD8
   intro v hv
   exact val_af ρ v (haf v hv)
  rw[this]
 rw[val_fresh,e1]
 simp
 rfl
theorem run_forIn {β:Type} (f:Value->β->Sem (ForInStep β)) (g:Value->β->β):∀ (l:List Value) (b:β),(∀ v∈l,∀ b,(f v b).run P w=.ok (.yield (g v b)) w) ->
  (forIn l.toArray b f).run P w=.ok (l.foldl (fun b v=>g v b) b) w:=by
 intro l
 induction l with
 |nil=>intro b _; simp
 |cons v l ih =>
  intro b h
  have:=ih (g v b) (fun u hu c=>h u (zB5 _ hu) c)
  simp only[List.forIn_toArray]at this ⊢
  simp only[List.forIn_cons,Sem.run_bind,h v (zB9 ..) b,Result.andThen_ok,List.foldl_cons,this]
theorem ba_push (a:List UInt8) (b:UInt8):(ByteArray.mk a.toArray).push b=⟨(a++[b]).toArray⟩:=by
 simp[ByteArray.push]
theorem ba_append (a:List UInt8) (b:ByteArray):(ByteArray.mk a.toArray)++b=⟨(a++b.data.toList).toArray⟩:=by
 apply ByteArray.ext
 simp[ByteArray.data_append]
theorem bytes_fold (ρ:Ren):∀ (cs:List Value) (l acc:List UInt8),bytesOfCells cs=some l ->
  (cs.map ρ.val).foldl (fun (s:ByteArray) (v:Value)=>match v with|.int .u8 n=>s.push (UInt8.ofNat n.toNat)|_=>s) ⟨acc.toArray⟩=⟨(acc++l).toArray⟩/\∀ v∈cs.map ρ.val,∃ n,v=.int .u8 n:=by
 intro cs
 induction cs with
 |nil=>intro l acc h; simp only[bytesOfCells,Option.some.injEq]at h; subst h; simp
 |cons c cs ih =>
  intro l acc h
  unfold bytesOfCells at h
  split at h
  ·cases ‹c::cs=[]›
  ·rename_i n r heq
   cases heq
   simp only[zA6]at h
   obtain⟨l1,h1,rfl⟩:=h
   obtain⟨e1,e2⟩:=ih l1 (acc++[UInt8.ofNat n.toNat]) h1
   refine⟨?_,?_⟩
   ·simp only[zB3,Ren.val,List.foldl_cons,ba_push]
    rw[e1]
    simp
   ·intro v hv
    simp only[zB3,zB1]at hv
    rcases hv with rfl|hv
    ·exact⟨n,by rw[Ren.val]⟩
    ·exact e2 v hv
  ·cases h
theorem runes_fold (ρ:Ren):∀ (cs:List Value) (l acc:List UInt8),runesOfCells cs=some l ->
  (cs.map ρ.val).foldl (fun (s:ByteArray) (v:Value)=>match v with|.int .i32 n=>s++Utf8.encode n|_=>s) ⟨acc.toArray⟩=⟨(acc++l).toArray⟩/\∀ v∈cs.map ρ.val,∃ n,v=.int .i32 n:=by
 intro cs
 induction cs with
 |nil=>intro l acc h; simp only[runesOfCells,Option.some.injEq]at h; subst h; simp
 |cons c cs ih =>
  intro l acc h
  unfold runesOfCells at h
  split at h
  ·cases ‹c::cs=[]›
  ·rename_i n r heq
   cases heq
   simp only[zA6]at h
   obtain⟨l1,h1,rfl⟩:=h
   obtain⟨e1,e2⟩:=ih l1 (acc++(Utf8.encode n).data.toList) h1
   refine⟨?_,?_⟩
   ·simp only[zB3,Ren.val,List.foldl_cons,ba_append]
    rw[e1]
    simp
   ·intro v hv
    simp only[zB3,zB1]at hv
    rcases hv with rfl|hv
    ·exact⟨n,by rw[Ren.val]⟩
    ·exact e2 v hv
  ·cases h
theorem conv_str32 (r:Rel P ρ H w) {a:Option Addr} {len cap:Nat} {cs:List Value} {l:List UInt8} (hc:firstC H 1 len (.slice a len len)=some cs) (hl:runesOfCells cs=some l) :
  (Conv.runesToString (ρ.val (.slice a len cap))).run P w=.ok (.string ⟨l.toArray⟩) w:=by
 have hf:=firstC_run r hc (fun k hk=>by simp only[lenV,Option.some.injEq]at hk; omega)
 cases a with
 |none =>
  simp only[firstC,Option.some.injEq]at hc
  subst hc
  simp only[runesOfCells,Option.some.injEq]at hl
  subst hl
  simp only[Ren.val,Conv.runesToString,Sem.run_pure]
  rfl
 |some a =>
  simp only[Ren.val,Builtin.firstCells,Nat.mul_one]at hf
  replace hf:(loadCells ⟨ρ.blk a.block,ρ.offS a len cap+ρ.sh a.block,ρ.spS a len cap⟩ len).run P w=.ok (cs.map ρ.val).toArray w:=by
   cases len with
   |zero=>exact hf
   |succ len=>rw[Ren.offS_of (.inr (Nat.succ_ne_zero _)),Ren.spS_of (.inr (Nat.succ_ne_zero _))]at hf ⊢; exact hf
  simp only[Ren.val,Conv.runesToString,Sem.run_bind,hf,Result.andThen_ok]
  obtain⟨e1,e2⟩:=runes_fold ρ cs l [] hl
  rw[run_forIn _ (fun v s=>match v with|.int .i32 n=>s++Utf8.encode n|_=>s) _ _ (fun v hv b=>by
   obtain⟨n,rfl⟩:=e2 v hv
   simp)]
  have e3:ByteArray.empty=⟨([]:List UInt8).toArray⟩:=rfl
  simp only[Result.andThen_ok,Sem.run_pure,e3]
  rw[e1]
  simp
theorem conv_str8 (r:Rel P ρ H w) {a:Option Addr} {len cap:Nat} {cs:List Value} {l:List UInt8} (hc:firstC H 1 len (.slice a len len)=some cs) (hl:bytesOfCells cs=some l) :
  (Conv.bytesToString (ρ.val (.slice a len cap))).run P w=.ok (.string ⟨l.toArray⟩) w:=by
 have hf:=firstC_run r hc (fun k hk=>by simp only[lenV,Option.some.injEq]at hk; omega)
 cases a with
 |none =>
  simp only[firstC,Option.some.injEq]at hc
  subst hc
  simp only[bytesOfCells,Option.some.injEq]at hl
  subst hl
  simp only[Ren.val,Conv.bytesToString,Sem.run_pure]
  rfl
 |some a =>
  simp only[Ren.val,Builtin.firstCells,Nat.mul_one]at hf
  replace hf:(loadCells ⟨ρ.blk a.block,ρ.offS a len cap+ρ.sh a.block,ρ.spS a len cap⟩ len).run P w=.ok (cs.map ρ.val).toArray w:=by
   cases len with
   |zero=>exact hf
   |succ len=>rw[Ren.offS_of (.inr (Nat.succ_ne_zero _)),Ren.spS_of (.inr (Nat.succ_ne_zero _))]at hf ⊢; exact hf
  simp only[Ren.val,Conv.bytesToString,Sem.run_bind,hf,Result.andThen_ok]
  obtain⟨e1,e2⟩:=bytes_fold ρ cs l [] hl
  rw[run_forIn _ (fun v s=>match v with|.int .u8 n=>s.push (UInt8.ofNat n.toNat)|_=>s) _ _ (fun v hv b=>by
   obtain⟨n,rfl⟩:=e2 v hv
   simp)]
  have e3:ByteArray.empty=⟨([]:List UInt8).toArray⟩:=rfl
  simp only[Result.andThen_ok,Sem.run_pure,e3]
  rw[e1]
  simp
theorem aConvert_run (r:Rel P ρ H w) {s d:TypeId} {x v:Value} {H1:AHeap} (h:aConvert P H s d x=some (v,H1)):VOk P ρ H w (convert s d (ρ.val x)) v H1:=by
 unfold aConvert at h
 split at h
 ·rename_i us k ks n h1 h2
  simp only[Option.some.injEq,Prod.mk.injEq]at h
  obtain⟨rfl,rfl⟩:=h
  refine VOk.same r ?_
  simp[convert,Sem.run_bind,run_und h1,run_und h2,Ren.val,Conv.intToInt]
 ·rename_i us str h1 h2
  simp only[Option.some.injEq,Prod.mk.injEq]at h
  obtain⟨rfl,rfl⟩:=h
  refine VOk.same r ?_
  simp[convert,Sem.run_bind,run_und h1,run_und h2,Ren.val]
 ·rename_i us ks n h1 h2
  simp only[Option.some.injEq,Prod.mk.injEq]at h
  obtain⟨rfl,rfl⟩:=h
  refine VOk.same r ?_
  simp[convert,Sem.run_bind,run_und h1,run_und h2,Ren.val,Conv.intToString]
 ·rename_i us e str h1 h2
  split at h
  ·rename_i h3
   simp only[zA1,zA2]at h
   obtain⟨sz,hsz,h⟩:=h
   split at h
   ·split at h
    ·rename_i hsm
     simp only[zA2,Option.some.injEq,Prod.mk.injEq]at h
     obtain⟨g,hg,rfl,rfl⟩:=h
     obtain⟨ρ1,w1,hst,hr⟩:=conv_bytes r hsz hg (ble_le hsm)
     refine⟨ρ1,w1,hst,?_⟩
     rw[<-hr]
     simp[convert,Sem.run_bind,run_und h1,run_und h2,run_und h3,Ren.val]
    ·cases h
   ·cases h
  ·rename_i h3
   simp only[zA1,zA2]at h
   obtain⟨sz,hsz,h⟩:=h
   split at h
   ·split at h
    ·rename_i hsm
     simp only[zA2,Option.some.injEq,Prod.mk.injEq]at h
     obtain⟨g,hg,rfl,rfl⟩:=h
     obtain⟨ρ1,w1,hst,hr⟩:=conv_runes r hsz hg (ble_le hsm)
     refine⟨ρ1,w1,hst,?_⟩
     rw[<-hr]
     simp[convert,Sem.run_bind,run_und h1,run_und h2,run_und h3,Ren.val]
    ·cases h
   ·cases h
  ·cases h
 ·rename_i e a len cap h1 h2
  simp only[zA1,zA2]at h
  obtain⟨cs,hc,h⟩:=h
  split at h
  ·rename_i h3
   simp only[zA6,Prod.mk.injEq]at h
   obtain⟨l,hl,rfl,rfl⟩:=h
   refine VOk.same r ?_
   have:=conv_str8 (cap:=cap) r hc hl
   rw[Ren.val,<-this]
   cases a<;>simp[convert,Sem.run_bind,run_und h1,run_und h2,run_und h3,Ren.val]
  ·rename_i h3
   simp only[zA6,Prod.mk.injEq]at h
   obtain⟨l,hl,rfl,rfl⟩:=h
   refine VOk.same r ?_
   have:=conv_str32 (cap:=cap) r hc hl
   rw[Ren.val,<-this]
   cases a<;>simp[convert,Sem.run_bind,run_und h1,run_und h2,run_und h3,Ren.val]
  ·cases h
 ·rename_i e0 e a len cap h1 h2
  simp only[zA1,zA2]at h
  obtain⟨u,h3,h⟩:=h
  split at h
  ·split at h
   ·rename_i z ty q c hg
    split at h
    ·rename_i hc
     simp only[zA4]at hc
     obtain⟨hsd,hsp⟩:=hc
     have hsd:=zD9 hsd
     subst hsd
     have he:e0=e:=by rw[h1]at h2; simpa using h2
     subst he
     simp only[Option.some.injEq,Prod.mk.injEq]at h
     obtain⟨rfl,rfl⟩:=h
     obtain⟨o',hw,hfit⟩:=r.obj _ _ hg
     simp only[Fits]at hfit
     obtain⟨cs,fz,rfl,hcs,hcl,_⟩:=hfit
     obtain⟨k1,k2,k3,k4⟩:=hcl trivial
     subst k4
     obtain⟨m1,m2,m3,m4,m5,m6⟩:=run_markOld (P:=P) hw (ρ.offS a len cap+ρ.sh a.block)
     refine⟨ρ,_,St.upd r (ne_none hg) (nz_of hg frz_shut) (o:=⟨.cells z ty q,true,c⟩) (o':=.cells cs ty (cs.size,cs.size+1)) ?_ ?_ m2 m3 m4 m5 m6 rfl,?_⟩
     ·exact (r.dom _ _ hg).2
     ·simp only[Fits]
      refine⟨cs,_,rfl,hcs,fun h=>(by cases h),fun _ _=>⟨⟨?_,fun h=>absurd k3 h⟩,fun i _ hi=>?_⟩⟩
      ·rw[k1,k2,k3]; simp
      ·rw[k2,k3]at hi; simp only; omega
     ·rw[Ren.val]
      rw[Ren.spS_of (.inl (zD9 hsp))]
      simp only[convert,Sem.run_bind,run_und h1,run_und h3,Result.andThen_ok,beq_self_eq_true,m1,Sem.run_pure]
    ·cases h
   ·cases h
  ·cases h
 ·rename_i t h1 h2
  simp only[Option.some.injEq,Prod.mk.injEq]at h
  obtain⟨rfl,rfl⟩:=h
  refine VOk.same r ?_
  simp[convert,Conv.unsafePointer,Sem.run_bind,run_und h1,run_und h2,Ren.val]
 ·rename_i t n off h1 h2
  simp only[zA1,zA2]at h
  obtain⟨sz,hsz,⟨c,e,o⟩,hc,h⟩:=h
  split at h
  ·rename_i hcond
   simp only[zA4]at hcond
   simp only[Option.some.injEq,Prod.mk.injEq]at h
   obtain⟨rfl,rfl⟩:=h
   obtain⟨q1,q2,hg⟩:∃ q1 q2,H.get n=some ⟨.cells q1 e q2,o,c⟩:=by
    unfold cellsR at hc
    split at hc
    ·rename_i z e' f o' v' hg
     simp only[Option.some.injEq,Prod.mk.injEq]at hc
     obtain⟨rfl,rfl,rfl⟩:=hc
     exact⟨z,f,hg⟩
    ·cases hc
   obtain⟨o',hw,hfit⟩:=r.obj _ _ hg
   simp only[Fits]at hfit
   obtain⟨cs,fz,rfl,hcs,_,_⟩:=hfit
   have hlt:off+ρ.sh n<cs.size:=by
    have:=hcs off (blt_lt hcond.2)
    rcases zB6 (off+ρ.sh n) cs.size with h|h
    ·exact h
    ·rw[Array.getElem?_eq_none h]at this; cases this
   refine VOk.same r ?_
   have:=conv_unsafe1 (P:=P) (w:=w) (a:=⟨ρ.blk n,off+ρ.sh n,none⟩) h1 h2 hw rfl hlt hsz (blt_lt hcond.1)
   simp only[Ren.val,convert,Sem.run_bind,run_und h1,run_und h2,Result.andThen_ok]
   exact this
  ·cases h
 ·rename_i t h1 h2
  simp only[Option.some.injEq,Prod.mk.injEq]at h
  obtain⟨rfl,rfl⟩:=h
  refine VOk.same r ?_
  simp[convert,Conv.unsafePointer,Sem.run_bind,run_und h1,run_und h2,Ren.val]
 ·rename_i u n h1 h2
  simp only[zA1,zA2]at h
  obtain⟨sz,hsz,h⟩:=h
  split at h
  ·rename_i z e f c hg
   split at h
   ·rename_i hcond
    simp only[zA4]at hcond
    obtain⟨⟨he,hn⟩,h0⟩:=hcond
    have he:=zD9 he
    subst he
    have hn:=zD9 hn
    simp only[Option.some.injEq,Prod.mk.injEq]at h
    obtain⟨rfl,rfl⟩:=h
    obtain⟨o',hw,hfit⟩:=r.obj _ _ hg
    simp only[Fits]at hfit
    obtain⟨cs,fz,rfl,hcs,hcl,_⟩:=hfit
    obtain⟨k1,k2,k3,k4⟩:=hcl trivial
    refine VOk.same r ?_
    have:=conv_unsafe2 (P:=P) (w:=w) (a:=⟨ρ.blk n,0+ρ.sh n,none⟩) h1 h2 hw (by simp only; omega) hsz (blt_lt h0) (by omega)
    simp only[Ren.val,convert,Sem.run_bind,run_und h1,run_und h2,Result.andThen_ok]
    exact this
   ·cases h
  ·cases h
 ·cases h
theorem run_setObj {r:Nat} {o o':Obj} (h:w.heap[r]?=some o) (hc:∀ c e f,o≠.cells c e f):(setObj r o').run P w=.ok () {w with heap:=w.heap.setIfInBounds r o'}:=by
 cases o<;>first
  |(exact absurd rfl (hc _ _ _))
  |simp only[setObj,Sem.run,h]
theorem setObj_heap (r:Nat) (o o':Obj) (h:w.heap[r]?=some o) :
  ({w with heap:=w.heap.setIfInBounds r o'}:World).heap[r]?=some o'/\({w with heap:=w.heap.setIfInBounds r o'}:World).heap.size=w.heap.size /\
   ∀ b,b≠r->({w with heap:=w.heap.setIfInBounds r o'}:World).heap[b]?=w.heap[b]?:=by
 have hlt:r<w.heap.size:=by
  rcases zB6 r w.heap.size with h1|h1
  ·exact h1
  ·simp[Array.getElem?_eq_none h1]at h
 refine⟨by simp[hlt],by simp,fun b hb=>?_⟩
 simp only[Array.getElem?_setIfInBounds]
 rw[if_neg (fun e=>hb e.symm)]
theorem run_getObj {n:Nat} {o:Obj} (h:w.heap[n]?=some o) (hc:∀ c e f,o≠.cells c e f):(getObj n).run P w=.ok o w:=by
 cases o<;>first
  |(exact absurd rfl (hc _ _ _))
  |simp only[getObj,Sem.run,h]
theorem aRange_run (r:Rel P ρ H w) {t:TypeId} {x v:Value} {H1:AHeap} (h:aRange P H t x=some (v,H1)):VOk P ρ H w (Instr.range t (ρ.val x)) v H1:=by
 unfold aRange at h
 split at h
 ·rename_i s hu
  simp only[Option.some.injEq,Prod.mk.injEq]at h
  obtain⟨rfl,rfl⟩:=h
  refine⟨_,_,St.new r ⟨.stringIter s 0,false,⟨[],0⟩⟩ (.stringIter s 0) 0 0 (by simp[sco]) (by simp[Fits]),?_⟩
  simp only[Instr.range,Sem.run_bind,run_und hu,Result.andThen_ok,Ren.val,Sem.run_pure,run_newObj]
  simp[Ren.at]
 ·cases h
theorem aNext_run (r:Rel P ρ H w) {it v:Value} {s:Bool} {ty:TypeId} {H1:AHeap} (h:aNext H it s=some (v,H1)):VOk P ρ H w (Instr.next (ρ.val it) s ty) v H1:=by
 unfold aNext at h
 split at h
 ·rename_i n
  split at h
  ·rename_i str pos o v' hg
   obtain⟨o',hw,hf⟩:=r.obj _ _ hg
   simp only[Fits]at hf
   obtain⟨rfl,hsh⟩:=hf
   have hgo:=run_getObj (P:=P) hw (fun _ _ _=>by simp)
   split at h
   ·rename_i hlt
    simp only[Option.some.injEq,Prod.mk.injEq]at h
    obtain⟨rfl,rfl⟩:=h
    obtain⟨k1,k2,k3⟩:=setObj_heap (w:=w) (ρ.blk n) _ (.stringIter str (pos+(Utf8.decode str pos).2)) hw
    refine⟨ρ,_,St.upd r (ne_none hg) (nz_of hg rfl) (by simp[sco]) (by simp[Fits,hsh]) k1 k2 k3 rfl rfl rfl,?_⟩
    have hset:=run_setObj (P:=P) (o':=.stringIter str (pos+(Utf8.decode str pos).2)) hw (fun _ _ _=>by simp)
    simp only[Instr.next,Ren.val,hsh,zC0,Sem.run_bind,hgo,Result.andThen_ok,if_pos hlt,hset,Sem.run_pure]
    simp[goInt,Ren.valA,Ren.valL,Ren.val]
   ·rename_i hlt
    simp only[Option.some.injEq,Prod.mk.injEq]at h
    obtain⟨rfl,rfl⟩:=h
    refine VOk.same r ?_
    simp only[Instr.next,Ren.val,hsh,zC0,Sem.run_bind,hgo,Result.andThen_ok,if_neg hlt,Sem.run_pure]
    simp[Ren.valA,Ren.valL,Ren.val]
  ·cases h
 ·cases h
theorem findNow_ren (ρ:Ren) (kd:TypeDesc) (k:Value):∀ (es:List MapEntry) (i:Nat),Instr.findNow kd k (es.map ρ.entry) i=(Instr.findNow kd k es i).map (fun o=>o.map fun p=>(p.1,ρ.val p.2)):=by
 intro es
 induction es with
 |nil=>intro i; simp[Instr.findNow]
 |cons e es ih =>
  intro i
  simp only[zB3,Instr.findNow]
  have:(ρ.entry e).key=e.key:=rfl
  rw[this]
  cases Instr.sameNow kd k e.key with
  |none=>rfl
  |some b =>
   cases b with
   |true=>simp[Ren.entry]
   |false=>simp only[ih]
theorem findNow_at (kd:TypeDesc) (k:Value):∀ (es:List MapEntry) (i j:Nat) (v:Value),Instr.findNow kd k es i=some (some (j,v))->∃ e,es[j-i]?=some e/\i<=j/\Instr.sameNow kd k e.key=some true:=by
 intro es
 induction es with
 |nil=>intro i j v h; simp[Instr.findNow]at h
 |cons e es ih =>
  intro i j v h
  simp only[Instr.findNow]at h
  split at h
  ·rename_i hs
   simp only[Option.some.injEq,Prod.mk.injEq]at h
   obtain⟨rfl,rfl⟩:=h
   exact⟨e,by simp,zA8 _,hs⟩
  ·obtain⟨x,h1,h2,h3⟩:=ih (i+1) j v h
   refine⟨x,?_,by omega,h3⟩
   rw[show j-i=(j-(i+1))+1 from by omega]
   simpa using h1
  ·cases h
theorem ba_eq {a b:ByteArray} (h:(a == b)=true):a=b:=by
 obtain⟨x⟩:=a
 obtain⟨y⟩:=b
 have e:x=y:=by simpa using (show (x == y)=true from h)
 rw[e]
theorem same_bits {kd:TypeDesc} {k k':Value} (h:Instr.sameNow kd k k'=some true):Instr.sameBits 10000 k' k=true:=by
 unfold Instr.sameNow at h
 split at h
 ·rename_i a b c d
  split at h
  ·rename_i hk
   subst hk
   simp only[Option.some.injEq,beq_iff_eq]at h
   subst h
   simp[Instr.sameBits]
  ·cases h
 ·simp only[Option.some.injEq]at h
  have:=ba_eq h
  subst this
  simpa[Instr.sameBits]using h
 ·simp only[Option.some.injEq,beq_iff_eq]at h
  subst h
  simp[Instr.sameBits]
 ·cases h
theorem key_val (ρ:Ren) {k:Value} (h:keyOk k=true):ρ.val k=k:=by
 cases k<;>simp[keyOk]at h<;>rw[Ren.val]
theorem run_checkKey {kd:TypeDesc} {t:TypeId} {k:Value} {b:Bool} (hu:P.underlying t=some kd) (hk:keyKind kd=true):(Instr.checkKey b 10000 t k).run P w=.ok () w:=by
 rw[show (10000:Nat)=9999+1 from rfl,Instr.checkKey]
 simp only[Sem.run_bind,run_und hu,Result.andThen_ok]
 cases kd<;>simp only[keyKind,zB7]at hk<;>simp
theorem run_findKey {kd:TypeDesc} {t:TypeId} {k:Value} {es:List MapEntry} {o:Option (Nat × Value)} (hu:P.underlying t=some kd) (h:Instr.findNow kd k es 0=some o):(Instr.findKey t k es).run P w=.ok o w:=by
 simp[Instr.findKey,Sem.run_bind,run_und hu,h]
theorem mapAt_run (r:Rel P ρ H w) {n:Nat} {es:Array MapEntry} {clock:Nat} {o:Bool} {v:RV} (hg:H.get n=some ⟨.map es clock,o,v⟩) :
  w.heap[ρ.blk n]?=some (.map (es.map ρ.entry) clock)/\(getObj (ρ.blk n)).run P w=.ok (.map (es.map ρ.entry) clock) w:=by
 obtain⟨o',hw,hf⟩:=r.obj _ _ hg
 simp only[Fits]at hf
 subst hf
 exact⟨hw,run_getObj (P:=P) hw (fun _ _ _=>by simp)⟩
def lookTail (key elem:TypeId) (index:Value) (commaOk:Bool) (es:Array MapEntry):Sem Value:=do
 Instr.checkKey es.isEmpty 10000 key index
 let (v,ok) <-match <-Instr.findKey key index es.toList with
  |some (_,v)=>pure (v,true)
  |none=>pure (<-zeroValue elem,false)
 pure (if commaOk then .tuple #[v,.bool ok] else v)
theorem aLookup_run (r:Rel P ρ H w) {t:TypeId} {x k v:Value} {ok:Bool} (h:aLookup P H t x k ok=some v):(Instr.lookup t (ρ.val x) (ρ.val k) ok).run P w=.ok (ρ.val v) w:=by
 unfold aLookup at h
 split at h
 ·rename_i key elem m hu
  simp only[zA1,zA2]at h
  obtain⟨es,hes,kd,hkd,h⟩:=h
  split at h
  ·rename_i hc
   simp only[zA4]at hc
   have hl:(Instr.lookup t (ρ.val (.map m)) (ρ.val k) ok).run P w=(lookTail key elem (ρ.val k) ok (es.map ρ.entry)).run P w:=by
    unfold Instr.lookup
    simp only[Sem.run_bind,run_und hu,Result.andThen_ok]
    cases m with
    |none =>
     simp only[mapAt,Option.some.injEq]at hes
     subst hes
     simp only[Ren.val,Sem.run_bind,Sem.run_pure,Result.andThen_ok]
     have he:(#[]:Array MapEntry).map ρ.entry=#[]:=by simp
     rw[he]
     simp only[lookTail,Sem.run_bind]
     generalize Instr.checkKey _ 10000 key (ρ.val k)=c
     rfl
    |some n =>
     simp only[mapAt]at hes
     split at hes
     ·rename_i es' cl o v' hg
      simp only[Option.some.injEq]at hes
      subst hes
      simp only[Ren.val,Sem.run_bind,(mapAt_run r hg).2,Result.andThen_ok,Sem.run_pure]
      simp only[lookTail,Sem.run_bind]
      generalize Instr.checkKey _ 10000 key (ρ.val k)=c
      rfl
     ·cases hes
   have hfind:=findNow_ren ρ kd k es.toList 0
   rw[hl]
   unfold lookTail
   simp only[Sem.run_bind,Result.andThen_ok,key_val ρ hc.1,run_checkKey hkd hc.2,Array.toList_map]
   split at h
   ·rename_i i v0 hf
    rw[hf]at hfind
    simp only[zA5]at hfind
    simp only[run_findKey hkd hfind,Result.andThen_ok]
    simp only[Option.some.injEq]at h
    subst h
    cases ok<;>simp[Ren.val,Ren.valA,Ren.valL]
   ·rename_i hf
    rw[hf]at hfind
    simp only[zA5,Option.map_none]at hfind
    simp only[zA6]at h
    obtain⟨z,hz,rfl⟩:=h
    obtain⟨hzr,hza⟩:=run_zeroOf (w:=w) hz
    simp only[run_findKey hkd hfind,Result.andThen_ok,Sem.run_bind,hzr,Sem.run_pure]
    cases ok<;>simp[Ren.val,Ren.valA,Ren.valL,val_af ρ z hza]
   ·cases h
  ·cases h
 ·cases h
theorem aMapUpdate_run (r:Rel P ρ H w) {t:TypeId} {x k v:Value} {H1:AHeap} (h:aMapUpdate P H t x k v=some H1) :
  ∃ w1,St P ρ H w ρ H1 w1/\(Instr.mapUpdate t (ρ.val x) (ρ.val k) (ρ.val v)).run P w=.ok () w1:=by
 unfold aMapUpdate at h
 split at h
 ·rename_i key elem n hu
  split at h
  ·rename_i es clock o v' hg
   simp only[zA1,zA2]at h
   obtain⟨kd,hkd,h⟩:=h
   obtain⟨hw,hgo⟩:=mapAt_run r hg
   have hsc:=(r.dom _ _ hg).2
   simp only[sco]at hsc
   split at h
   ·rename_i hc
    simp only[zA4]at hc
    have hfind:=findNow_ren ρ kd k es.toList 0
    split at h
    ·rename_i i v0 hf
     simp only[Option.some.injEq]at h
     subst h
     rw[hf]at hfind
     simp only[zA5]at hfind
     obtain⟨e,he,_,hsame⟩:=findNow_at kd k es.toList 0 i v0 hf
     have he':es[i]?=some e:=by simpa using he
     have hset:=run_setObj (P:=P) (o':=.map ((es.map ρ.entry).modify i fun e=>{e with key:=k,val:=ρ.val v}) clock) hw (fun _ _ _=>by simp)
     obtain⟨k1,k2,k3⟩:=setObj_heap (w:=w) (ρ.blk n) _ (.map ((es.map ρ.entry).modify i fun e=>{e with key:=k,val:=ρ.val v}) clock) hw
     refine⟨_,St.upd r (ne_none hg) (nz_of hg rfl) ?_ ?_ k1 k2 k3 rfl rfl rfl,?_⟩
     ·simp only[sco]
      intro e1 he1
      obtain⟨j,hj⟩:=Array.getElem?_of_mem he1
      rw[Array.getElem?_modify]at hj
      split at hj
      ·simp only[zA6]at hj
       obtain⟨e2,_,rfl⟩:=hj
       exact⟨hc.1.1,hc.2⟩
      ·exact hsc e1 (Array.mem_of_getElem? hj)
     ·simp only[Fits]
      congr 1
      apply Array.ext_getElem?
      intro j
      simp only[Array.getElem?_map,Array.getElem?_modify]
      split
      ·cases es[j]?<;>simp[Ren.entry]
      ·rfl
     ·unfold Instr.mapUpdate
      simp only[Sem.run_bind,run_und hu,Result.andThen_ok,Ren.val,hgo,key_val ρ hc.1.1,run_checkKey hkd hc.1.2,Array.toList_map,run_findKey hkd hfind]
      have hold:(((es.map ρ.entry)[i]?.map (·.key)).getD k)=e.key:=by
       rw[Array.getElem?_map,he']; rfl
      simp only[hold,Instr.keyThatStays,same_bits hsame,if_true,Sem.run_pure,Result.andThen_ok,hset]
    ·rename_i hf
     simp only[Option.some.injEq]at h
     subst h
     rw[hf]at hfind
     simp only[zA5,Option.map_none]at hfind
     have hset:=run_setObj (P:=P) (o':=.map ((es.map ρ.entry).push {key:=k,val:=ρ.val v,born:=clock}) (clock+1)) hw (fun _ _ _=>by simp)
     obtain⟨k1,k2,k3⟩:=setObj_heap (w:=w) (ρ.blk n) _ (.map ((es.map ρ.entry).push {key:=k,val:=ρ.val v,born:=clock}) (clock+1)) hw
     refine⟨_,St.upd r (ne_none hg) (nz_of hg rfl) ?_ ?_ k1 k2 k3 rfl rfl rfl,?_⟩
     ·simp only[sco]
      intro e1 he1
      rcases Array.mem_push.1 he1 with h1|rfl
      ·exact hsc e1 h1
      ·exact⟨hc.1.1,hc.2⟩
     ·simp[Fits,Ren.entry]
     ·unfold Instr.mapUpdate
      simp only[Sem.run_bind,run_und hu,Result.andThen_ok,Ren.val,hgo,key_val ρ hc.1.1,run_checkKey hkd hc.1.2,Array.toList_map,run_findKey hkd hfind,hset]
    ·cases h
   ·cases h
  ·cases h
 ·cases h
theorem mapNew_run (r:Rel P ρ H w):VOk P ρ H w (do pure (.map (some (<-newObj (.map #[] 0))))) (.map (some H.next)) (H.new ⟨.map #[] 0,false,⟨[],0⟩⟩):=by
 refine⟨_,_,St.new r ⟨.map #[] 0,false,⟨[],0⟩⟩ (.map #[] 0) 0 0 (by simp[sco]) (by simp[Fits]),?_⟩
 simp only[Sem.run_bind,run_newObj,Result.andThen_ok,Sem.run_pure]
 simp[Ren.at,Ren.val]
theorem erase_map {α β:Type} (f:α->β):∀ (l:List α) (i:Nat),(l.map f).eraseIdx i=(l.eraseIdx i).map f
 |[],_=>by simp
 |_::_,0=>by simp
 |_::l,i+1=>by simp[erase_map f l i]
theorem aDelete_run (r:Rel P ρ H w) {ts:Array TypeId} {ty t:TypeId} {rest:List TypeId} (hts:ts.toList=t::rest) {m k v:Value} {H1:AHeap} (h:aDelete P H t m k=some (v,H1)) :
  VOk P ρ H w (Builtin.delete_ ts ty ([m,k].map ρ.val).toArray) v H1:=by
 obtain⟨l⟩:=ts
 simp only at hts
 subst hts
 unfold aDelete at h
 split at h
 ·rename_i key elem n hu
  split at h
  ·rename_i es clock o v' hg
   simp only[zA1,zA2]at h
   obtain⟨kd,hkd,h⟩:=h
   obtain⟨hw,hgo⟩:=mapAt_run r hg
   have hsc:=(r.dom _ _ hg).2
   simp only[sco]at hsc
   split at h
   ·rename_i hc
    simp only[zA4]at hc
    have hfind:=findNow_ren ρ kd k es.toList 0
    split at h
    ·rename_i i v0 hf
     simp only[Option.some.injEq,Prod.mk.injEq]at h
     obtain⟨rfl,rfl⟩:=h
     rw[hf]at hfind
     simp only[zA5]at hfind
     have hset:=run_setObj (P:=P) (o':=.map ((es.map ρ.entry).eraseIdxIfInBounds i) clock) hw (fun _ _ _=>by simp)
     obtain⟨k1,k2,k3⟩:=setObj_heap (w:=w) (ρ.blk n) _ (.map ((es.map ρ.entry).eraseIdxIfInBounds i) clock) hw
     refine⟨ρ,_,St.upd r (ne_none hg) (nz_of hg rfl) ?_ ?_ k1 k2 k3 rfl rfl rfl,?_⟩
     ·simp only[sco]
      intro e1 he1
      refine hsc e1 ?_
      unfold Array.eraseIdxIfInBounds at he1
      split at he1
      ·exact Array.mem_of_mem_eraseIdx he1
      ·exact he1
     ·simp only[Fits]
      congr 1
      apply Array.ext'
      simp[erase_map]
     ·unfold Builtin.delete_
      simp only[zB3,List.map_nil,List.getElem?_toArray,zC5,zD0,Sem.run_bind,run_und hu,Result.andThen_ok,Ren.val,hgo,key_val ρ hc.1,run_checkKey hkd hc.2,Array.toList_map,run_findKey hkd hfind,hset,Sem.run_pure]
      simp[Ren.valA,Ren.valL]
    ·rename_i hf
     simp only[Option.some.injEq,Prod.mk.injEq]at h
     obtain⟨rfl,rfl⟩:=h
     rw[hf]at hfind
     simp only[zA5,Option.map_none]at hfind
     have hset:=run_setObj (P:=P) (o':=.map (es.map ρ.entry) clock) hw (fun _ _ _=>by simp)
     obtain⟨k1,k2,k3⟩:=setObj_heap (w:=w) (ρ.blk n) _ (.map (es.map ρ.entry) clock) hw
     refine⟨ρ,_,St.upd r (ne_none hg) (nz_of hg rfl) ?_ ?_ k1 k2 k3 rfl rfl rfl,?_⟩
     ·simp only[sco]
      exact hsc
     ·simp[Fits]
     ·unfold Builtin.delete_
      simp only[zB3,List.map_nil,List.getElem?_toArray,zC5,zD0,Sem.run_bind,run_und hu,Result.andThen_ok,Ren.val,hgo,key_val ρ hc.1,run_checkKey hkd hc.2,Array.toList_map,run_findKey hkd hfind,hset,Sem.run_pure]
      simp[Ren.valA,Ren.valL]
    ·cases h
   ·cases h
  ·cases h
 ·cases h
theorem aClear_run (r:Rel P ρ H w) {ts:Array TypeId} {ty t:TypeId} {rest:List TypeId} (hts:ts.toList=t::rest) {x v:Value} {H1:AHeap} (h:aClear P H t x=some (v,H1)) :
  VOk P ρ H w (Builtin.clear_ ts ty ([x].map ρ.val).toArray) v H1:=by
 obtain⟨l⟩:=ts
 simp only at hts
 subst hts
 unfold aClear at h
 split at h
 ·rename_i e n c hu
  simp only[Option.some.injEq,Prod.mk.injEq]at h
  obtain⟨rfl,rfl⟩:=h
  refine VOk.same r ?_
  simp[Builtin.clear_,Ren.val,run_und hu,Ren.valA,Ren.valL]
 ·rename_i e a n c hu
  split at h
  ·simp only[Option.some.injEq,Prod.mk.injEq]at h
   obtain⟨rfl,rfl⟩:=h
   refine VOk.same r ?_
   simp[Builtin.clear_,Ren.val,run_und hu,Ren.valA,Ren.valL]
  ·rename_i n
   simp only[zA1,zA2,Option.some.injEq,Prod.mk.injEq]at h
   obtain⟨z,hz,g,hg,rfl,rfl⟩:=h
   obtain⟨w1,hst,hrun⟩:=aWrite_run r hg
   obtain⟨hzr,hza⟩:=run_zeroOf (w:=w) hz
   refine⟨ρ,w1,hst,?_⟩
   have hzc:Builtin.zeroCells z.cells (n+1)=(zerosL z.cells.toList (n+1)).toArray:=by
    unfold Builtin.zeroCells
    exact zeros_range _ _
   have hzm:(zerosL z.cells.toList (n+1)).map ρ.val=zerosL z.cells.toList (n+1):=zerosL_map ρ _ (af_list ρ hza) _
   rw[hzm]at hrun
   unfold Builtin.clear_
   simp only[zB3,List.map_nil,List.getElem?_toArray,zC5,Sem.run_bind,run_und hu,Result.andThen_ok,Ren.val,Ren.offS_of (ρ:=ρ) (a:=a) (len:=n+1) (cap:=c) (.inr (Nat.succ_ne_zero n)),Ren.spS_of (ρ:=ρ) (a:=a) (len:=n+1) (cap:=c) (.inr (Nat.succ_ne_zero n)),hzr,hzc,hrun,Sem.run_pure]
   simp[Ren.valA,Ren.valL]
 ·cases h
theorem aBuiltin_run (r:Rel P ρ H w) {b:Builtin} {ts:Array TypeId} {ty:TypeId} {cs:Array Bool} {args:List Value} {v:Value} {H1:AHeap} (h:aBuiltin P H b ts args=some (v,H1)) :
  NOk P ρ H w (builtin b ts ty cs (args.map ρ.val).toArray) (.value v) H1:=by
 unfold aBuiltin at h
 split at h
 ·simp only[zA6,Prod.mk.injEq]at h
  obtain⟨v',hv,rfl,rfl⟩:=h
  exact NOk.val r (aSliceData_run hv)
 ·exact NOk.ofV (aUnsafeStr_run r h)
 ·exact NOk.ofV (aAppend_run r h)
 ·exact NOk.ofV (aCopy_run r h)
 ·split at h
  ·rename_i t rest hts
   simp only[zA6,Prod.mk.injEq]at h
   obtain⟨v',hv,rfl,rfl⟩:=h
   exact NOk.val r (aLen_run r hts hv)
  ·cases h
 ·split at h
  ·rename_i t rest hts
   simp only[zA6,Prod.mk.injEq]at h
   obtain⟨v',hv,rfl,rfl⟩:=h
   exact NOk.val r (aCap_run r hts hv)
  ·cases h
 ·split at h
  ·rename_i t rest hts
   exact NOk.ofV (aDelete_run r hts h)
  ·cases h
 ·split at h
  ·rename_i t rest hts
   exact NOk.ofV (aClear_run r hts h)
  ·cases h
 ·simp only[zA6,Prod.mk.injEq]at h
  obtain⟨v',hv,rfl,rfl⟩:=h
  exact NOk.val r (aMax_run hv)
 ·simp only[zA6,Prod.mk.injEq]at h
  obtain⟨v',hv,rfl,rfl⟩:=h
  exact NOk.val r (aMin_run hv)
 ·cases h
end
end Go.Ax
