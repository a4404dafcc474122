/- Parts of the proof, one behind the other. -/
import Derived.RangeFuncLeaves
import Derived.OrdersIn
import Derived.RecoverIn
import Derived.Laws.World
import Derived.Laws.Sem
import Derived.Lib.UnsafeStr
import Derived.Lib.MakeNoZero
import Derived.Laws.Externs
set_option linter.all false
set_option maxRecDepth 10000
set_option maxHeartbeats 16000000
open And renaming intro -> zA0
open Option renaming bind_eq_bind -> zA1, bind_eq_some_iff -> zA2, bind_some -> zA3, map_some -> zA9, map_eq_some_iff -> zB3
open Bool renaming and_eq_true -> zA4, false_eq_true -> zC4, not_true -> zE0, and_self -> zE3, not_false -> zG2
open List renaming mem_singleton -> zA5, mem_cons -> zA7, length_cons -> zB0, getElem?_eq_getElem -> zB1, mem_append -> zB2, length_append -> zB4, mem_map -> zB5, length_nil -> zB6, mem_of_getElem? -> zB9, map_cons -> zC0, nil_append -> zC1, getElem?_eq_none -> zC5, all_eq_true -> zC6, mem_cons_of_mem -> zC7, getD_eq_getElem?_getD -> zC8, nodup_cons -> zC9, append_nil -> zD0, drop_zero -> zD1, not_mem_nil -> zD2, append_assoc -> zD3, nodup_append -> zD4, take_of_length_le -> zD6, length_map -> zD7, length_drop -> zD8, mem_flatMap -> zE2, length_replicate -> zE4, mem_cons_self -> zE5, cons_append -> zE7, eq_nil_of_length_eq_zero -> zE9, getElem?_map -> zF0, drop_eq_nil_of_le -> zF1, length_set -> zF3, map_nil -> zF4, getElem?_cons_zero -> zF5, mem_of_mem_take -> zF6, mem_of_mem_drop -> zF9, mem_range -> zG0, getElem?_eq_some_iff -> zG1, drop_drop -> zG3, getElem?_cons_succ -> zG4, getElem_mem -> zG7, take_append_drop -> zG8
open Nat renaming le_of_ble_eq_true -> zA6, le_refl -> zA8, zero_le -> zB7, zero_add -> zB8, lt_or_ge -> zC2, le_trans -> zC3, lt_of_lt_of_le -> zD5, lt_succ_self -> zD9, add_zero -> zE1, ble_eq -> zE6, mul_one -> zE8, min -> zF2, zero_mul -> zF7, add_sub_cancel_left -> zF8, sub_self -> zG5
open Int renaming toNat_natCast -> zG6

namespace Go.Ax
theorem bP {α:Sort _} (a:α):∃ x,a=x:=⟨a,rfl⟩
def fV {α:Type} (d:α):List α->Nat->α->List α
 |[],0,v=>[v]
 |[],i+1,v=>d::fV d [] i v
 |_::r,0,v=>v::r
 |x::r,i+1,v=>x::fV d r i v
structure RV where
 t:List (List Value)
 n:Nat
def RV.get (v:RV) (i:Nat):Value:=(v.t.getD (i / 16) []).getD (i % 16) undef
def RV.set (v:RV) (i:Nat) (x:Value):RV :=
 match v with
 |⟨t,n⟩=>⟨fV [] t (i / 16) (fV undef (t.getD (i / 16) []) (i % 16) x),n⟩
def RV.jK (v:RV) (i:Nat):Nat->List Value
 |0=>[]
 |k+1=>v.get i::RV.jK v (i+1) k
def RV.ft (v:RV) (i:Nat):List Value->RV
 |[]=>v
 |x::r=>RV.ft (v.set i x) (i+1) r
def Mw {α:Type} (n:Nat) (k:Nat->α):α :=
 match n+1 with
 |0=>k 0
 |m+1=>k m
def RV.ofList (l:List Value):RV:=Mw l.length fun n=>match RV.ft ⟨[],0⟩ 0 l with
 |⟨t,_⟩=>⟨t,n⟩
structure dw where
 obj:Obj
 opn:Bool
 rv:RV
structure aa where
 root:List (List (List (Option dw)))
 next:Nat
 base:Nat
 dirty:List Nat
def aa.get (h:aa) (n:Nat):Option dw :=
 ((h.root.getD (n / 256) []).getD (n / 16 % 16) []).getD (n % 16) none
def ek (root:List (List (List (Option dw)))) (n:Nat) (o:Option dw):List (List (List (Option dw))) :=
 fV [] root (n / 256) (fV [] (root.getD (n / 256) []) (n / 16 % 16) (fV none ((root.getD (n / 256) []).getD (n / 16 % 16) []) (n % 16) o))
def aa.put (h:aa) (n:Nat) (o:Option dw):aa :=
 match h with
 |⟨r,k,b,d⟩=>⟨ek r n o,k,b,d⟩
def aa.cE (h:aa) (n:Nat) (o:Option dw):aa :=
 match h with
 |⟨r,k,b,d⟩=>⟨ek r n o,k,b,if Nat.blt n b then n::d else d⟩
theorem aa.et (h:aa) (n:Nat) (o:Option dw):h.cE n o=⟨ek h.root n o,h.next,h.base,if Nat.blt n h.base then n::h.dirty else h.dirty⟩:=rfl
theorem aa.put_eq (h:aa) (n:Nat) (o:Option dw):h.put n o=⟨ek h.root n o,h.next,h.base,h.dirty⟩:=rfl
def aa.new (h:aa) (o:dw):aa :=
 match h with
 |⟨r,k,b,d⟩=>Mw (k+1) fun k1=>⟨ek r k (some o),k1,b,d⟩
mutual
def af:Value->Bool
 |.pointer (some _)=>false
 |.slice (some _) _ _=>false
 |.map (some _)=>false
 |.chan (some _)=>false
 |.func (.yield _) _ _=>false
 |.func _ a b=>MO a&&MO b
 |.iface _ v=>af v
 |.agg cs=>MO cs
 |.tuple cs=>MO cs
 |_=>true
def MO:Array Value->Bool
 |⟨l⟩=>Cg l
def Cg:List Value->Bool
 |[]=>true
 |v::r=>af v&&Cg r
end
mutual
def aS (N:Nat):Value->Bool
 |.pointer (some a)=>Nat.blt a.block N
 |.slice (some a) _ _=>Nat.blt a.block N
 |.map (some r)=>Nat.blt r N
 |.chan (some k)=>Nat.blt k N
 |.func (.yield l) a b=>Nat.blt l N&&fb N a&&fb N b
 |.func _ a b=>fb N a&&fb N b
 |.iface _ v=>aS N v
 |.agg cs=>fb N cs
 |.tuple cs=>fb N cs
 |_=>true
def fb (N:Nat):Array Value->Bool
 |⟨l⟩=>aO N l
def aO (N:Nat):List Value->Bool
 |[]=>true
 |v::r=>aS N v&&aO N r
end
def cS {α:Type} (P:Program):Sem α->Option α
 |.pure a=>some a
 |.program k=>cS P (k P)
 |.mark _ k=>cS P k
 |_=>none
def o6 {α:Type} (P:Program):Sem α->Option Value
 |.halt (.panic v)=>some v
 |.program k=>o6 P (k P)
 |.mark _ k=>o6 P k
 |_=>none
theorem aa.oK (h:aa) (o:dw):h.new o=⟨ek h.root h.next (some o),h.next+1,h.base,h.dirty⟩:=rfl
theorem RV.FV (v:RV) (i:Nat) (x:Value):v.set i x={v with t:=fV [] v.t (i / 16) (fV undef (v.t.getD (i / 16) []) (i % 16) x)}:=rfl
theorem RV.ofList_eq (l:List Value):RV.ofList l={RV.ft ⟨[],0⟩ 0 l with n:=l.length}:=rfl
structure ag where
 env:RV
 defers:List Deferred
def ag.put (a:ag) (dst:Option Tmp) (v:Value):ag :=
 match dst with
 |some d=>(match a with
  |⟨⟨t,n⟩,ds⟩=>if Nat.blt d n then⟨RV.set ⟨t,n⟩ d v,ds⟩ else⟨⟨t,n⟩,ds⟩)
 |none=>a
theorem ag.put_eq (a:ag) (dst:Option Tmp) (v:Value):a.put dst v=match dst with
 |some d=>if Nat.blt d a.env.n then {a with env:=a.env.set d v} else a
 |none=>a:=by
 cases dst with
 |none=>rfl
 |some d=>rfl
def ag.tmp (a:ag) (t:Nat):Value:=if Nat.blt t a.env.n then a.env.get t else undef
def aK (P:Program) (a:ag):Operand->Option Value
 |.tmp t=>some (a.tmp t)
 |.const v=>if af v then some v else none
 |.global g=>if Nat.blt g P.globals.size then some (.pointer (some ⟨g,0,none⟩)) else none
 |.func f=>some (.func (.func f) #[] #[])
def fc (P:Program) (a:ag):List Operand->Option (List Value)
 |[]=>some []
 |x::r=>do
  let v <-aK P a x
  let vs <-fc P a r
  some (v::vs)
def bh (P:Program) (t:TypeId):Option Nat:=(P.info? t).map (·.size)
def bytesOf (P:Program) (t:TypeId):Option Nat:=(P.info? t).map (·.bytes)
def zeroOf (P:Program) (t:TypeId):Option Value :=
 match P.info? t with
 |some i=>(match i.zero with
  |some v=>if af v then some v else none
  |none=>none)
 |none=>none
def eX (P:Program) (t:TypeId):Option Bool :=
 match P.underlying t with
 |some (.struct _)=>some true
 |some (.array _ _)=>some true
 |some _=>some false
 |none=>none
def RR:Value->Bool
 |.agg _=>false
 |.tuple _=>false
 |.bool _=>false
 |_=>true
def one:Value->Bool
 |.agg _=>false
 |.tuple _=>false
 |_=>true
def bH (H:aa) (n:Nat):Option (RV × TypeId × Bool) :=
 match H.get n with
 |some ⟨.cells _ e (0,_),o,v⟩=>some (v,e,o)
 |_=>none
def aR (H:aa) (n:Nat):Option (RV × TypeId × Bool) :=
 match H.get n with
 |some ⟨.cells _ e _,o,v⟩=>some (v,e,o)
 |_=>none
def ga (P:Program) (H:aa) (t:TypeId) (v:Value):Option Value :=
 match v with
 |.pointer (some ⟨n,off,none⟩)=>do
  let (c,_,_) <-aR H n
  match <-eX P t with
  |true=>do
   let sz <-bh P t
   if Nat.ble (off+sz) c.n then some (.agg ⟨c.jK off sz⟩) else none
  |false=>if Nat.blt off c.n then some (c.get off) else none
 |_=>none
def dV (H:aa) (n off:Nat) (vs:List Value):Option aa:=do
 let (c,e,o) <-bH H n
 if Nat.ble (off+vs.length) c.n&&vs.all one&&aO H.next vs then
  some (H.cE n (some ⟨.cells #[] e,o,c.ft off vs⟩))
 else none
def eW (P:Program) (H:aa) (t:TypeId) (a v:Value):Option aa :=
 match a with
 |.pointer (some ⟨n,off,none⟩)=>do
  let sz <-bh P t
  if v.cells.toList.length=sz then dV H n off v.cells.toList else none
 |_=>none
def cF (H:aa) (e:TypeId) (c:List Value) (o:Bool):Option aa :=
 if aO H.next c then some (H.new ⟨.cells #[] e,o,RV.ofList c⟩) else none
def zw (P:Program) (t:TypeId) (cs:List Value) (off:Nat):Option Value:=do
 match <-eX P t with
 |true=>do
  let sz <-bh P t
  some (.agg ⟨(cs.drop off).take sz⟩)
 |false=>cs[off]?
def tm (P:Program) (t:TypeId) (x:Value) (f:Nat):Option Value :=
 match P.underlying t,x with
 |some (.struct fields),.agg cs =>
  match fields.toList[f]? with
  |some fd=>zw P fd.type cs.toList fd.offset
  |none=>none
 |_,_=>none
def aH (P:Program) (t:TypeId) (x:Value) (f:Nat):Option Value :=
 match P.underlying t,x with
 |some (.struct fields),.pointer (some a) =>
  match fields.toList[f]? with
  |some fd=>(match bh P fd.type with
   |some 0=>none
   |some _=>some (.pointer (some (a.add fd.offset)))
   |none=>none)
  |none=>none
 |_,_=>none
def BP (P:Program) (t:TypeId) (x i:Value):Option Value :=
 match P.underlying t,x,i with
 |some (.array len elem),.agg cs,.int _ i=>do
  let sz <-bh P elem
  if 0<=i/\i<len then zw P elem cs.toList (i.toNat*sz) else none
 |some .string,.string s,.int _ i=>if 0<=i then (s.data.toList[i.toNat]?).map fun b=>.int .u8 b.toNat else none
 |_,_,_=>none
def aP (P:Program) (t:TypeId) (x i:Value):Option Value :=
 match P.underlying t,x,i with
 |some (.array len elem),.pointer (some a),.int _ i=>do
  let sz <-bh P elem
  if 0<=i/\i<len then some (.pointer (some (a.add (i.toNat*sz)))) else none
 |some (.slice elem),.slice (some a) len _,.int _ i=>do
  let sz <-bh P elem
  if 0<=i/\i<len then some (.pointer (some ⟨a.block,a.off+i.toNat*sz,none⟩)) else none
 |_,_,_=>none
def bound (d:Nat) (v:Option Value):Option Nat :=
 match v with
 |none=>some d
 |some (.int _ i)=>if 0<=i then some i.toNat else none
 |_=>none
def il (H:aa) (n:Nat):Option Bool :=
 match H.get n with
 |some ⟨.cells _ _ _,o,_⟩=>some o
 |_=>none
def cY (H:aa) (a:Addr):Option Bool :=
 match a.spot with
 |some 0=>some true
 |some (_+1)=>none
 |none=>(il H a.block).map (!·)
def vO (H:aa) (sz:Nat) (a:Option Addr) (len cap:Nat) (lo hi:Option Value) (m:Nat):Option (Value × aa):=do
 let l <-bound 0 lo
 let h <-bound len hi
 if m<=cap/\h<=m/\l<=h/\(∀ b∈a,b.spot.getD 0=0) then
  match a with
  |none=>some (.slice none (h-l) (m-l),H)
  |some a=>some (.slice (some ⟨a.block,if m=l then a.off else a.off+l*sz,some 0⟩) (h-l) (m-l),H)
 else none
def fm (H:aa) (sz:Nat) (a:Option Addr) (len cap:Nat) (lo hi:Option Value):Option (Value × aa):=do
 let l <-bound 0 lo
 let h <-bound len hi
 if h<=cap/\l<=h then
  match a with
  |none=>some (.slice none (h-l) (cap-l),H)
  |some a =>
   match cY H a with
   |none=>if l=0/\h=len/\a.spot.getD 0≠0 then some (.slice (some a) len cap,H) else none
   |some true=>some (.slice (some ⟨a.block,if cap=l then a.off else a.off+l*sz,some 0⟩) (h-l) (cap-l),H)
   |some false =>
    if l=0 then some (.slice (some ⟨a.block,a.off,none⟩) h cap,H)
    else if l<cap then some (.slice (some ⟨a.block,a.off+l*sz,none⟩) (h-l) (cap-l),H)
    else if sz=0 then none
    else some (.slice (some ⟨a.block,a.off+l*sz,some (a.off+1)⟩) 0 0,H)
 else none
def cg (P:Program) (H:aa) (t:TypeId) (x:Value) (lo hi mx:Option Value):Option (Value × aa) :=
 match P.underlying t,x,mx with
 |some (.string),.string s,none=>do
  let l <-bound 0 lo
  let h <-bound s.size hi
  if h<=s.size/\l<=h then some (.string (s.extract l h),H) else none
 |some (.slice e),.slice a len cap,none=>do fm H (<-bh P e) a len cap lo hi
 |some (.slice e),.slice a len cap,some (.int _ m)=>do
  if 0<=m/\hi.isSome=true then vO H (<-bh P e) a len cap lo hi m.toNat else none
 |some (.array n e),.pointer (some a),none=>do
  let l <-bound 0 lo
  let h <-bound n hi
  let sz <-bh P e
  if h<=n/\l<=h/\a.spot=none then
   some (.slice (some ⟨a.block,if n=l then a.off else a.off+l*sz,some 0⟩) (h-l) (n-l),H)
  else none
 |_,_,_=>none
def ay (l:List UInt8):List Value:=l.map fun b=>.int .u8 b.toNat
def cO (H:aa) (sz n:Nat):Value->Option (List Value)
 |.slice (some a) _ _=>if n=0 then some [] else do
  let (c,_,_) <-aR H a.block
  if Nat.ble (a.off+n*sz) c.n then some (c.jK a.off (n*sz)) else none
 |.slice none _ _=>some []
 |.string s=>some (ay (s.data.toList.take n))
 |_=>none
def iY:Value->Option Nat
 |.slice _ n _=>some n
 |.string s=>some s.size
 |_=>none
def small (n b:Nat):Bool:=Nat.ble (n*b) 140737488351232&&Nat.ble n 140737488351232
def aV (z:List Value):Nat->List Value
 |0=>[]
 |n+1=>z++aV z n
def fC (H:aa) (a:Addr) (len cap:Nat):Option Bool :=
 match a.spot with
 |some (_+1)=>if Nat.beq (len+cap) 0 then (match il H a.block with
  |some true=>some false
  |_=>none) else none
 |_=>cY H a
def cW (H:aa) (e:TypeId) (sz:Nat) (base:Option Addr) (len cap n:Nat) (new:List Value):Option (Value × aa) :=
 if len+n<=cap then
  match base with
  |none=>if n=0 then some (.slice none len cap,H) else none
  |some a=>do
   let g <-dV H a.block (a.off+len*sz) new
   some (.slice base (len+n) cap,g)
 else do
  let fX <-cO H sz len (.slice base len cap)
  if fX.length=len*sz&&fX.all one&&new.all one then
   match base with
   |none=>do
    let g <-cF H e (fX++new) true
    some (.slice (some ⟨H.next,0,none⟩) (len+n) (len+n),g)
   |some a=>do
    match <-fC H a len cap with
    |true=>do
     let g <-cF H e (fX++new) true
     some (.slice (some ⟨H.next,0,none⟩) (len+n) (len+n),g)
    |false=>do
     let (v,e',_) <-bH H a.block
     if e'=e/\Nat.ble (a.off+cap*sz) v.n=true then do
      let g <-cF (H.cE a.block none) e (fX++new) true
      some (.slice (some ⟨H.next,0,none⟩) (len+n) (len+n),g)
     else none
  else none
def fj (P:Program) (t:TypeId):Option Bool :=
 match P.underlying t with
 |some (.int _)=>some true
 |some _=>some false
 |none=>none
def eP (P:Program) (H:aa) (ts:Array TypeId) (s x:Value):Option (Value × aa) :=
 match ts.toList,s with
 |st::xt::_,.slice base len cap=>do
  let .slice e <-P.underlying st|none
  let sz <-bh P e
  let by1 <-bytesOf P e
  let zs <-zeroOf P e
  match <-fj P xt,x with
  |true,.int .i64 l =>
   if 0<=l/\small (len+l.toNat) by1=true/\zs.cells.toList.length=sz then
    cW H e sz base len cap l.toNat (aV zs.cells.toList l.toNat)
   else none
  |true,_=>none
  |false,x=>do
   let n <-iY x
   let new <-cO H sz n x
   if new.length=n*sz/\small (len+n) by1=true/\zs.cells.toList.length=sz then cW H e sz base len cap n new else none
 |_,_=>none
def Ai (P:Program) (H:aa) (ts:Array TypeId) (d s:Value):Option (Value × aa) :=
 match ts.toList,d with
 |dt::_,.slice base dl _=>do
  let .slice e <-P.underlying dt|none
  let sz <-bh P e
  let sl <-iY s
  let cs <-cO H sz (zF2 sl dl) s
  match base with
  |none=>some (goInt (zF2 sl dl),H)
  |some a =>
   if a.spot.getD 0=0\/dl≠0 then do
    let g <-dV H a.block a.off cs
    some (goInt (zF2 sl dl),g)
   else some (goInt 0,H)
 |_,_=>none
def EW (P:Program) (H:aa) (t:TypeId) (x:Value):Option Value :=
 match P.underlying t,x with
 |some (.slice _),.slice _ n _=>some (goInt n)
 |some (.string),.string s=>some (goInt s.size)
 |some (.map _ _),.map none=>some (goInt 0)
 |some (.map _ _),.map (some r)=>(match H.get r with
  |some ⟨.map es _,_,_⟩=>some (goInt es.size)
  |_=>none)
 |some (.array n _),_=>some (goInt n)
 |_,_=>none
def La (P:Program) (H:aa) (t:TypeId) (x:Value):Option Value :=
 match P.underlying t,x with
 |some (.slice _),.slice none _ n=>some (goInt n)
 |some (.slice _),.slice (some a) _ n=>(match cY H a with
  |some true=>some (goInt n)
  |_=>none)
 |some (.array n _),_=>some (goInt n)
 |_,_=>none
def fT (mx:Bool):List Value->Option Value
 |[.int k x,.int _ y]=>some (.int k (if mx then (if y>x then y else x) else (if y<x then y else x)))
 |_=>none
def o7:Value->Bool
 |.int _ _=>true
 |.string _=>true
 |.bool _=>true
 |_=>false
def lA:TypeDesc->Bool
 |.int _=>true
 |.string=>true
 |.bool=>true
 |_=>false
def vN (P:Program) (H:aa) (t:TypeId) (m k:Value):Option (Value × aa) :=
 match P.underlying t,m with
 |some (.map key _),.map (some r)=>(match H.get r with
  |some ⟨.map es clock,_,_⟩=>do
   let kd <-P.underlying key
   if o7 k&&lA kd then
    match Instr.findNow kd k es.toList 0 with
    |some (some (i,_))=>some (.tuple #[],H.cE r (some ⟨.map (es.eraseIdxIfInBounds i) clock,false,⟨[],0⟩⟩))
    |some none=>some (.tuple #[],H.cE r (some ⟨.map es clock,false,⟨[],0⟩⟩))
    |none=>none
   else none
  |_=>none)
 |_,_=>none
def Cq (P:Program) (H:aa) (t:TypeId) (x:Value):Option (Value × aa) :=
 match P.underlying t,x with
 |some (.slice _),.slice none _ _=>some (.tuple #[],H)
 |some (.slice e),.slice (some a) n _=>(match n with
  |0=>some (.tuple #[],H)
  |n+1=>do
   let z <-zeroOf P e
   let g <-dV H a.block a.off (aV z.cells.toList (n+1))
   some (.tuple #[],g))
 |_,_=>none
def nb (x:Value):Option Value :=
 match x with
 |.slice none _ _=>some (.pointer none)
 |.slice (some ⟨n,off,_⟩) _ (_+1)=>some (.pointer (some ⟨n,off,none⟩))
 |_=>none
def cG:List Value->Option (List UInt8)
 |[]=>some []
 |.int .u8 n::r=>(cG r).map (UInt8.ofNat n.toNat::·)
 |_=>none
def nF (P:Program) (H:aa) (ts:Array TypeId) (p n:Value):Option (Value × aa) :=
 match ts.toList,p,n with
 |_::_,.pointer none,.int .i64 0=>some (.string .empty,H)
 |pt::_,.pointer (some ⟨b,off,none⟩),.int .i64 n=>do
  let .pointer e' <-P.underlying pt|none
  let .int .u8 <-P.underlying e'|none
  let 1 <-bh P e'|none
  match H.get b with
  |some ⟨.cells z e (0,q),o,c⟩ =>
   if n=0 then some (.string .empty,H)
   else if e=e'/\0<n/\n<1000000000/\Nat.ble (off+n.toNat) c.n=true then do
    let l <-cG (c.jK off n.toNat)
    some (.string ⟨l.toArray⟩,H.cE b (some ⟨.cells z e (1,q),true,c⟩))
   else none
  |_=>none
 |_,_,_=>none
def aD (P:Program) (H:aa) (b:Builtin) (ts:Array TypeId) (args:List Value):Option (Value × aa) :=
 match b,args with
 |.unsafeSliceData,[x]=>(nb x).map fun v=>(v,H)
 |.unsafeString,[p,n]=>nF P H ts p n
 |.append,[s,x]=>eP P H ts s x
 |.copy,[d,s]=>Ai P H ts d s
 |.len,[x]=>(match ts.toList with
  |t::_=>(EW P H t x).map fun v=>(v,H)
  |[]=>none)
 |.cap,[x]=>(match ts.toList with
  |t::_=>(La P H t x).map fun v=>(v,H)
  |[]=>none)
 |.delete,[m,k]=>(match ts.toList with
  |t::_=>vN P H t m k
  |[]=>none)
 |.clear,[x]=>(match ts.toList with
  |t::_=>Cq P H t x
  |[]=>none)
 |.max,args=>(fT true args).map fun v=>(v,H)
 |.min,args=>(fT false args).map fun v=>(v,H)
 |_,_=>none
def NZ (P:Program) (H:aa):Nat->TypeId->Value->Value->Option Bool
 |0,_,_,_=>none
 |d+1,t,x,y =>
  match P.underlying t,x,y with
  |some (.pointer _),.pointer none,.pointer b=>some b.isNone
  |some (.pointer _),.pointer (some _),.pointer none=>some false
  |some (.pointer e),.pointer (some a),.pointer (some b) =>
   (match bh P e,il H a.block,il H b.block with
   |some (_+1),some false,some false=>some (a == b)
   |_,_,_=>none)
  |some (.slice _),.slice none _ _,.slice b _ _=>some b.isNone
  |some (.slice _),.slice (some _) _ _,.slice none _ _=>some false
  |some (.map _ _),.map none,.map b=>some b.isNone
  |some (.map _ _),.map (some _),.map none=>some false
  |some (.func _ _ _),.nilFunc,.func _ _ _=>some false
  |some (.func _ _ _),.func _ _ _,.nilFunc=>some false
  |some (.interface _),.nilIface,.iface _ _=>some false
  |some (.interface _),.iface _ _,.nilIface=>some false
  |some (.interface _),.iface tx vx,.iface ty vy =>
   if tx≠ty then some false else
   (match P.info? tx with
   |some i=>if i.comparable then NZ P H d tx vx vy else none
   |none=>none)
  |_,_,_=>none
def eD (op:BinOp) (k:IntKind) (a b:Int):Option Value :=
 match op with
 |.add=>some (.int k (k.wrap (a+b)))
 |.sub=>some (.int k (k.wrap (a-b)))
 |.mul=>some (.int k (k.wrap (a*b)))
 |.quo=>if b=0 then none else some (.int k (k.wrap (a.tdiv b)))
 |.rem=>if b=0 then none else some (.int k (a.tmod b))
 |.eql=>some (.bool (a == b))
 |.neq=>some (.bool (a != b))
 |.lss=>some (.bool (a<b))
 |.leq=>some (.bool (a<=b))
 |.gtr=>some (.bool (a>b))
 |.geq=>some (.bool (a ≥ b))
 |_=>none
def wv (op:BinOp) (b:Bool):Option Value :=
 match op with
 |.eql=>some (.bool b)
 |.neq=>some (.bool !b)
 |_=>none
def sC (P:Program) (H:aa) (op:BinOp) (t:TypeId) (x y:Value):Option Value :=
 match x,y with
 |.agg _,_=>none
 |.nilIface,.nilIface=>none
 |x,y=>(NZ P H 100 t x y).bind (wv op)
def gp (P:Program) (x:Value) (asserted:TypeId) (commaOk:Bool):Option Value :=
 match P.underlying asserted,x with
 |some (.interface want),.iface t _ =>
  (match P.info? t with
  |some i=>(match Instr.missingMethod want i.methods with
   |none=>some (if commaOk then .tuple #[x,.bool true] else x)
   |some _=>if commaOk then (zeroOf P asserted).map fun z=>.tuple #[z,.bool false] else none)
  |none=>none)
 |some _,.nilIface=>if commaOk then (zeroOf P asserted).map fun z=>.tuple #[z,.bool false] else none
 |some _,.iface t v =>
  if t=asserted then some (if commaOk then .tuple #[v,.bool true] else v)
  else if commaOk then (zeroOf P asserted).map fun z=>.tuple #[z,.bool false] else none
 |_,_=>none
def Rs (P:Program):Bool:=P.funcs.toList.all fun fn=>fn.name != "runtime.NumGoroutine"
def aF (P:Program) (f:FuncId):Bool :=
 match P.funcs[f]? with
 |some fn=>fn.body.isSome&&Rs P
 |none=>false
def wu (P:Program) (H:aa) (t:TypeId) (v:Value) (ptr:Bool):Option Value :=
 match P.underlying t,ptr,v with
 |some (.pointer _),true,v=>some v
 |some (.pointer e),false,.pointer (some a)=>ga P H e (.pointer (some a))
 |some (.pointer _),false,_=>none
 |some _,false,v=>some v
 |_,_,_=>none
def AZ (P:Program) (t:TypeId) (name:String):Option (FuncId × Bool) :=
 match P.info? t with
 |some i =>
  (match i.methods.find? (·.name == name) with
  |some m=>if m.path.isEmpty then m.func else none
  |none=>none)
 |none=>none
def nO:List Tmp->List Value->RV->RV
 |t::ts,v::vs,e=>nO ts vs (if Nat.blt t e.n then e.set t v else e)
 |_,_,e=>e
structure Round where
 l:Nat
 env:RV
 assign:Code
 body:Code
inductive cP where
 |value (v:Value)
 |skip
 |enter (f:FuncId) (args:List Value)
 |round (r:Round)
 |panic (v:Value)
def wz (H:aa) (l:Nat) (args:List Value):Option cP :=
 match H.get l with
 |some ⟨.loop r,_,e⟩ =>
  if args.length=r.params.toList.length then some (.round ⟨l,nO r.params.toList args e,r.assign,r.body⟩) else none
 |_=>none
def iU (P:Program) (f:FuncId) (args:List Value):Option cP :=
 if aF P f then some (.enter f args) else none
def fq (P:Program) (H:aa) (fn:Fn) (args captured:List Value):Option cP :=
 match fn,args with
 |.func f,args=>iU P f (args++captured)
 |.yield l,args=>wz H l args
 |.method name,.iface t v::r=>do
  let (f,ptr) <-AZ P t name
  let x <-wu P H t v ptr
  iU P f (x::r)
 |.via t path f ptr,x::r=>do
  if path.isEmpty then do
   let y <-wu P H t x ptr
   iU P f (y::r)
  else none
 |_,_=>none
abbrev dU:=Option (cP × aa)
def rv (H:aa) (x:Option Value):dU:=x.map fun y=>(.value y,H)
def sI (x:Option (Value × aa)):dU:=x.map fun y=>(.value y.1,y.2)
def Kp (x:Option aa):dU:=x.map fun y=>(.skip,y)
def zF (H:aa):Option Nat->Option (Array MapEntry)
 |none=>some #[]
 |some r=>(match H.get r with
  |some ⟨.map es _,_,_⟩=>some es
  |_=>none)
def lK (P:Program) (H:aa) (t:TypeId) (x k:Value) (ok:Bool):Option Value :=
 match P.underlying t,x with
 |some (.map key elem),.map r=>do
  let es <-zF H r
  let kd <-P.underlying key
  if o7 k&&lA kd then
   match Instr.findNow kd k es.toList 0 with
   |some (some (_,v))=>some (if ok then .tuple #[v,.bool true] else v)
   |some none=>(zeroOf P elem).map fun z=>if ok then .tuple #[z,.bool false] else z
   |none=>none
  else none
 |_,_=>none
def bM (P:Program) (H:aa) (t:TypeId) (x k v:Value):Option aa :=
 match P.underlying t,x with
 |some (.map key _),.map (some r)=>(match H.get r with
  |some ⟨.map es clock,_,_⟩=>do
   let kd <-P.underlying key
   if o7 k&&lA kd&&aS H.next v then
    match Instr.findNow kd k es.toList 0 with
    |some (some (i,_))=>some (H.cE r (some ⟨.map (es.modify i fun e=>{e with key:=k,val:=v}) clock,false,⟨[],0⟩⟩))
    |some none=>some (H.cE r (some ⟨.map (es.push {key:=k,val:=v,born:=clock}) (clock+1),false,⟨[],0⟩⟩))
    |none=>none
   else none
  |_=>none)
 |_,_=>none
def er (P:Program) (t:TypeId) (parts:List (Nat × Value)):Option Value:=do
 let z <-zeroOf P t
 match P.underlying t with
 |some (.struct fields)=>do
  let places <-cS P (fields.mapM fun f=>do pure (f.offset,<-sizeOf f.type))
  (Instr.fill (places[·]?) z.cells parts).map .agg
 |some (.array _ elem)=>do
  let sz <-bh P elem
  (Instr.fill (fun i=>some (i*sz,sz)) z.cells parts).map .agg
 |_=>none
def b7 (P:Program) (H:aa) (t:TypeId) (len:Nat) (parts:List (Nat × Value)):Option (Value × aa):=do
 let .slice e <-P.underlying t|none
 let sz <-bh P e
 let z <-zeroOf P e
 if len*sz<=1000000/\z.cells.toList.length=sz then do
  let cells <-Instr.fill (fun i=>some (i*sz,sz)) (aV z.cells.toList len).toArray parts
  let g <-cF H e cells.toList false
  some (.slice (some ⟨H.next,0,some 0⟩) len len,g)
 else none
def fG (P:Program) (H:aa) (t:TypeId) (l c:Value):Option (Value × aa) :=
 match l,c with
 |.int .i64 l,.int .i64 c=>do
  let .slice e <-P.underlying t|none
  let by1 <-bytesOf P e
  let sz <-bh P e
  let z <-zeroOf P e
  if 0<=l/\l<=c/\small c.toNat by1=true/\z.cells.toList.length=sz then do
   let g <-cF H e (aV z.cells.toList c.toNat) false
   some (.slice (some ⟨H.next,0,some 0⟩) l.toNat c.toNat,g)
  else none
 |_,_=>none
def fp:List Value->Option (List UInt8)
 |[]=>some []
 |.int .i32 n::r=>(fp r).map ((Utf8.encode n).data.toList++·)
 |_=>none
def cj (P:Program) (H:aa) (src dst:TypeId) (x:Value):Option (Value × aa) :=
 match P.underlying src,P.underlying dst,x with
 |some _,some (.int k),.int _ n=>some (.int k (k.wrap n),H)
 |some _,some .string,.string s=>some (.string s,H)
 |some _,some .string,.int _ n=>some (.string (Utf8.encode n),H)
 |some _,some (.slice e),.string s=>(match P.underlying e with
  |some (.int .u8)=>do
   let 1 <-bh P e|none
   if Nat.ble s.size 1000000000 then do
    let g <-cF H e (ay s.data.toList) true
    some (.slice (some ⟨H.next,0,none⟩) s.size s.size,g)
   else none
  |some (.int .i32)=>do
   let 1 <-bh P e|none
   if Nat.ble (Conv.runesFrom s s.size 0 #[]).toList.length 1000000000 then do
    let g <-cF H e (Conv.runesFrom s s.size 0 #[]).toList true
    some (.slice (some ⟨H.next,0,none⟩) (Conv.runesFrom s s.size 0 #[]).toList.length (Conv.runesFrom s s.size 0 #[]).toList.length,g)
   else none
  |_=>none)
 |some (.slice e),some .string,.slice a len _=>do
  let cs <-cO H 1 len (.slice a len len)
  match P.underlying e with
  |some (.int .u8)=>(cG cs).map fun l=>(.string ⟨l.toArray⟩,H)
  |some (.int .i32)=>(fp cs).map fun l=>(.string ⟨l.toArray⟩,H)
  |_=>none
 |some (.slice _),some (.slice e),.slice (some a) len cap=>do
  let .int .u8 <-P.underlying e|none
  match H.get a.block with
  |some ⟨.cells z ty q,false,c⟩ =>
   if Nat.beq src dst&&Nat.beq (a.spot.getD 0) 0 then some (.slice (some a) len cap,H.cE a.block (some ⟨.cells z ty q,true,c⟩)) else none
  |_=>none
 |some (.pointer _),some .unsafePointer,.pointer none=>some (.pointer none,H)
 |some (.pointer t),some .unsafePointer,.pointer (some ⟨n,off,none⟩)=>do
  let sz <-bh P t
  let (c,_,_) <-aR H n
  if Nat.blt 0 sz&&Nat.blt off c.n then some (.pointer (some ⟨n,off,none⟩),H) else none
 |some .unsafePointer,some (.pointer _),.pointer none=>some (.pointer none,H)
 |some .unsafePointer,some (.pointer u),.pointer (some ⟨n,0,none⟩)=>do
  let sz <-bh P u
  match H.get n with
  |some ⟨.cells _ e _,false,c⟩=>if Nat.beq e u&&Nat.beq c.n sz&&Nat.blt 0 sz then some (.pointer (some ⟨n,0,none⟩),H) else none
  |_=>none
 |_,_,_=>none
def qP (P:Program) (H:aa) (t:TypeId) (x:Value):Option (Value × aa) :=
 match P.underlying t,x with
 |some .string,.string s=>some (.pointer (some ⟨H.next,0,none⟩),H.new ⟨.stringIter s 0,false,⟨[],0⟩⟩)
 |_,_=>none
def rY (H:aa) (it:Value) (isString:Bool):Option (Value × aa) :=
 match it,isString with
 |.pointer (some ⟨r,0,none⟩),true=>(match H.get r with
  |some ⟨.stringIter s pos,_,_⟩ =>
   if pos<s.size then
    some (.tuple #[.bool true,goInt pos,.int .i32 (Utf8.decode s pos).1],H.cE r (some ⟨.stringIter s (pos+(Utf8.decode s pos).2),false,⟨[],0⟩⟩))
   else some (.tuple #[.bool false],H)
  |_=>none)
 |_,_=>none
def gH (P:Program) (a:ag):List (Nat × Operand)->Option (List (Nat × Value))
 |[]=>some []
 |(i,x)::r=>do
  let v <-aK P a x
  let vs <-gH P a r
  some ((i,v)::vs)
def lF (P:Program) (a:ag):Option Operand->Option (Option Value)
 |none=>some none
 |some x=>(aK P a x).map some
def jF (P:Program):Value:=.iface P.rt.errorString (strVal "invalid memory address or nil pointer dereference")
def qn (x:Operand) (P:Program) (a:ag) (H:aa):dU:=rv H (aK P a x)
def zK (c x y:Operand) (P:Program) (a:ag) (H:aa):dU:=do
 match <-aK P a c with
 |.bool true=>rv H (aK P a x)
 |.bool false=>rv H (aK P a y)
 |_=>none
def xT (t:TypeId) (v:Value) (H:aa):dU:=do
 let g <-cF H t v.cells.toList false
 some (.value (.pointer (some ⟨H.next,0,none⟩)),g)
def wj (t:TypeId) (P:Program) (_:ag) (H:aa):dU:=do xT t (<-zeroOf P t) H
def sQ (t:TypeId) (x:Operand) (P:Program) (a:ag) (H:aa):dU:=do xT t (<-aK P a x) H
def tR (t:TypeId) (ps:Array (Nat × Operand)) (P:Program) (a:ag) (H:aa):dU:=do rv H (er P t (<-gH P a ps.toList))
def iz (t:TypeId) (n:Nat) (ps:Array (Nat × Operand)) (P:Program) (a:ag) (H:aa):dU:=do sI (b7 P H t n (<-gH P a ps.toList))
def Dq (t:TypeId) (x:Operand) (P:Program) (a:ag) (H:aa):dU:=do rv H (ga P H t (<-aK P a x))
def sK (t:TypeId) (x y:Operand) (P:Program) (a:ag) (H:aa):dU:=do Kp (eW P H t (<-aK P a x) (<-aK P a y))
def y9 (P:Program) (H:aa) (v:Value):dU :=
 match v with
 |.pointer none=>some (.panic (jF P),H)
 |.nilIface=>some (.panic (jF P),H)
 |.nilFunc=>some (.panic (jF P),H)
 |.func (.method _) _ _=>none
 |.chan _=>none
 |y=>some (.value y,H)
def JS (x:Operand) (P:Program) (a:ag) (H:aa):dU:=do y9 P H (<-aK P a x)
def fu (P:Program) (H:aa) (op:BinOp) (t:TypeId) (x y:Value):Option Value :=
 match x,y with
 |.int k a,.int k' b=>if k=k' then eD op k a b else none
 |.bool a,.bool b=>(match P.underlying t with
  |some .bool=>wv op (a == b)
  |_=>none)
 |x,y=>sC P H op t x y
def jX (P:Program) (s:Sem Value):Option cP :=
 match cS P s with
 |some v=>if af v then some (.value v) else none
 |none=>(match o6 P s with
  |some v=>if af v then some (.panic v) else none
  |none=>none)
def Ec (P:Program) (H:aa) (op:BinOp) (t:TypeId) (x y:Operand) (p q:Value):dU :=
 match fu P H op t p q with
 |some v=>some (.value v,H)
 |none=>if af p&&af q then (jX P (do eqGuard op t x y p q; binOp op t p q)).map fun r=>(r,H) else none
def Gt (op:BinOp) (t:TypeId) (x y:Operand) (P:Program) (a:ag) (H:aa):dU:=do
 let p <-aK P a x
 let q <-aK P a y
 Ec P H op t x y p q
def QD (P:Program) (H:aa) (op:UnOp) (v:Value):dU :=
 match op,v with
 |.not,.bool b=>some (.value (.bool !b),H)
 |.neg,.int k n=>some (.value (.int k (k.wrap (0-n))),H)
 |op,v=>if af v then (jX P (Op.unary op v)).map fun r=>(r,H) else none
def QO (op:UnOp) (x:Operand) (P:Program) (a:ag) (H:aa):dU:=do QD P H op (<-aK P a x)
def rj (s d:TypeId) (x:Operand) (P:Program) (a:ag) (H:aa):dU:=do sI (cj P H s d (<-aK P a x))
def sX (P:Program) (H:aa) (t:TypeId) (v:Value):dU :=
 match P.underlying t with
 |some (.interface _)=>none
 |some _=>some (.value (.iface t v),H)
 |none=>none
def xk (t:TypeId) (x:Operand) (P:Program) (a:ag) (H:aa):dU:=do sX P H t (<-aK P a x)
def zQ (H:aa) (fn:Fn) (p q:List Value):dU :=
 match fn with
 |.yield _=>none
 |fn=>some (.value (.func fn ⟨p⟩ ⟨q⟩),H)
def Dw (fn:Fn) (first captured:Array Operand) (P:Program) (a:ag) (H:aa):dU:=do zQ H fn (<-fc P a first.toList) (<-fc P a captured.toList)
def qH (H:aa):dU:=some (.value (.map (some H.next)),H.new ⟨.map #[] 0,false,⟨[],0⟩⟩)
def rF (t:TypeId) (r:Option Operand) (P:Program) (a:ag) (H:aa):dU :=
 match r with
 |none=>qH H
 |some x=>do
  let .map _ _ <-P.underlying t|none
  let .int .i64 _ <-aK P a x|none
  qH H
def kE (t:TypeId) (l c:Operand) (P:Program) (a:ag) (H:aa):dU:=do sI (fG P H t (<-aK P a l) (<-aK P a c))
def yj (t:TypeId) (x:Operand) (lo hi mx:Option Operand) (P:Program) (a:ag) (H:aa):dU:=do
 sI (cg P H t (<-aK P a x) (<-lF P a lo) (<-lF P a hi) (<-lF P a mx))
def jh (t:TypeId) (x:Operand) (f:Nat) (P:Program) (a:ag) (H:aa):dU:=do rv H (aH P t (<-aK P a x) f)
def BZ (t:TypeId) (x:Operand) (f:Nat) (P:Program) (a:ag) (H:aa):dU:=do rv H (tm P t (<-aK P a x) f)
def jq (t:TypeId) (x i:Operand) (P:Program) (a:ag) (H:aa):dU:=do rv H (aP P t (<-aK P a x) (<-aK P a i))
def tW (P:Program) (H:aa) (t:TypeId) (p q:Value):dU :=
 match BP P t p q with
 |some v=>some (.value v,H)
 |none=>if af p&&af q then (jX P (Instr.index t p q)).map fun r=>(r,H) else none
def Cn (t:TypeId) (x i:Operand) (P:Program) (a:ag) (H:aa):dU:=do tW P H t (<-aK P a x) (<-aK P a i)
def vT (t:TypeId) (x k:Operand) (ok:Bool) (P:Program) (a:ag) (H:aa):dU:=do rv H (lK P H t (<-aK P a x) (<-aK P a k) ok)
def ik (t:TypeId) (m k x:Operand) (P:Program) (a:ag) (H:aa):dU:=do Kp (bM P H t (<-aK P a m) (<-aK P a k) (<-aK P a x))
def Bo (t:TypeId) (x:Operand) (P:Program) (a:ag) (H:aa):dU:=do sI (qP P H t (<-aK P a x))
def Iz (it:Operand) (s:Bool) (P:Program) (a:ag) (H:aa):dU:=do sI (rY H (<-aK P a it) s)
def lC (x:Operand) (asserted:TypeId) (ok:Bool) (P:Program) (a:ag) (H:aa):dU:=do rv H (gp P (<-aK P a x) asserted ok)
def kR (H:aa) (i:Nat) (v:Value):dU :=
 match v with
 |.tuple vs=>rv H (vs.toList[i]?)
 |_=>none
def mN (x:Operand) (i:Nat) (P:Program) (a:ag) (H:aa):dU:=do kR H i (<-aK P a x)
def oA (P:Program) (H:aa) (f:Value) (args:List Value):dU :=
 match f with
 |.func fn first captured=>(fq P H fn (first.toList++args) captured.toList).map fun r=>(r,H)
 |_=>none
def Ih (P:Program) (g:FuncId) (name:String):Bool :=
 match P.funcs[g]? with
 |some fn=>fn.body.isNone&&fn.name == name&&fn.origin == ""
 |none=>false
def nJ (P:Program) (H:aa) (g:FuncId) (args:List Value):dU :=
 match args with
 |[.pointer (some a)]=>if Ih P g "internal/abi.NoEscape" then some (.value (.pointer (some a)),H) else none
 |[.int .i64 n]=>if Ih P g "internal/bytealg.MakeNoZero" && decide (0<=n)&&decide (n<1000000000) then
   (match P.funcs[g]? with
   |some fn=>(match fn.resultTypes.toList with
    |[t]=>(match P.underlying t with
     |some (.slice e)=>(match bh P e with
      |some 1=>some (.value (.slice (some ⟨H.next,0,none⟩) n.toNat 0),H.new ⟨.cells #[] e (0,0),true,⟨[],0⟩⟩)
      |_=>none)
     |_=>none)
    |_=>none)
   |none=>none)
  else none
 |_=>none
def vY (P:Program) (H:aa) (f:Value) (args:List Value):dU :=
 match f with
 |.func (.func g) ⟨[]⟩ ⟨[]⟩ =>
  if Cg args then
   match cS P (callFunc g ⟨args⟩) with
   |some (.value v)=>if af v then some (.value v,H) else none
   |_=>nJ P H g args
  else nJ P H g args
 |_=>none
def kc (c:Call) (P:Program) (a:ag) (H:aa):dU:=do
 let args <-fc P a c.args.toList
 match c.callee with
 |.builtin b=>sI (aD P H b c.argTypes args)
 |.invoke recv name=>do
  let r <-aK P a recv
  (fq P H (.method name) (r::args) []).map fun r=>(r,H)
 |.value f=>do
  let f <-aK P a f
  match oA P H f args with
  |some r=>some r
  |none=>vY P H f args
def A3 (H:aa) (v:Value):dU :=
 match v with
 |.iface t y=>some (.panic (.iface t y),H)
 |_=>none
def BM (x:Operand) (P:Program) (a:ag) (H:aa):dU:=do A3 H (<-aK P a x)
def EL (_:Program) (_:ag) (_:aa):dU:=none
def ck (op:Op):Program->ag->aa->dU :=
 match op with
 |.move x=>qn x
 |.assign x=>qn x
 |.pick c x y=>zK c x y
 |.alloc t=>wj t
 |.box t x=>sQ t x
 |.build t ps=>tR t ps
 |.buildSlice t n ps=>iz t n ps
 |.load t x=>Dq t x
 |.store t x y=>sK t x y
 |.nilCheck x=>JS x
 |.binOp op t x y _=>Gt op t x y
 |.unOp op _ x=>QO op x
 |.makeInterface t x=>xk t x
 |.makeFunc fn first captured=>Dw fn first captured
 |.makeSlice t l c=>kE t l c
 |.slice t x lo hi mx=>yj t x lo hi mx
 |.fieldAddr t x f=>jh t x f
 |.field t x f=>BZ t x f
 |.indexAddr t x i=>jq t x i
 |.index t x i=>Cn t x i
 |.typeAssert x _ asserted ok=>lC x asserted ok
 |.extract x i=>mN x i
 |.call c=>kc c
 |.panic x=>BM x
 |.convert s d x=>rj s d x
 |.makeMap t r=>rF t r
 |.lookup t x k ok=>vT t x k ok
 |.mapUpdate t m k x=>ik t m k x
 |.insert t m k x=>ik t m k x
 |.range t x=>Bo t x
 |.next it s=>Iz it s
 |_=>EL
structure Rec where
 run:Option Nat->Code->ag->aa->Option (Exit × ag × aa)
 know:FuncId->List Value->aa->Option (Value × aa)
def cV (P:Program) (H:aa) (a:ag):List ResultVar->Option (List Value)
 |[]=>some []
 |.tmp t::r=>do
  let vs <-cV P H a r
  some (a.tmp t::vs)
 |.cell x t::r=>do
  let v <-ga P H t (a.tmp x)
  let vs <-cV P H a r
  some (v::vs)
def Bv:List Value->Value
 |[v]=>v
 |vs=>.tuple ⟨vs⟩
abbrev Out:=Except (List PanicEntry) Value
def eS:FrameMode->Value × FrameMode
 |.panicking ({v,recovered:=false,goexit:=false}::older)=>(v,.panicking ({v,recovered:=true}::older))
 |u=>(.nilIface,u)
def isRec (o:Op):Bool :=
 match o with
 |.call ⟨.builtin .recover,⟨[]⟩,_⟩=>true
 |_=>false
def cw (ops:Array Oper) (a:ag) (o:Oper):Option Bool :=
 match o.guard with
 |none=>some true
 |some (j,want)=>(match ops[j]? with
  |some oj=>(match oj.dst with
   |some d=>(match a.tmp d with
    |.bool b=>some (b == want)
    |_=>some false)
   |none=>some false)
  |none=>some false)
def jx (P:Program) (ops:Array Oper):List Oper->ag->FrameMode->aa->Option (Exit × ag × FrameMode × aa)
 |[],a,u,H=>some (.normal,a,u,H)
 |o::rest,a,u,H =>
  match cw ops a o with
  |some true =>
   (match isRec o.op with
   |true=>jx P ops rest (a.put o.dst (eS u).1) (eS u).2 H
   |false=>(match ck o.op P a H with
    |some (.value v,g)=>jx P ops rest (a.put o.dst v) u g
    |some (.skip,g)=>jx P ops rest (a.put o.dst undef) u g
    |some (.panic v,g)=>some (.panic [{v,recovered:=false}],a,u,g)
    |_=>none))
  |some false=>jx P ops rest (a.put o.dst undef) u H
  |none=>none
def kP (P:Program) (rec:Rec):Code->ag->FrameMode->aa->Option (Exit × ag × FrameMode × aa)
 |.seq x y,a,u,H =>
  match kP P rec x a u H with
  |some (.normal,a1,u1,H1)=>kP P rec y a1 u1 H1
  |r=>r
 |.cond c x y,a,u,H =>
  match aK P a c with
  |some (.bool true)=>kP P rec x a u H
  |some (.bool false)=>kP P rec y a u H
  |_=>none
 |.region id ops false,a,u,H =>
  match ops.toList.any fun o=>isRec o.op with
  |true=>jx P ops ops.toList a u H
  |false=>(rec.run none (.region id ops false) a H).map fun r=>(r.1,r.2.1,u,r.2.2)
 |c,a,u,H=>(rec.run none c a H).map fun r=>(r.1,r.2.1,u,r.2.2)
def Q0 (P:Program) (fn:Func) (r:Exit × ag × FrameMode × aa):Option (Out × FrameMode × aa) :=
 match r with
 |(.normal,⟨e,[]⟩,u,H)=>(cV P H ⟨e,[]⟩ fn.results.toList).map fun vs=>(.ok (Bv vs),u,H)
 |(.ret,⟨e,[]⟩,u,H)=>(cV P H ⟨e,[]⟩ fn.results.toList).map fun vs=>(.ok (Bv vs),u,H)
 |(.panic ch,⟨_,[]⟩,u,H)=>some (.error ch,u,H)
 |_=>none
def lQ (P:Program) (rec:Rec) (f:FuncId) (args:List Value) (u:FrameMode) (H:aa):Option (Out × FrameMode × aa):=do
 let fn <-P.funcs[f]?
 let c <-fn.body
 if Nat.ble args.length fn.ntmps then do
  let r <-kP P rec c ⟨{RV.ofList args with n:=fn.ntmps},[]⟩ u H
  Q0 P fn r
 else none
def dy (P:Program) (rec:Rec) (fn:Func) (a1:ag):List Deferred->FrameMode->aa->Option (Out × aa)
 |[],u,H=>(match u with
  |.returning=>(cV P H a1 fn.results.toList).map fun vs=>(.ok (Bv vs),H)
  |.panicking ch=>some (.error ch,H)
  |.run=>none)
 |d::ds,u,H=>(match u with
  |.run=>none
  |u=>(match d with
   |⟨.collected r,_⟩=>(match H.get r with
    |some ⟨.deferred (some []),_,_⟩=>dy P rec fn a1 ds u (H.cE r (some ⟨.deferred none,false,⟨[],0⟩⟩))
    |_=>none)
   |⟨.fn (.func f) cap,as0⟩ =>
    if aF P f then
     match lQ P rec f (as0.toList++cap.toList) u H with
     |some (.ok _,u1,H1)=>dy P rec fn a1 ds (settle u1) H1
     |some (.error ch,u1,H1)=>dy P rec fn a1 ds (raised u1 ch) H1
     |none=>none
    else none
   |_=>none))
def JZ (P:Program) (rec:Rec) (fn:Func) (r:Exit × ag × aa):Option (Out × aa) :=
 match r with
 |(.normal,a1,H1)=>dy P rec fn a1 a1.defers .returning H1
 |(.ret,a1,H1)=>dy P rec fn a1 a1.defers .returning H1
 |(.panic ch,a1,H1)=>dy P rec fn a1 a1.defers (.panicking ch) H1
 |_=>none
def BK (P:Program) (rec:Rec) (f:FuncId) (args:List Value) (H:aa):Option (Out × aa):=do
 let fn <-P.funcs[f]?
 let c <-fn.body
 if Nat.ble args.length fn.ntmps then do
  let r <-rec.run none c ⟨{RV.ofList args with n:=fn.ntmps},[]⟩ H
  JZ P rec fn r
 else none
def HP (P:Program) (rec:Rec) (f:FuncId) (args:List Value) (H:aa):Option (Out × aa) :=
 match rec.know f args H with
 |some (v,g)=>some (.ok v,g)
 |none=>BK P rec f args H
def eM (H:aa) (l:Nat) (r:Loop) (e:RV):aa:=H.cE l (some ⟨.loop r,false,e⟩)
def getLoop (H:aa) (l:Nat):Option (Loop × RV) :=
 match H.get l with
 |some ⟨.loop r,_,e⟩=>some (r,e)
 |_=>none
def oF:Exit->Option (Option Code)
 |.normal=>some none
 |.ret=>some (some .ret)
 |.exit id=>some (some (.exit id))
 |.goto t=>some (some (.goto t))
 |_=>none
def E0 (rec:Rec) (r:Round) (H:aa):Option (Out × aa):=do
 let (e,a1,H1) <-rec.run (some r.l) r.assign ⟨r.env,[]⟩ H
 match e with
 |.normal=>do
  let (lp,le) <-getLoop H1 r.l
  match lp.state with
  |.ready=>do
   let (e2,_,H2) <-rec.run (some r.l) r.body a1 (eM H1 r.l {lp with state:=.busy} le)
   let j <-oF e2
   let (lp2,le2) <-getLoop H2 r.l
   some (.ok (.bool j.isNone),eM H2 r.l {lp2 with state:=if j.isNone then .ready else .done,pending:=j} le2)
  |_=>none
 |_=>none
def Qf (P:Program) (rec:Rec) (x:cP × aa):Option (Out × aa) :=
 match x with
 |(.value v,g)=>some (.ok v,g)
 |(.skip,g)=>some (.ok undef,g)
 |(.enter f args,g)=>HP P rec f args g
 |(.round r,g)=>E0 rec r g
 |(.panic v,g)=>some (.error [{v,recovered:=false}],g)
def Nr (P:Program) (rec:Rec) (a:ag) (H:aa) (o:Oper):Option (Out × aa):=(ck o.op P a H).bind (Qf P rec)
def FC (f:Value) (args:List Value):Option Deferred :=
 match f with
 |.func (.func g) first captured=>some ⟨.fn (.func g) captured,⟨first.toList++args⟩⟩
 |_=>none
def px (P:Program) (a:ag) (o:Op):Option Deferred :=
 match o with
 |.defer c=>(match c.callee with
  |.value f=>do
   let args <-fc P a c.args.toList
   let f <-aK P a f
   FC f args
  |_=>none)
 |_=>none
def jW (P:Program) (rec:Rec) (top:Bool) (ops:Array Oper):List Oper->ag->aa->Option (Exit × ag × aa)
 |[],a,H=>some (.normal,a,H)
 |o::rest,a,H =>
  match cw ops a o with
  |some true =>
   (match Nr P rec a H o with
   |some (.ok v,g)=>jW P rec top ops rest (a.put o.dst v) g
   |some (.error ch,g)=>some (.panic ch,a,g)
   |none=>(match top,px P a o.op with
    |true,some d=>jW P rec top ops rest (ag.put ⟨a.env,d::a.defers⟩ o.dst undef) H
    |_,_=>none))
  |some false=>jW P rec top ops rest (a.put o.dst undef) H
  |none=>none
mutual
def ae:Value->List Nat
 |.pointer (some a)=>[a.block]
 |.slice (some a) _ _=>[a.block]
 |.map (some r)=>[r]
 |.chan (some k)=>[k]
 |.func (.yield l) a b=>l::(rf a++rf b)
 |.func _ a b=>rf a++rf b
 |.iface _ v=>ae v
 |.agg cs=>rf cs
 |.tuple cs=>rf cs
 |_=>[]
def rf:Array Value->List Nat
 |⟨l⟩=>gk l
def gk:List Value->List Nat
 |[]=>[]
 |v::r=>ae v++gk r
end
def pZ (o:dw):List Nat :=
 match o.obj with
 |.cells _ _ _=>gk (o.rv.jK 0 o.rv.n)
 |.map es _=>es.toList.flatMap fun e=>ae e.key++ae e.val
 |.loop r=>r.defers::gk (o.rv.jK 0 o.rv.n)
 |_=>[]
def reach (H:aa):Nat->List Nat->Nat->List Nat->List Nat
 |0,_,_,acc=>acc
 |_+1,[],_,acc=>acc
 |f+1,n::r,seen,acc =>
  if seen.testBit n then reach H f r seen acc else
  match H.get n with
  |some o=>reach H f (pZ o++r) (seen ||| 1 <<< n) (n::acc)
  |none=>reach H f r (seen ||| 1 <<< n) acc
def D2 (n:Nat):List Nat->Bool
 |[]=>false
 |m::r=>Nat.beq m n||D2 n r
def dedup (H:aa):List Nat->List Nat->List Nat
 |[],acc=>acc
 |n::r,acc=>if D2 n acc then dedup H r acc else
  match H.get n with
  |some _=>dedup H r (n::acc)
  |none=>dedup H r acc
def direct (P:Program) (a:ag) (H:aa) (xs:List Operand):List Nat :=
 match fc P a xs with
 |some vs=>dedup H (gk vs) []
 |none=>[]
def Bp (H:aa):Nat->List Nat
 |0=>[]
 |n+1=>match H.get n with
  |some _=>n::Bp H n
  |none=>Bp H n
def whole (P:Program) (a:ag) (H:aa) (xs:List Operand):List Nat :=
 match fc P a xs with
 |some vs=>Bp H P.globals.size++reach H 1000000 (gk vs) 0 []
 |none=>[]
def Rf (P:Program) (c:Call):ag->aa->List Nat :=
 match c.callee with
 |.builtin _=>fun a H=>direct P a H c.args.toList
 |_=>fun a H=>whole P a H c.operands.toList
def y6 (P:Program) (op:Op):ag->aa->List Nat :=
 match op with
 |.load _ x=>fun a H=>direct P a H [x]
 |.store _ x _=>fun a H=>direct P a H [x]
 |.slice _ x _ _ _=>fun a H=>direct P a H [x]
 |.lookup _ x _ _=>fun a H=>direct P a H [x]
 |.mapUpdate _ x _ _=>fun a H=>direct P a H [x]
 |.insert _ x _ _=>fun a H=>direct P a H [x]
 |.next x _=>fun a H=>direct P a H [x]
 |.convert _ _ x=>fun a H=>direct P a H [x]
 |.binOp _ _ x y _=>fun a H=>direct P a H [x,y]
 |.call c=>Rf P c
 |_=>fun _ _=>[]
def aa.none (next:Nat):aa:=⟨[],next,next,[]⟩
def aa.lay (g H:aa):List Nat->aa
 |[]=>g
 |n::r=>aa.lay (g.put n (H.get n)) H r
def aa.restrict (H:aa) (F:List Nat):aa:=aa.lay (aa.none H.next) H F
def aa.ey (H g:aa):List Nat->aa
 |[]=>H
 |n::r=>aa.ey (H.cE n (g.get n)) g r
def aa.cJ (H g:aa) (n:Nat):Nat->aa
 |0=>H
 |k+1=>aa.cJ (H.put n (g.get n)) g (n+1) k
def aa.merge (H g:aa):aa :=
 let h:=aa.cJ (aa.ey H g g.dirty) g H.next (g.next-H.next)
 ⟨h.root,g.next,h.base,h.dirty⟩
structure Fp where
 i:Nat
 F:List Nat
 W:List Nat
 lo:Nat
 hi:Nat
def Od (a b:List Nat):Bool:=a.all fun n=>!D2 n b
def pb (acc:List Nat):List Edge->Nat->Nat
 |[],s=>s
 |e::r,s=>pb acc r (if Region.binds .any e then s ||| 1 <<< e.on ||| acc.getD e.on 0 else s)
def jC:List Oper->List Nat->List Nat
 |[],acc=>acc
 |o::r,acc=>jC r (acc++[pb acc o.after.toList 0])
def gS (ops:Array Oper):List Nat:=jC ops.toList []
def uZ:List Nat->Nat
 |[]=>0
 |t::r=>1 <<< t ||| uZ r
structure Mask where
 r:Nat
 w:Nat
def rK (ops:Array Oper) (o:Oper):Mask:=⟨uZ (o.looksAt ops),uZ o.dst.toList⟩
def uO (ops:Array Oper):List Oper->List Mask
 |[]=>[]
 |o::r=>rK ops o::uO ops r
def A7 (x y:Mask):Bool:=Nat.beq (x.w &&& (y.r ||| y.w)) 0&&Nat.beq (y.w &&& x.r) 0
def v7 (y:Mask) (anc:Nat):List Mask->Nat->Bool
 |[],_=>true
 |x::r,i=>(anc.testBit i||A7 x y)&&v7 y anc r (i+1)
def vS (j:Nat):List Edge->Bool
 |[]=>true
 |e::r=>(!Region.binds .any e||Nat.blt e.on j)&&vS j r
def nk (ms:List Mask) (anc:List Nat):List Oper->Nat->Bool
 |[],_=>true
 |oj::r,j=>v7 (ms.getD j ⟨0,0⟩) (anc.getD j 0) (ms.take j) 0&&vS j oj.after.toList&&nk ms anc r (j+1)
def gj (ops:Array Oper):Bool:=nk (uO ops ops.toList) (gS ops) ops.toList 0
def da (n:Nat):Nat->List Nat
 |0=>[]
 |k+1=>n::da (n+1) k
def fk (g:aa) (n:Nat):List Nat :=
 match g.get n with
 |some o=>pZ o
 |none=>[]
def fZ (v:Value) (g:aa) (next:Nat):List Nat:=ae v++(g.dirty++da next (g.next-next)).flatMap (fk g)
def B6 (lo hi:Nat) (l:List Nat):Bool:=l.all fun n=>Nat.blt n lo||Nat.ble hi n
def tC (anc:Nat) (F:List Nat) (v:Value) (g:aa) (next:Nat) (r:Fp):Bool :=
 anc.testBit r.i||(Od r.W F&&Od r.F g.dirty&&(Nat.ble r.hi r.lo||(B6 r.lo r.hi F&&B6 r.lo r.hi (fZ v g next))))
def km (P:Program) (rec:Rec) (ops:Array Oper) (anc:List Nat):List Oper->Nat->List Fp->ag->aa->Option (ag × aa)
 |[],_,_,a,H=>some (a,H)
 |o::rest,i,fps,a,H =>
  match cw ops a o with
  |some true =>
   (match Nr P rec a (H.restrict (y6 P o.op a H)) o with
   |some (.ok v,g) =>
    if (y6 P o.op a H).all (fun n=>(H.get n).isSome)&&g.dirty.all (fun n=>D2 n (y6 P o.op a H)) &&
      fps.all (tC (anc.getD i 0) (y6 P o.op a H) v g H.next) then
     km P rec ops anc rest (i+1) (⟨i,y6 P o.op a H,g.dirty,H.next,g.next⟩::fps) (a.put o.dst v) (H.merge g)
    else none
   |_=>none)
  |some false=>km P rec ops anc rest (i+1) fps (a.put o.dst undef) H
  |none=>none
def lI (a:ag) (params:Array Tmp) (assign body:Code) (d:Nat):dw :=
 ⟨.loop {state:=.ready,pending:=none,fn:=0,tmps:=#[],params,assign,body,defers:=d},false,a.env⟩
def enterLoop (ro:Option Nat) (a:ag) (params:Array Tmp) (assign body:Code) (H:aa):Option (Nat × List Deferred × aa) :=
 match ro with
 |none=>some (H.next+1,[{target:=.collected H.next,args:=#[]}],(H.new ⟨.deferred (some []),false,⟨[],0⟩⟩).new (lI a params assign body H.next))
 |some l0=>do
  let (r,_) <-getLoop H l0
  if Nat.blt r.defers H.next then some (H.next,[],H.new (lI a params assign body r.defers)) else none
def qK (rec:Rec) (ro:Option Nat) (a1:ag) (l:Nat) (r:Out × aa):Option (Exit × ag × aa) :=
 match r with
 |(.ok _,H2)=>do
  let (lp,le) <-getLoop H2 l
  match lp.state with
  |.busy=>none
  |_ =>
   match lp.pending with
   |none=>some (.normal,a1,eM H2 l {lp with state:=.exhausted} le)
   |some c=>rec.run ro c a1 (eM H2 l {lp with state:=.exhausted} le)
 |(.error ch,H2)=>some (.panic ch,a1,H2)
def F1 (P:Program) (rec:Rec) (ro:Option Nat) (f:Value) (params:Array Tmp) (assign body:Code) (a:ag) (H:aa):Option (Exit × ag × aa) :=
 match f with
 |.func fn first captured=>do
  let (l,mark,H1) <-enterLoop ro a params assign body H
  let res <-fq P H1 fn (first.toList++[.func (.yield l) #[] #[]]) captured.toList
  match res with
  |.enter g args=>do
   let r <-HP P rec g args H1
   qK rec ro {a with defers:=mark++a.defers} l r
  |_=>none
 |_=>none
abbrev qd:=Program->Rec->Option Nat->ag->aa->Option (Exit × ag × aa)
def qo (e:Exit):qd:=fun _ _ _ a H=>some (e,a,H)
def Pj (x y:Code):qd:=fun _ rec ro a H =>
 match rec.run ro x a H with
 |some (.normal,a1,H1)=>rec.run ro y a1 H1
 |r=>r
def Mq (c:Operand) (x y:Code):qd:=fun P rec ro a H =>
 match aK P a c with
 |some (.bool true)=>rec.run ro x a H
 |some (.bool false)=>rec.run ro y a H
 |_=>none
def Hg (id:Nat) (b:Code):qd:=fun _ rec ro a H =>
 match rec.run ro b a H with
 |some (.exit k,a1,H1)=>if k=id then some (.normal,a1,H1) else some (.exit k,a1,H1)
 |r=>r
def IL (b:Code):qd:=fun _ rec ro a H =>
 match rec.run ro b a H with
 |some (.goto _,_,_)=>none
 |r=>r
def Lc (b:Code):qd:=fun _ rec ro a H =>
 match rec.run ro b a H with
 |some (.normal,a1,H1)=>rec.run ro (.loop b) a1 H1
 |r=>r
def tO (P:Program) (rec:Rec) (ops:Array Oper) (a:ag) (H:aa):Option (Exit × ag × aa) :=
 match ops.toList.getLast?,km P rec ops (gS ops) ops.toList.dropLast 0 [] a H with
 |some o,some (a1,H1) =>
  if (List.range (ops.size-1)).all (fun j=>((gS ops).getD (ops.size-1) 0).testBit j) then
   (match cw ops a1 o,Nr P rec a1 H1 o with
   |some true,some (.error ch,H2)=>some (.panic ch,a1,H2)
   |_,_=>none)
  else none
 |_,_=>none
def EA (ops:Array Oper) (draw:Bool):qd:=fun P rec ro a H =>
 match draw with
 |true =>
  if gj ops then
   (match km P rec ops (gS ops) ops.toList 0 [] a H with
   |some r=>some (.normal,r.1,r.2)
   |none=>tO P rec ops a H)
  else none
 |false=>jW P rec ro.isNone ops ops.toList a H
def HY (f:Operand) (params:Array Tmp) (assign body:Code):qd:=fun P rec ro a H=>do
 F1 P rec ro (<-aK P a f) params assign body a H
def K3:qd:=fun _ _ _ _ _=>none
def step (c:Code):qd :=
 match c with
 |.skip=>qo .normal
 |.label _=>qo .normal
 |.seq x y=>Pj x y
 |.cond c x y=>Mq c x y
 |.block id b=>Hg id b
 |.loop b=>Lc b
 |.scope b=>IL b
 |.exit id=>qo (.exit id)
 |.goto l=>qo (.goto l)
 |.ret=>qo .ret
 |.region _ ops draw=>EA ops draw
 |.rangeFunc f params assign body=>HY f params assign body
 |_=>K3
def yu (P:Program) (K:FuncId->List Value->aa->Option (Value × aa)):Nat->Rec
 |0=>⟨fun _ _ _ _=>none,K⟩
 |n+1=>⟨fun ro c a H=>step c P (yu P K n) ro a H,K⟩
def LC (K:FuncId->List Value->aa->Option Value) (f:FuncId) (args:List Value) (H:aa):Option (Value × aa) :=
 match K f args H with
 |some v=>some (v,H)
 |none=>none
def exec (P:Program) (K:FuncId->List Value->aa->Option Value) (n:Nat):Rec:=yu P (LC K) n
def call (P:Program) (K:FuncId->List Value->aa->Option Value) (fuel:Nat) (f:FuncId) (args:List Value) (H:aa):Option (Out × aa):=BK P (exec P K fuel) f args H
def Ip:Value->Value->Bool
 |.int k a,.int l b=>decide (k=l)&&decide (a=b)
 |.bool a,.bool b=>a == b
 |_,_=>false
def CJ:List Value->List Value->Bool
 |[],[]=>true
 |a::r,b::q=>Ip a b&&CJ r q
 |_,_=>false
def GJ:Value->Value->Bool
 |.agg a,.agg b=>CJ a.toList b.toList
 |.tuple a,.tuple b=>CJ a.toList b.toList
 |a,b=>Ip a b
def Pc:List Value->List Value->Bool
 |[],[]=>true
 |a::r,b::q=>GJ a b&&Pc r q
 |_,_=>false
def Lb:List (FuncId × List Value × Value)->FuncId->List Value->aa->Option Value
 |[],_,_,_=>none
 |(g,as0,v)::r,f,args,H=>if Nat.beq g f&&Pc as0 args then some v else Lb r f args H
theorem eI {α:Type} (d:α):∀ (l:List α) (i:Nat) (v:α) (j:Nat),(fV d l i v).getD j d=if j=i then v else l.getD j d
 |[],0,v,0=>rfl
 |[],0,v,j+1=>by simp[fV]
 |[],i+1,v,0=>by simp[fV]
 |[],i+1,v,j+1=>by
  have:=eI d [] i v j
  simpa[fV]using this
 |x::r,0,v,0=>rfl
 |x::r,0,v,j+1=>by simp[fV]
 |x::r,i+1,v,0=>by simp[fV]
 |x::r,i+1,v,j+1=>by
  have:=eI d r i v j
  simpa[fV]using this
theorem RV.ri (v:RV) (i:Nat) (x:Value) (j:Nat):(v.set i x).get j=if j=i then x else v.get j:=by
 unfold RV.get RV.set
 simp only[eI]
 by_cases h:j / 16=i / 16
 ·rw[if_pos h,eI,h]
  by_cases h2:j % 16=i % 16
  ·have:j=i:=by omega
   simp[this]
  ·have:j≠i:=fun e=>h2 (by rw[e])
   simp[h2,this]
 ·have:j≠i:=fun e=>h (by rw[e])
  simp[h,this]
@[simp] theorem RV.n_set (v:RV) (i:Nat) (x:Value):(v.set i x).n=v.n:=rfl
theorem RV.o9 (l:List Value):∀ (v:RV) (i:Nat),(v.ft i l).n=v.n:=by
 induction l with
 |nil=>intro v i; rfl
 |cons x r ih=>intro v i; simp[RV.ft,ih]
theorem RV.mJ (l:List Value):∀ (v:RV) (i j:Nat),(v.ft i l).get j=if i<=j/\j<i+l.length then l.getD (j-i) undef else v.get j:=by
 induction l with
 |nil=>intro v i j; simp[RV.ft]; omega
 |cons x r ih =>
  intro v i j
  simp only[RV.ft,ih,RV.ri,zB0]
  by_cases h1:i+1<=j/\j<i+1+r.length
  ·rw[if_pos h1,if_pos (by omega)]
   obtain⟨k,rfl⟩:∃ k,j=i+1+k:=⟨j-(i+1),by omega⟩
   have e1:i+1+k-(i+1)=k:=by omega
   have e2:i+1+k-i=k+1:=by omega
   rw[e1,e2]; simp
  ·rw[if_neg h1]
   by_cases h2:j=i
   ·subst h2; simp
   ·rw[if_neg h2,if_neg (by omega)]
theorem RV.cb (l:List Value) (j:Nat):(RV.ofList l).get j=l.getD j undef:=by
 have h:(RV.ofList l).get j=(RV.ft ⟨[],0⟩ 0 l).get j:=rfl
 rw[h,RV.mJ]
 by_cases hj:j<l.length
 ·rw[if_pos (by omega)]; simp
 ·rw[if_neg (by omega)]
  simp only[RV.get,List.getD_nil]
  simp[List.getD,zC5 (Nat.not_lt.1 hj)]
@[simp] theorem RV.n_ofList (l:List Value):(RV.ofList l).n=l.length:=rfl
theorem RV.gA (v:RV):∀ (k i:Nat),v.jK i k=(List.range k).map fun j=>v.get (i+j)
 |0,i=>rfl
 |k+1,i=>by
  rw[RV.jK,RV.gA v k (i+1),List.range_succ_eq_map]
  simp only[zC0,List.map_map,zE1,List.cons.injEq,true_and]
  apply List.map_congr_left
  intro j _
  simp only[Function.comp]
  congr 1; omega
@[simp] theorem RV.length_gets (v:RV) (i k:Nat):(v.jK i k).length=k:=by simp[RV.gA]
theorem RV.pV (v:RV) (i k j:Nat) (h:j<k):(v.jK i k).getD j undef=v.get (i+j):=by
 simp[RV.gA,List.getD,h]
theorem lj (root:List (List (List (Option dw)))) (n:Nat) (o:Option dw) (m:Nat) :
  (((ek root n o).getD (m / 256) []).getD (m / 16 % 16) []).getD (m % 16) none =
   if m=n then o else ((root.getD (m / 256) []).getD (m / 16 % 16) []).getD (m % 16) none:=by
 unfold ek
 rw[eI]
 by_cases h:m / 256=n / 256
 ·rw[if_pos h,eI,h]
  by_cases h2:m / 16 % 16=n / 16 % 16
  ·rw[if_pos h2,eI,h2]
   by_cases h3:m % 16=n % 16
   ·have:m=n:=by omega
    simp[this]
   ·have:m≠n:=fun e=>h3 (by rw[e])
    simp[h3,this]
  ·have:m≠n:=fun e=>h2 (by rw[e])
   simp[h2,this]
 ·have:m≠n:=fun e=>h (by rw[e])
  simp[h,this]
theorem aa.pE (h:aa) (n:Nat) (o:Option dw) (m:Nat):(h.put n o).get m=if m=n then o else h.get m:=lj _ _ _ _
theorem aa.eY (h:aa) (n:Nat) (o:Option dw) (m:Nat):(h.cE n o).get m=if m=n then o else h.get m:=lj _ _ _ _
theorem aa.fA (h:aa) (o:dw) (m:Nat):(h.new o).get m=if m=h.next then some o else h.get m:=lj _ _ _ _
theorem Iw {v:Value} (h:RR v=true):one v=true:=by
 cases v<;>first|rfl|cases h
structure Ren where
 blk:Nat->Nat
 sh:Nat->Nat
 ex:Nat->Nat
 op:Nat->Value
 op1:∀ n,RR (op n)=true
def Ren.fn (ρ:Ren):Fn->Fn
 |.yield l=>.yield (ρ.blk l)
 |f=>f
def Ren.nU (ρ:Ren) (a:Addr) (len cap:Nat):Nat:=match a.spot with
 |some (k+1)=>if len=0/\cap=0/\ρ.ex a.block=0 then k else a.off
 |_=>a.off
def Ren.oP (ρ:Ren) (a:Addr) (len cap:Nat):Nat:=match a.spot with
 |none=>cap+ρ.ex a.block
 |some 0=>cap
 |some (_+1)=>if len=0/\cap=0 then ρ.ex a.block else cap
def Sh:Value->Option Nat
 |.int _ j=>some j.toNat
 |_=>none
def Ren.zc (ρ:Ren) (a:Addr) (len cap:Nat):Option Nat:=match a.spot with
 |some (k+1)=>if k=0/\a.off=0/\len=0/\cap=0/\ρ.ex a.block=0 then Sh (ρ.op a.block) else none
 |_=>none
@[simp] theorem Ren.spS_none (ρ:Ren) (b o len cap:Nat):ρ.zc ⟨b,o,none⟩ len cap=none:=rfl
@[simp] theorem Ren.spS_zero (ρ:Ren) (b o len cap:Nat):ρ.zc ⟨b,o,some 0⟩ len cap=none:=rfl
theorem Ren.oH {ρ:Ren} {a:Addr} {len cap:Nat} (h:a.spot.getD 0=0\/len≠0):ρ.zc a len cap=none:=by
 unfold Ren.zc
 split
 ·rename_i k hk
  rcases h with h|h
  ·rw[hk]at h; simp at h
  ·rw[if_neg (fun c=>h c.2.2.1)]
 ·rfl
theorem Ren.BF {ρ:Ren} {a:Addr} {len cap:Nat} (h:cap≠0):ρ.zc a len cap=none:=by
 unfold Ren.zc
 split
 ·rw[if_neg (fun c=>h c.2.2.2.1)]
 ·rfl
theorem Ren.NN {ρ:Ren} {a:Addr} {len cap:Nat} (h:a.off≠0):ρ.zc a len cap=none:=by
 unfold Ren.zc
 split
 ·rw[if_neg (fun c=>h c.2.1)]
 ·rfl
theorem Ren.Pv {ρ:Ren} {a:Addr} {len cap:Nat} (h:ρ.ex a.block≠0):ρ.zc a len cap=none:=by
 unfold Ren.zc
 split
 ·rw[if_neg (fun c=>h c.2.2.2.2)]
 ·rfl
@[simp] theorem Ren.offS_none (ρ:Ren) (b o len cap:Nat):ρ.nU ⟨b,o,none⟩ len cap=o:=rfl
@[simp] theorem Ren.offS_zero (ρ:Ren) (b o len cap:Nat):ρ.nU ⟨b,o,some 0⟩ len cap=o:=rfl
@[simp] theorem Ren.capS_none (ρ:Ren) (b o len cap:Nat):ρ.oP ⟨b,o,none⟩ len cap=cap+ρ.ex b:=rfl
@[simp] theorem Ren.capS_zero (ρ:Ren) (b o len cap:Nat):ρ.oP ⟨b,o,some 0⟩ len cap=cap:=rfl
theorem Ren.nq {ρ:Ren} {a:Addr} {len cap:Nat} (h:a.spot.getD 0=0\/len≠0):ρ.nU a len cap=a.off:=by
 unfold Ren.nU
 split
 ·rename_i k hk
  rcases h with h|h
  ·rw[hk]at h; simp at h
  ·rw[if_neg (fun c=>h c.1)]
 ·rfl
theorem Ren.yz {ρ:Ren} {a:Addr} {len cap:Nat} (h:cap≠0):ρ.nU a len cap=a.off:=by
 unfold Ren.nU
 split
 ·rw[if_neg (fun c=>h c.2.1)]
 ·rfl
theorem Ren.KL {ρ:Ren} {a:Addr} {len len' cap:Nat} (h:cap≠0):ρ.oP a len cap=ρ.oP a len' cap:=by
 unfold Ren.oP
 split
 ·rfl
 ·rfl
 ·rw[if_neg (fun c=>h c.2),if_neg (fun c=>h c.2)]
theorem Ren.Bt {ρ:Ren} {a:Addr} {len cap:Nat}:cap<=ρ.oP a len cap:=by
 unfold Ren.oP
 split
 ·omega
 ·omega
 ·split<;>omega
mutual
def Ren.val (ρ:Ren):Value->Value
 |.pointer (some a)=>.pointer (some ⟨ρ.blk a.block,a.off+ρ.sh a.block,a.spot⟩)
 |.slice (some a) len cap=>.slice (some ⟨ρ.blk a.block,ρ.nU a len cap+ρ.sh a.block,ρ.zc a len cap⟩) len (ρ.oP a len cap)
 |.map (some r)=>.map (some (ρ.blk r))
 |.func f a b=>.func (ρ.fn f) (ρ.ez a) (ρ.ez b)
 |.iface t v=>.iface t (ρ.val v)
 |.agg cs=>.agg (ρ.ez cs)
 |.tuple cs=>.tuple (ρ.ez cs)
 |.bool b=>.bool b
 |.int k n=>.int k n
 |.float k b=>.float k b
 |.complex k a b=>.complex k a b
 |.string s=>.string s
 |.pointer none=>.pointer none
 |.slice none len cap=>.slice none len cap
 |.map none=>.map none
 |.chan none=>.chan none
 |.chan (some k)=>ρ.op k
 |.nilFunc=>.nilFunc
 |.nilIface=>.nilIface
def Ren.ez (ρ:Ren):Array Value->Array Value
 |⟨l⟩=>⟨ρ.gM l⟩
def Ren.gM (ρ:Ren):List Value->List Value
 |[]=>[]
 |v::r=>ρ.val v::ρ.gM r
end
theorem Ren.nM (ρ:Ren):∀ l,ρ.gM l=l.map ρ.val
 |[]=>rfl
 |v::r=>by rw[Ren.gM,Ren.nM ρ r]; rfl
theorem Ren.dJ (ρ:Ren) (c:Array Value):ρ.ez c=c.map ρ.val:=by
 obtain⟨l⟩:=c
 rw[Ren.ez,Ren.nM]
 simp
@[simp] theorem Ren.val_undef (ρ:Ren):ρ.val undef=undef:=by simp[undef,Ren.val,Ren.dJ]
mutual
theorem df (ρ:Ren):∀ v,af v=true->ρ.val v=v
 |.bool _,_=>by rw[Ren.val]
 |.int _ _,_=>by rw[Ren.val]
 |.float _ _,_=>by rw[Ren.val]
 |.complex _ _ _,_=>by rw[Ren.val]
 |.string _,_=>by rw[Ren.val]
 |.pointer none,_=>by rw[Ren.val]
 |.pointer (some _),h=>by simp[af]at h
 |.slice none _ _,_=>by rw[Ren.val]
 |.slice (some _) _ _,h=>by simp[af]at h
 |.map none,_=>by rw[Ren.val]
 |.map (some _),h=>by simp[af]at h
 |.chan none,_=>by rw[Ren.val]
 |.chan (some _),h=>by simp[af]at h
 |.func f a b,h=>by
  cases f<;>simp only[af,zA4,zC4]at h<;>simp only[Ren.val,Ren.fn,vP ρ a h.1,vP ρ b h.2]
 |.nilFunc,_=>by rw[Ren.val]
 |.iface t v,h=>by rw[Ren.val,df ρ v (by simpa[af]using h)]
 |.nilIface,_=>by rw[Ren.val]
 |.agg cs,h=>by rw[Ren.val,vP ρ cs (by simpa[af]using h)]
 |.tuple cs,h=>by rw[Ren.val,vP ρ cs (by simpa[af]using h)]
theorem vP (ρ:Ren):∀ c,MO c=true->ρ.ez c=c
 |⟨l⟩,h=>by rw[Ren.ez,Bm ρ l (by simpa[MO]using h)]
theorem Bm (ρ:Ren):∀ l,Cg l=true->ρ.gM l=l
 |[],_=>rfl
 |v::r,h=>by
  simp only[Cg,zA4]at h
  rw[Ren.gM,df ρ v h.1,Bm ρ r h.2]
end
structure Ext (N:Nat) (ρ ρ':Ren):Prop where
 blk:∀ n,n<N->ρ'.blk n=ρ.blk n
 sh:∀ n,n<N->ρ'.sh n=ρ.sh n
 ex:∀ n,n<N->ρ'.ex n=ρ.ex n
 op:∀ n,n<N->ρ'.op n=ρ.op n
theorem Ext.refl (N:Nat) (ρ:Ren):Ext N ρ ρ:=⟨fun _ _=>rfl,fun _ _=>rfl,fun _ _=>rfl,fun _ _=>rfl⟩
theorem Ext.trans {N M:Nat} {ρ ρ' ρ'':Ren} (h:Ext N ρ ρ') (h':Ext M ρ' ρ'') (hle:N<=M):Ext N ρ ρ'' :=
 ⟨fun n hn=>(h'.blk n (by omega)).trans (h.blk n hn),fun n hn=>(h'.sh n (by omega)).trans (h.sh n hn),fun n hn=>(h'.ex n (by omega)).trans (h.ex n hn),fun n hn=>(h'.op n (by omega)).trans (h.op n hn)⟩
theorem bN {a b:Nat} (h:Nat.blt a b=true):a<b:=by simpa[Nat.blt_eq]using h
theorem a8 {a b:Nat} (h:a<b):Nat.blt a b=true:=by simpa[Nat.blt_eq]using h
theorem iq {a b:Nat} (h:Nat.ble a b=true):a<=b:=zA6 h
mutual
theorem gE {N:Nat} {ρ ρ':Ren} (e:Ext N ρ ρ'):∀ v,aS N v=true->ρ'.val v=ρ.val v
 |.bool _,_=>by rw[Ren.val,Ren.val]
 |.int _ _,_=>by rw[Ren.val,Ren.val]
 |.float _ _,_=>by rw[Ren.val,Ren.val]
 |.complex _ _ _,_=>by rw[Ren.val,Ren.val]
 |.string _,_=>by rw[Ren.val,Ren.val]
 |.pointer none,_=>by rw[Ren.val,Ren.val]
 |.pointer (some a),h=>by
  have h':=bN (by simpa[aS]using h)
  simp only[Ren.val,e.blk _ h',e.sh _ h']
 |.slice none _ _,_=>by rw[Ren.val,Ren.val]
 |.slice (some a) _ _,h=>by
  have h':=bN (by simpa[aS]using h)
  simp only[Ren.val,Ren.nU,Ren.oP,Ren.zc,e.blk _ h',e.sh _ h',e.ex _ h',e.op _ h']
 |.map none,_=>by rw[Ren.val,Ren.val]
 |.map (some r),h=>by
  have h':=bN (by simpa[aS]using h)
  simp only[Ren.val,e.blk _ h']
 |.chan none,_=>by rw[Ren.val,Ren.val]
 |.chan (some k),h=>by
  have h':=bN (by simpa[aS]using h)
  simp only[Ren.val,e.op _ h']
 |.func f a b,h=>by
  cases f with
  |yield l =>
   simp only[aS,zA4]at h
   simp only[Ren.val,Ren.fn,e.blk _ (bN h.1.1),jO e a h.1.2,jO e b h.2]
  |_ =>
   simp only[aS,zA4]at h
   simp only[Ren.val,Ren.fn,jO e a h.1,jO e b h.2]
 |.nilFunc,_=>by rw[Ren.val,Ren.val]
 |.iface t v,h=>by rw[Ren.val,Ren.val,gE e v (by simpa[aS]using h)]
 |.nilIface,_=>by rw[Ren.val,Ren.val]
 |.agg cs,h=>by rw[Ren.val,Ren.val,jO e cs (by simpa[aS]using h)]
 |.tuple cs,h=>by rw[Ren.val,Ren.val,jO e cs (by simpa[aS]using h)]
theorem jO {N:Nat} {ρ ρ':Ren} (e:Ext N ρ ρ'):∀ c,fb N c=true->ρ'.ez c=ρ.ez c
 |⟨l⟩,h=>by rw[Ren.ez,Ren.ez,Df e l (by simpa[fb]using h)]
theorem Df {N:Nat} {ρ ρ':Ren} (e:Ext N ρ ρ'):∀ l,aO N l=true->ρ'.gM l=ρ.gM l
 |[],_=>rfl
 |v::r,h=>by
  simp only[aO,zA4]at h
  rw[Ren.gM,Ren.gM,gE e v h.1,Df e r h.2]
end
mutual
theorem cM {N M:Nat} (hle:N<=M):∀ v,aS N v=true->aS M v=true
 |.bool _,_=>by simp[aS]
 |.int _ _,_=>by simp[aS]
 |.float _ _,_=>by simp[aS]
 |.complex _ _ _,_=>by simp[aS]
 |.string _,_=>by simp[aS]
 |.pointer none,_=>by simp[aS]
 |.pointer (some a),h=>by
  have h':=bN (by simpa[aS]using h)
  simp only[aS]; exact a8 (by omega)
 |.slice none _ _,_=>by simp[aS]
 |.slice (some a) _ _,h=>by
  have h':=bN (by simpa[aS]using h)
  simp only[aS]; exact a8 (by omega)
 |.map none,_=>by simp[aS]
 |.map (some r),h=>by
  have h':=bN (by simpa[aS]using h)
  simp only[aS]; exact a8 (by omega)
 |.chan none,_=>by simp[aS]
 |.chan (some r),h=>by
  have h':=bN (by simpa[aS]using h)
  simp only[aS]; exact a8 (by omega)
 |.func f a b,h=>by
  cases f with
  |yield l =>
   simp only[aS,zA4]at h ⊢
   have h':=bN h.1.1
   exact⟨⟨a8 (by omega),iE hle a h.1.2⟩,iE hle b h.2⟩
  |_ =>
   simp only[aS,zA4]at h ⊢
   exact⟨iE hle a h.1,iE hle b h.2⟩
 |.nilFunc,_=>by simp[aS]
 |.iface t v,h=>by rw[aS]; exact cM hle v (by simpa[aS]using h)
 |.nilIface,_=>by simp[aS]
 |.agg cs,h=>by rw[aS]; exact iE hle cs (by simpa[aS]using h)
 |.tuple cs,h=>by rw[aS]; exact iE hle cs (by simpa[aS]using h)
theorem iE {N M:Nat} (hle:N<=M):∀ c,fb N c=true->fb M c=true
 |⟨l⟩,h=>by rw[fb]; exact dN hle l (by simpa[fb]using h)
theorem dN {N M:Nat} (hle:N<=M):∀ l,aO N l=true->aO M l=true
 |[],_=>rfl
 |v::r,h=>by
  simp only[aO,zA4]at h ⊢
  exact⟨cM hle v h.1,dN hle r h.2⟩
end
theorem bL {N:Nat} {l:List Value}:aO N l=true ↔ ∀ v∈l,aS N v=true:=by
 induction l with
 |nil=>simp[aO]
 |cons v r ih=>simp[aO,ih]
theorem eG (N:Nat):aS N undef=true:=by simp[undef,aS,fb,aO]
mutual
theorem fK {N:Nat}:∀ v,af v=true->aS N v=true
 |.bool _,_=>by simp[aS]
 |.int _ _,_=>by simp[aS]
 |.float _ _,_=>by simp[aS]
 |.complex _ _ _,_=>by simp[aS]
 |.string _,_=>by simp[aS]
 |.pointer none,_=>by simp[aS]
 |.pointer (some a),h=>by simp[af]at h
 |.slice none _ _,_=>by simp[aS]
 |.slice (some a) _ _,h=>by simp[af]at h
 |.map none,_=>by simp[aS]
 |.map (some r),h=>by simp[af]at h
 |.chan none,_=>by simp[aS]
 |.chan (some _),h=>by simp[af]at h
 |.func f a b,h=>by
  cases f<;>simp only[af,zA4,zC4]at h<;>simp only[aS,zA4,ng a h.1,ng b h.2,and_self]
 |.nilFunc,_=>by simp[aS]
 |.iface t v,h=>by rw[aS]; exact fK v (by simpa[af]using h)
 |.nilIface,_=>by simp[aS]
 |.agg cs,h=>by rw[aS]; exact ng cs (by simpa[af]using h)
 |.tuple cs,h=>by rw[aS]; exact ng cs (by simpa[af]using h)
theorem ng {N:Nat}:∀ c,MO c=true->fb N c=true
 |⟨l⟩,h=>by rw[fb]; exact nR l (by simpa[MO]using h)
theorem nR {N:Nat}:∀ l,Cg l=true->aO N l=true
 |[],_=>rfl
 |v::r,h=>by
  simp only[Cg,zA4]at h
  simp only[aO,zA4]
  exact⟨fK v h.1,nR r h.2⟩
end
theorem Ren.val_one (ρ:Ren) (v:Value):one (ρ.val v)=one v:=by
 cases v with
 |pointer a=>cases a<;>simp[Ren.val,one]
 |slice a _ _=>cases a<;>simp[Ren.val,one]
 |map a=>cases a<;>simp[Ren.val,one]
 |chan a =>
  cases a with
  |none=>simp[Ren.val,one]
  |some k=>rw[Ren.val,Iw (ρ.op1 k)]; rfl
 |_=>simp[Ren.val,one]
theorem Jm {v:Value} (h:one v=true) (hc:∀ cs,v≠.agg cs):v.cells=#[v]:=by
 cases v with
 |agg cs=>exact absurd rfl (hc cs)
 |_=>rfl
theorem Ren.mq (ρ:Ren) (v:Value):(ρ.val v).cells=v.cells.map ρ.val:=by
 cases v with
 |pointer a=>cases a<;>simp[Ren.val,Value.cells]
 |slice a _ _=>cases a<;>simp[Ren.val,Value.cells]
 |map a=>cases a<;>simp[Ren.val,Value.cells]
 |chan a =>
  cases a with
  |none=>simp[Ren.val,Value.cells]
  |some k =>
   have h:=Iw (ρ.op1 k)
   rw[Ren.val,Jm h (fun cs e=>by rw[e]at h; cases h)]
   simp[Value.cells,Ren.val]
 |agg cs=>simp[Ren.val,Value.cells,Ren.dJ]
 |_=>simp[Ren.val,Value.cells]
def Ren.entry (ρ:Ren) (e:MapEntry):MapEntry:={e with val:=ρ.val e.val}
def ki (N:Nat) (o:dw):Prop :=
 match o.obj with
 |.cells _ _ _=>∀ i,i<o.rv.n->aS N (o.rv.get i)=true
 |.map es _=>∀ e∈es,o7 e.key=true/\aS N e.val=true
 |.loop r=>r.defers<N/\∀ i,i<o.rv.n->aS N (o.rv.get i)=true
 |_=>True
def Ren.tmps (ρ:Ren) (e:RV):Array Value:=Array.ofFn (n:=e.n) fun i=>ρ.val (e.get i)
def Fits (P:Program) (ρ:Ren) (n:Nat) (o:dw) (o':Obj):Prop :=
 match o.obj with
 |.cells _ e f0=>∃ (c:Array Value) (fz:Nat × Nat),o'=.cells c e fz/\(∀ i,i<o.rv.n->c[i+ρ.sh n]?=some (ρ.val (o.rv.get i))) /\
   (o.opn=false->c.size=o.rv.n/\ρ.sh n=0/\ρ.ex n=0/\fz=(0,0)) /\
   (o.opn=true->f0.1=0->(ρ.sh n+o.rv.n+ρ.ex n*P.cellsOf e<=c.size/\(ρ.ex n≠0->o.rv.n+ρ.ex n*P.cellsOf e<=9223372036854775807*P.cellsOf e))/\∀ i,ρ.sh n<=i->i<ρ.sh n+o.rv.n+ρ.ex n*P.cellsOf e->¬(fz.1<=i/\i<fz.2))
 |.map es clock=>o'=.map (es.map ρ.entry) clock
 |.stringIter s pos=>o'=.stringIter s pos/\ρ.sh n=0
 |.loop r=>∃ fn,o'=.loop {r with fn:=fn,tmps:=ρ.tmps o.rv,defers:=ρ.blk r.defers}
 |.deferred (some [])=>o'=.deferred (some [])
 |.deferred none=>o'=.deferred none
 |_=>False
def O6:dw->Bool
 |⟨.cells _ _ (_+1,_),true,_⟩=>true
 |_=>false
def Fz (x:Option dw):Prop:=∃ o,x=some o/\O6 o=true
structure Rel (P:Program) (ρ:Ren) (H:aa) (w:World):Prop where
 base:H.base<=H.next
 glob:P.globals.size<=H.next/\∀ g,g<P.globals.size->ρ.blk g=g/\ρ.sh g=0
 inj:∀ m n,H.get m≠none->H.get n≠none->ρ.blk m=ρ.blk n->m=n\/Fz (H.get m)/\Fz (H.get n)
 dom:∀ n o,H.get n=some o->n<H.next/\ki H.next o
 obj:∀ n o,H.get n=some o->∃ o',w.heap[ρ.blk n]?=some o'/\Fits P ρ n o o'
structure Le (H H1:aa):Prop where
 next:H.next<=H1.next
 base:H1.base=H.base
 dirty:∀ n,n∈H.dirty->n∈H1.dirty
 keep:∀ n,n<H.base->n∉H1.dirty->H1.get n=H.get n
 gone:∀ n,n<H.next->H.get n=none->H1.get n=none
theorem Le.refl (H:aa):Le H H:=⟨zA8 _,rfl,fun _ h=>h,fun _ _ _=>rfl,fun _ _ h=>h⟩
theorem Le.trans {H H1 H2:aa} (a:Le H H1) (b:Le H1 H2):Le H H2 where
 next:=zC3 a.next b.next
 base:=b.base.trans a.base
 dirty:=fun n h=>b.dirty n (a.dirty n h)
 keep:=fun n h1 h2=>(b.keep n (by rw[a.base]; exact h1) h2).trans (a.keep n h1 (fun h=>h2 (b.dirty n h)))
 gone:=fun n h1 h2=>b.gone n (zD5 h1 a.next) (a.gone n h1 h2)
theorem Le.back {H H1:aa} (a:Le H H1) {n:Nat} (h:n<H.next) (h1:H1.get n≠none):H.get n≠none:=fun e=>h1 (a.gone n h e)
structure St (P:Program) (ρ:Ren) (H:aa) (w:World) (ρ1:Ren) (H1:aa) (w1:World):Prop where
 ext:Ext H.next ρ ρ1
 le:Le H H1
 rel:Rel P ρ1 H1 w1
 os:w1.os=w.os
 tape:w1.tape=w.tape
 output:w1.output=w.output
 size:w.heap.size<=w1.heap.size
 fX:∀ b,b<w.heap.size->(∀ n,n<H.next->(H.base<=n\/n∈H1.dirty)->H.get n≠none->ρ.blk n≠b)->w1.heap[b]?=w.heap[b]?
 fresh:∀ n,H.next<=n->H1.get n≠none->w.heap.size<=ρ1.blk n\/∃ m,m<H.next/\H.get m≠none/\(H.base<=m\/m∈H1.dirty)/\ρ1.blk n=ρ.blk m
 ro:∀ n,Fz (H.get n)->(n∈H1.dirty->n∈H.dirty)/\H1.get n=H.get n
theorem Rel.lt {P:Program} {ρ:Ren} {H:aa} {w:World} (r:Rel P ρ H w) {n:Nat} (h:H.get n≠none):n<H.next:=by
 cases e:H.get n with
 |none=>exact absurd e h
 |some o=>exact (r.dom n o e).1
theorem Rel.tU {P:Program} {ρ:Ren} {H:aa} {w:World} (r:Rel P ρ H w) {n:Nat} (h:H.get n≠none):ρ.blk n<w.heap.size:=by
 cases e:H.get n with
 |none=>exact absurd e h
 |some o =>
  obtain⟨o',h',_⟩:=r.obj n o e
  rcases zC2 (ρ.blk n) w.heap.size with h1|h1
  ·exact h1
  ·simp[Array.getElem?_eq_none h1]at h'
theorem St.refl {P:Program} {ρ:Ren} {H:aa} {w:World} (r:Rel P ρ H w):St P ρ H w ρ H w :=
 ⟨Ext.refl _ _,Le.refl _,r,rfl,rfl,rfl,zA8 _,fun _ _ _=>rfl,fun n h1 h2=>absurd (r.lt h2) (by omega),fun _ _=>⟨id,rfl⟩⟩
theorem Fz.ne {x:Option dw} (h:Fz x):x≠none:=by
 obtain⟨o,rfl,_⟩:=h
 simp
theorem St.trans {P:Program} {ρ ρ1 ρ2:Ren} {H H1 H2:aa} {w w1 w2:World} (a:St P ρ H w ρ1 H1 w1) (b:St P ρ1 H1 w1 ρ2 H2 w2):St P ρ H w ρ2 H2 w2 where
 ext:=a.ext.trans b.ext a.le.next
 le:=a.le.trans b.le
 rel:=b.rel
 os:=b.os.trans a.os
 tape:=b.tape.trans a.tape
 output:=b.output.trans a.output
 size:=zC3 a.size b.size
 fX:=fun x hx hc=>by
  have h1:w1.heap[x]?=w.heap[x]?:=a.fX x hx fun n hn hd hg=>hc n hn (hd.imp id (b.le.dirty n)) hg
  rw[<-h1]
  refine b.fX x (zD5 hx a.size) fun n hn hd hg=>?_
  rw[a.le.base]at hd
  rcases zC2 n H.next with h|h
  ·rw[a.ext.blk n h]
   exact hc n h hd (a.le.back h hg)
  ·rcases a.fresh n h hg with h'|⟨m,h2,h3,h4,h5⟩
   ·omega
   ·rw[h5]
    exact hc m h2 (h4.imp id (b.le.dirty m)) h3
 fresh:=fun n hn hg=>by
  rcases zC2 n H1.next with h|h
  ·rw[b.ext.blk n h]
   rcases a.fresh n hn (b.le.back h hg) with h'|⟨m,h2,h3,h4,h5⟩
   ·exact .inl h'
   ·exact .inr ⟨m,h2,h3,h4.imp id (b.le.dirty m),h5⟩
  ·rcases b.fresh n h hg with h'|⟨m,h2,h3,h4,h5⟩
   ·exact .inl (zC3 a.size h')
   ·rw[h5]
    rw[a.le.base]at h4
    rcases zC2 m H.next with hm|hm
    ·exact .inr ⟨m,hm,a.le.back hm h3,h4,a.ext.blk m hm⟩
    ·rcases a.fresh m hm h3 with h'|⟨k,k2,k3,k4,k5⟩
     ·exact .inl h'
     ·exact .inr ⟨k,k2,k3,k4.imp id (b.le.dirty k),k5⟩
 ro:=fun n h=>by
  obtain⟨a1,a2⟩:=a.ro n h
  obtain⟨b1,b2⟩:=b.ro n (by rw[a2]; exact h)
  exact⟨fun hd=>a1 (b1 hd),b2.trans a2⟩
theorem Ren.q9 {N:Nat} {ρ ρ':Ren} (e:Ext N ρ ρ') (v:RV) (h:∀ i,i<v.n->aS N (v.get i)=true):ρ'.tmps v=ρ.tmps v:=by
 unfold Ren.tmps
 congr 1
 funext i
 exact gE e _ (h i i.2)
theorem Fits.ext {P:Program} {ρ ρ':Ren} {N n:Nat} {o:dw} {o':Obj} (h:Fits P ρ n o o') (hn:n<N) (hs:ki N o) (e:Ext N ρ ρ'):Fits P ρ' n o o':=by
 obtain⟨ob,op,v⟩:=o
 unfold Fits ki at *
 cases ob with
 |cells c0 t f0 =>
  obtain⟨c,fz,h1,h2,h3,h4⟩:=h
  refine⟨c,fz,h1,fun i hi=>?_,?_,?_⟩
  ·rw[e.sh n hn,h2 i hi,gE e _ (hs i hi)]
  ·rw[e.sh n hn,e.ex n hn]; exact h3
  ·rw[e.sh n hn,e.ex n hn]; exact h4
 |map es clock =>
  simp only at h hs ⊢
  rw[h]
  congr 1
  apply Array.map_congr_left
  intro x hx
  simp only[Ren.entry,gE e _ (hs x hx).2]
 |loop r =>
  obtain⟨fn,h⟩:=h
  refine⟨fn,?_⟩
  rw[h,Ren.q9 e v hs.2,e.blk _ hs.1]
 |stringIter s p=>exact⟨h.1,by rw[e.sh n hn]; exact h.2⟩
 |deferred ds =>
  cases ds with
  |none=>exact h
  |some l=>cases l<;>exact h
 |_=>exact h
theorem ki.mono {N M:Nat} {o:dw} (h:ki N o) (hle:N<=M):ki M o:=by
 obtain⟨ob,op,v⟩:=o
 unfold ki at *
 cases ob with
 |cells c0 t f0=>exact fun i hi=>cM hle _ (h i hi)
 |map es clock=>exact fun e he=>⟨(h e he).1,cM hle _ (h e he).2⟩
 |loop r=>exact⟨zD5 h.1 hle,fun i hi=>cM hle _ (h.2 i hi)⟩
 |_=>trivial
theorem St.world {P:Program} {ρ:Ren} {H:aa} {w w1:World} (r:Rel P ρ H w) (h:w1.heap=w.heap) (h1:w1.os=w.os) (h2:w1.tape=w.tape) (h3:w1.output=w.output) :
  St P ρ H w ρ H w1 :=
 ⟨Ext.refl _ _,Le.refl _,⟨r.base,r.glob,r.inj,r.dom,fun n o hn=>by rw[h]; exact r.obj n o hn⟩,h1,h2,h3,by rw[h]; exact zA8 _,fun b _ _=>by rw[h],
  fun n h1 h2=>absurd (r.lt h2) (by omega),fun _ _=>⟨id,rfl⟩⟩
def Ren.at (ρ:Ren) (n b s e:Nat):Ren:=⟨fun m=>if m=n then b else ρ.blk m,fun m=>if m=n then s else ρ.sh m,fun m=>if m=n then e else ρ.ex m,ρ.op,ρ.op1⟩
@[simp] theorem Ren.at_blk (ρ:Ren) (n b s e:Nat):(ρ.at n b s e).blk n=b:=by simp[Ren.at]
@[simp] theorem Ren.at_sh (ρ:Ren) (n b s e:Nat):(ρ.at n b s e).sh n=s:=by simp[Ren.at]
@[simp] theorem Ren.at_ex (ρ:Ren) (n b s e:Nat):(ρ.at n b s e).ex n=e:=by simp[Ren.at]
theorem Ren.gN (ρ:Ren) (n b s e:Nat):Ext n ρ (ρ.at n b s e) :=
 ⟨fun m h=>by simp[Ren.at,Nat.ne_of_lt h],fun m h=>by simp[Ren.at,Nat.ne_of_lt h],fun m h=>by simp[Ren.at,Nat.ne_of_lt h],fun m _=>by simp[Ren.at]⟩
theorem bD {α:Type} {o:Option α} {x:α} (h:o=some x):o≠none:=by rw[h]; simp
theorem St.new {P:Program} {ρ:Ren} {H:aa} {w:World} (r:Rel P ρ H w) (o:dw) (o':Obj) (s e:Nat) (hs:ki H.next o)
  (hf:Fits P (ρ.at H.next w.heap.size s e) H.next o o'):St P ρ H w (ρ.at H.next w.heap.size s e) (H.new o) (w.alloc o'):=by
 have ex:=Ren.gN ρ H.next w.heap.size s e
 have hg:∀ n,n≠H.next->(H.new o).get n=H.get n:=fun n hn=>by rw[aa.fA,if_neg hn]
 have cR:∀ {n},H.get n≠none->n≠H.next:=fun h e=>absurd (r.lt h) (by omega)
 have hgn:(H.new o).get H.next=some o:=by rw[aa.fA,if_pos rfl]
 refine⟨ex,⟨Nat.le_succ _,rfl,fun _ h=>h,fun n hb _=>hg n (by have:=r.base; omega),fun n hn h=>by rw[hg n (by omega)]; exact h⟩,⟨Nat.le_succ_of_le r.base,⟨Nat.le_succ_of_le r.glob.1,fun g hgl=>?_⟩,?_,?_,?_⟩,rfl,rfl,rfl,by simp,fun b hb _=>?_,?_,fun n h=>⟨id,hg n (cR h.ne)⟩⟩
 ·have:=r.glob.1
  rw[ex.blk g (by omega),ex.sh g (by omega)]; exact r.glob.2 g hgl
 ·intro m n hm hn he
  by_cases h1:m=H.next<;>by_cases h2:n=H.next
  ·exact .inl (by rw[h1,h2])
  ·rw[hg n h2]at hn
   subst h1
   rw[Ren.at_blk,ex.blk n (r.lt hn)]at he
   have:=r.tU hn
   omega
  ·rw[hg m h1]at hm
   subst h2
   rw[Ren.at_blk,ex.blk m (r.lt hm)]at he
   have:=r.tU hm
   omega
  ·rw[hg m h1]at hm
   rw[hg n h2]at hn
   rw[ex.blk m (r.lt hm),ex.blk n (r.lt hn)]at he
   rw[hg m h1,hg n h2]
   exact r.inj m n hm hn he
 ·intro n x hx
  by_cases h1:n=H.next
  ·subst h1
   rw[hgn]at hx
   cases hx
   exact⟨zD9 _,hs.mono (Nat.le_succ _)⟩
  ·rw[hg n h1]at hx
   have:=r.dom n x hx
   exact⟨Nat.lt_succ_of_lt this.1,this.2.mono (Nat.le_succ _)⟩
 ·intro n x hx
  by_cases h1:n=H.next
  ·subst h1
   rw[hgn]at hx
   cases hx
   exact⟨o',by rw[Ren.at_blk]; show (w.heap.push o')[w.heap.size]?=some o'; simp,hf⟩
  ·rw[hg n h1]at hx
   obtain⟨y,hy,hfy⟩:=r.obj n x hx
   have hd:=r.dom n x hx
   refine⟨y,?_,hfy.ext hd.1 hd.2 ex⟩
   rw[ex.blk n hd.1]
   have:=r.tU (bD hx)
   simp only[World.alloc]
   rw[Array.getElem?_push,if_neg (by omega)]; exact hy
 ·simp only[World.alloc]
  rw[Array.getElem?_push,if_neg (by omega)]
 ·intro n hn hgn'
  by_cases h1:n=H.next
  ·subst h1; exact .inl (by rw[Ren.at_blk]; exact zA8 _)
  ·rw[hg n h1]at hgn'
   exact absurd (r.lt hgn') (by omega)
theorem St.cE {P:Program} {ρ:Ren} {H:aa} {w w1:World} (r:Rel P ρ H w) {n:Nat} {o:dw} {o':Obj} (h0:H.get n≠none) (hz0:¬Fz (H.get n)) (hs:ki H.next o)
  (hf:Fits P ρ n o o') (hw:w1.heap[ρ.blk n]?=some o') (hz:w1.heap.size=w.heap.size) (hrest:∀ b,b≠ρ.blk n->w1.heap[b]?=w.heap[b]?)
  (h1:w1.os=w.os) (h2:w1.tape=w.tape) (h3:w1.output=w.output):St P ρ H w ρ (H.cE n (some o)) w1:=by
 have hg:∀ m,m≠n->(H.cE n (some o)).get m=H.get m:=fun m hm=>by rw[aa.eY,if_neg hm]
 have hgn:(H.cE n (some o)).get n=some o:=by rw[aa.eY,if_pos rfl]
 have hdom:∀ m,(H.cE n (some o)).get m≠none->H.get m≠none:=fun m hm=>by
  by_cases h:m=n
  ·rw[h]; exact h0
  ·rw[hg m h]at hm; exact hm
 have hmark:n<H.base->n∈(H.cE n (some o)).dirty:=fun hb=>by simp[aa.et,a8 hb]
 refine⟨Ext.refl _ _,⟨zA8 _,rfl,fun m hm=>?_,fun m hb hm=>hg m (fun e=>hm (e▸hmark (e▸hb))),fun m hm h=>?_⟩,⟨r.base,r.glob,fun m k hm hk he=>(r.inj m k (hdom m hm) (hdom k hk) he).imp id fun⟨a,b⟩=>⟨by rw[hg m (fun e=>hz0 (e▸a))]; exact a,by rw[hg k (fun e=>hz0 (e▸b))]; exact b⟩,?_,?_⟩,h1,h2,h3,by omega,fun b hb hc=>?_,fun m hm hg'=>absurd (r.lt (hdom m hg')) (by omega),fun m hm=>?_⟩
 ·simp only[aa.et]; split
  ·exact zC7 _ hm
  ·exact hm
 ·by_cases e:m=n
  ·subst e; exact absurd h h0
  ·rw[hg m e]; exact h
 ·intro m x hx
  by_cases e:m=n
  ·subst e
   rw[hgn]at hx
   cases hx
   exact⟨r.lt h0,hs⟩
  ·rw[hg m e]at hx; exact r.dom m x hx
 ·intro m x hx
  by_cases e:m=n
  ·subst e
   rw[hgn]at hx
   cases hx
   exact⟨o',hw,hf⟩
  ·rw[hg m e]at hx
   obtain⟨y,hy,hfy⟩:=r.obj m x hx
   refine⟨y,?_,hfy⟩
   rw[hrest _ (fun he=>(r.inj m n (bD hx) h0 he).elim e fun h=>hz0 h.2)]; exact hy
 ·by_cases e:b=ρ.blk n
  ·exact absurd e.symm (hc n (r.lt h0) (by
    rcases zC2 n H.base with h|h
    ·exact .inr (hmark h)
    ·exact .inl h) h0)
  ·exact hrest b e
 ·have hmn:m≠n:=fun e=>hz0 (e▸hm)
  refine⟨fun h=>?_,hg m hmn⟩
  simp only[aa.et]at h
  split at h
  ·exact (zA7.1 h).resolve_left hmn
  ·exact h
theorem St.del {P:Program} {ρ:Ren} {H:aa} {w:World} (r:Rel P ρ H w) (n:Nat) (hz0:¬Fz (H.get n)):St P ρ H w ρ (H.cE n none) w:=by
 have hg:∀ m,m≠n->(H.cE n none).get m=H.get m:=fun m hm=>by rw[aa.eY,if_neg hm]
 have hgn:(H.cE n none).get n=none:=by rw[aa.eY,if_pos rfl]
 have hdom:∀ m x,(H.cE n none).get m=some x->H.get m=some x:=fun m x hm=>by
  by_cases h:m=n
  ·rw[h,hgn]at hm; cases hm
  ·rw[hg m h]at hm; exact hm
 have hdom':∀ m,(H.cE n none).get m≠none->H.get m≠none:=fun m hm=>by
  cases e:(H.cE n none).get m with
  |none=>exact absurd e hm
  |some x=>exact bD (hdom m x e)
 have hmark:n<H.base->n∈(H.cE n none).dirty:=fun hb=>by simp[aa.et,a8 hb]
 refine⟨Ext.refl _ _,⟨zA8 _,rfl,fun m hm=>?_,fun m hb hm=>hg m (fun e=>hm (e▸hmark (e▸hb))),fun m hm h=>?_⟩,⟨r.base,r.glob,fun m k hm hk he=>(r.inj m k (hdom' m hm) (hdom' k hk) he).imp id fun⟨a,b⟩=>⟨by rw[hg m (fun e=>hz0 (e▸a))]; exact a,by rw[hg k (fun e=>hz0 (e▸b))]; exact b⟩,fun m x hx=>r.dom m x (hdom m x hx),fun m x hx=>r.obj m x (hdom m x hx)⟩,rfl,rfl,rfl,zA8 _,fun _ _ _=>rfl,fun m hm hg'=>absurd (r.lt (hdom' m hg')) (by omega),fun m hm=>?_⟩
 ·simp only[aa.et]; split
  ·exact zC7 _ hm
  ·exact hm
 ·by_cases e:m=n
  ·subst e; exact hgn
  ·rw[hg m e]; exact h
 ·have hmn:m≠n:=fun e=>hz0 (e▸hm)
  refine⟨fun h=>?_,hg m hmn⟩
  simp only[aa.et]at h
  split at h
  ·exact (zA7.1 h).resolve_left hmn
  ·exact h
theorem St.move {P:Program} {ρ:Ren} {H:aa} {w w1:World} (r:Rel P ρ H w) {n:Nat} {o:dw} {o':Obj} (s e:Nat) (h0:H.get n≠none) (hz0:¬Fz (H.get n)) (hs:ki H.next o)
  (hf:Fits P (ρ.at H.next (ρ.blk n) s e) H.next o o') (hw:w1.heap[ρ.blk n]?=some o') (hz:w1.heap.size=w.heap.size) (hrest:∀ b,b≠ρ.blk n->w1.heap[b]?=w.heap[b]?)
  (h1:w1.os=w.os) (h2:w1.tape=w.tape) (h3:w1.output=w.output):St P ρ H w (ρ.at H.next (ρ.blk n) s e) ((H.cE n none).new o) w1:=by
 have ex:=Ren.gN ρ H.next (ρ.blk n) s e
 have hnn:=r.lt h0
 have hnext:(H.cE n none).next=H.next:=rfl
 have hgn:((H.cE n none).new o).get H.next=some o:=by rw[aa.fA,hnext,if_pos rfl]
 have hg0:((H.cE n none).new o).get n=none:=by rw[aa.fA,hnext,if_neg (by omega),aa.eY,if_pos rfl]
 have hg:∀ m,m≠n->m≠H.next->((H.cE n none).new o).get m=H.get m:=fun m h h'=>by rw[aa.fA,hnext,if_neg h',aa.eY,if_neg h]
 have hmark:n<H.base->n∈((H.cE n none).new o).dirty:=fun hb=>by simp[aa.oK,aa.et,a8 hb]
 have hown:H.base<=n\/n∈((H.cE n none).new o).dirty:=by
  rcases zC2 n H.base with h|h
  ·exact .inr (hmark h)
  ·exact .inl h
 have hdom:∀ m,m≠H.next->((H.cE n none).new o).get m≠none->H.get m≠none/\m≠n:=fun m h hm=>by
  by_cases e:m=n
  ·subst e; exact absurd hg0 hm
  ·rw[hg m e h]at hm; exact⟨hm,e⟩
 refine⟨ex,⟨Nat.le_succ _,rfl,fun m hm=>?_,fun m hb hm=>hg m (fun e=>hm (e▸hmark (e▸hb))) (by have:=r.base; omega),fun m hm h=>?_⟩,
  ⟨Nat.le_succ_of_le r.base,⟨Nat.le_succ_of_le r.glob.1,fun g hgl=>?_⟩,?_,?_,?_⟩,h1,h2,h3,by omega,fun b hb hc=>?_,?_,fun m hm=>?_⟩
 ·simp only[aa.oK,aa.et]; split
  ·exact zC7 _ hm
  ·exact hm
 ·by_cases e:m=n
  ·subst e; exact hg0
  ·rw[hg m e (by omega)]; exact h
 ·have:=r.glob.1
  rw[ex.blk g (by omega),ex.sh g (by omega)]; exact r.glob.2 g hgl
 ·intro m k hm hk he
  by_cases e1:m=H.next<;>by_cases e2:k=H.next
  ·exact .inl (by rw[e1,e2])
  ·obtain⟨hk',hkn⟩:=hdom k e2 hk
   subst e1
   rw[Ren.at_blk,ex.blk k (r.lt hk')]at he
   exact ((r.inj n k h0 hk' he).elim (fun e=>absurd e.symm hkn) fun h=>absurd h.1 hz0)
  ·obtain⟨hm',hmn⟩:=hdom m e1 hm
   subst e2
   rw[Ren.at_blk,ex.blk m (r.lt hm')]at he
   exact ((r.inj m n hm' h0 he).elim (fun e=>absurd e hmn) fun h=>absurd h.2 hz0)
  ·obtain⟨hm',j1⟩:=hdom m e1 hm
   obtain⟨hk',j2⟩:=hdom k e2 hk
   rw[ex.blk m (r.lt hm'),ex.blk k (r.lt hk')]at he
   rw[hg m j1 e1,hg k j2 e2]
   exact r.inj m k hm' hk' he
 ·intro m x hx
  by_cases e1:m=H.next
  ·subst e1
   rw[hgn]at hx
   cases hx
   exact⟨zD9 _,hs.mono (Nat.le_succ _)⟩
  ·have hd:=hdom m e1 (bD hx)
   rw[hg m hd.2 e1]at hx
   have:=r.dom m x hx
   exact⟨Nat.lt_succ_of_lt this.1,this.2.mono (Nat.le_succ _)⟩
 ·intro m x hx
  by_cases e1:m=H.next
  ·subst e1
   rw[hgn]at hx
   cases hx
   exact⟨o',by rw[Ren.at_blk]; exact hw,hf⟩
  ·have hd:=hdom m e1 (bD hx)
   rw[hg m hd.2 e1]at hx
   obtain⟨y,hy,hfy⟩:=r.obj m x hx
   have hdm:=r.dom m x hx
   refine⟨y,?_,hfy.ext hdm.1 hdm.2 ex⟩
   rw[ex.blk m hdm.1,hrest _ (fun he=>(r.inj m n (bD hx) h0 he).elim hd.2 fun h=>hz0 h.2)]; exact hy
 ·by_cases e:b=ρ.blk n
  ·exact absurd e.symm (hc n hnn hown h0)
  ·exact hrest b e
 ·intro m hm hgm
  by_cases e1:m=H.next
  ·subst e1; exact .inr ⟨n,hnn,h0,hown,by rw[Ren.at_blk]⟩
  ·exact absurd (r.lt (hdom m e1 hgm).1) (by omega)
 ·have hmn:m≠n:=fun e=>hz0 (e▸hm)
  have hmN:m≠H.next:=fun e=>absurd (r.lt hm.ne) (by omega)
  refine⟨fun h=>?_,hg m hmn hmN⟩
  simp only[aa.oK,aa.et]at h
  split at h
  ·exact (zA7.1 h).resolve_left hmn
  ·exact h
theorem ak {P:Program} {w:World} {t:TypeId} {d:TypeDesc} (h:P.underlying t=some d):(underlying t).run P w=.ok d w:=by
 simp[underlying,h]
theorem bX {P:Program} {w:World} {t:TypeId} {n:Nat} (h:bh P t=some n):(sizeOf t).run P w=.ok n w:=by
 unfold bh at h
 cases e:P.info? t with
 |none=>simp[e]at h
 |some i=>simp[e]at h; simp[sizeOf,typeInfo,e,h]
theorem bd {P:Program} {t:TypeId} {n:Nat} (h:bh P t=some n):P.cellsOf t=n:=by
 unfold bh at h
 simp[Program.cellsOf,h]
theorem jS {P:Program} {w:World} {t:TypeId} {i:TypeInfo} (h:P.info? t=some i):(typeInfo t).run P w=.ok i w:=by simp[typeInfo,h]
theorem nn {P:Program} {t:TypeId} {n:Nat} (h:bytesOf P t=some n):∃ i,P.info? t=some i/\i.bytes=n:=by
 unfold bytesOf at h
 cases e:P.info? t with
 |none=>simp[e]at h
 |some i=>simp[e]at h; exact⟨i,rfl,h⟩
theorem dO {P:Program} {w:World} {t:TypeId} {v:Value} (h:zeroOf P t=some v):(zeroValue t).run P w=.ok v w/\af v=true:=by
 unfold zeroOf at h
 cases e:P.info? t with
 |none=>simp[e]at h
 |some i =>
  simp only[e]at h
  cases e2:i.zero with
  |none=>simp[e2]at h
  |some z =>
   simp only[e2]at h
   split at h
   ·rename_i ha
    simp only[Option.some.injEq]at h
    subst h
    exact⟨by simp[zeroValue,typeInfo,e,e2],ha⟩
   ·cases h
theorem rR {P:Program} {w:World} {t:TypeId} {b:Bool} (h:eX P t=some b):(isAgg t).run P w=.ok b w:=by
 unfold eX at h
 unfold isAgg
 cases e:P.underlying t with
 |none=>simp[e]at h
 |some d =>
  simp only[e]at h
  simp only[Sem.run_bind,ak e,Result.andThen_ok]
  cases d<;>simp_all
theorem sY {α:Type} {P:Program} (s:Sem α):∀ {a:α},cS P s=some a->∀ w,s.run P w=.ok a w:=by
 induction s with
 |pure x=>intro a h w; simp[cS]at h; simp[h]
 |program k ih=>intro a h w; simp only[cS]at h; simp only[Sem.run]; exact ih P h w
 |mark m k ih=>intro a h w; simp only[cS]at h; simp only[Sem.run]; exact ih h w
 |load|store|new|shape|freeze|frozen|getObj|setObj|choose|sys|halt=>intro a h; simp[cS]at h
theorem Gk {α:Type} {P:Program} (s:Sem α):∀ {v:Value},o6 P s=some v->∀ w,s.run P w=.halt (.panic v) w:=by
 induction s with
 |halt h =>
  intro v hv w
  cases h<;>simp[o6]at hv
  simp[hv]
 |program k ih=>intro a h w; simp only[o6]at h; simp only[Sem.run]; exact ih P h w
 |mark m k ih=>intro a h w; simp only[o6]at h; simp only[Sem.run]; exact ih h w
 |load|store|new|shape|freeze|frozen|getObj|setObj|choose|sys|pure=>intro a h; simp[o6]at h
structure oQ (P:Program) (ρ:Ren) (n:Nat) (v:RV) (e:TypeId) (op:Bool) (w:World) (c:Array Value) (fz:Nat × Nat):Prop where
 at_:w.heap[ρ.blk n]?=some (.cells c e fz)
 cell:∀ i,i<v.n->c[i+ρ.sh n]?=some (ρ.val (v.get i))
 shut:op=false->c.size=v.n/\ρ.sh n=0/\ρ.ex n=0/\fz=(0,0)
structure Cells (P:Program) (ρ:Ren) (n:Nat) (v:RV) (e:TypeId) (op:Bool) (w:World) (c:Array Value) (fz:Nat × Nat):Prop extends oQ P ρ n v e op w c fz where
 room:op=true->ρ.ex n≠0->v.n+ρ.ex n*P.cellsOf e<=9223372036854775807*P.cellsOf e
 open_:op=true->ρ.sh n+v.n+ρ.ex n*P.cellsOf e<=c.size/\∀ i,ρ.sh n<=i->i<ρ.sh n+v.n+ρ.ex n*P.cellsOf e->¬(fz.1<=i/\i<fz.2)
theorem dW {H:aa} {n:Nat} {v:RV} {e:TypeId} {op:Bool} (h:bH H n=some (v,e,op)):∃ c0 f0,H.get n=some ⟨.cells c0 e (0,f0),op,v⟩:=by
 unfold bH at h
 split at h
 ·rename_i c0 e' f0 o v' hg
  simp only[Option.some.injEq,Prod.mk.injEq]at h
  obtain⟨rfl,rfl,rfl⟩:=h
  exact⟨c0,f0,hg⟩
 ·cases h
theorem xj {H:aa} {n:Nat} {v:RV} {e:TypeId} {op:Bool} (h:aR H n=some (v,e,op)):∃ c0 f0,H.get n=some ⟨.cells c0 e f0,op,v⟩:=by
 unfold aR at h
 split at h
 ·rename_i c0 e' f0 o v' hg
  simp only[Option.some.injEq,Prod.mk.injEq]at h
  obtain⟨rfl,rfl,rfl⟩:=h
  exact⟨c0,f0,hg⟩
 ·cases h
theorem JW {H:aa} {n:Nat} {x:RV × TypeId × Bool} (h:bH H n=some x):aR H n=some x:=by
 obtain⟨v,e,op⟩:=x
 obtain⟨c0,f0,hg⟩:=dW h
 simp[aR,hg]
theorem KZ {o:Obj} {c:RV}:O6 ⟨o,false,c⟩=false:=by
 unfold O6
 split
 ·rename_i h; simp only[dw.mk.injEq]at h; exact absurd h.2.1 (by simp)
 ·rfl
theorem ru {H:aa} {n:Nat} {x:dw} (hg:H.get n=some x) (h:O6 x=false):¬Fz (H.get n):=by
 rintro⟨o,h1,h2⟩
 rw[hg]at h1
 cases h1
 rw[h]at h2
 cases h2
theorem nc {H:aa} {n:Nat} {x:RV × TypeId × Bool} (h:bH H n=some x):¬Fz (H.get n):=by
 obtain⟨v,e,op⟩:=x
 obtain⟨c0,f0,hg⟩:=dW h
 rintro⟨o,h1,h2⟩
 rw[hg]at h1
 cases h1
 cases op<;>simp[O6]at h2
section
variable {P : Program} {ρ : Ren} {H : aa} {w : World}
theorem Rel.cells (r:Rel P ρ H w) {n:Nat} {v:RV} {e:TypeId} {op:Bool} (h:bH H n=some (v,e,op)) :
  ∃ c fz,Cells P ρ n v e op w c fz:=by
 obtain⟨c0,f0,hg⟩:=dW h
 obtain⟨o',hw,hf⟩:=r.obj n _ hg
 simp only[Fits]at hf
 obtain⟨c,fz,rfl,h1,h2,h3⟩:=hf
 exact⟨c,fz,⟨hw,h1,h2⟩,fun h=>(h3 h trivial).1.2,fun h=>⟨(h3 h trivial).1.1,(h3 h trivial).2⟩⟩
theorem Rel.BU (r:Rel P ρ H w) {n:Nat} {v:RV} {e:TypeId} {op:Bool} (h:aR H n=some (v,e,op)) :
  ∃ c fz,oQ P ρ n v e op w c fz:=by
 obtain⟨c0,f0,hg⟩:=xj h
 obtain⟨o',hw,hf⟩:=r.obj n _ hg
 simp only[Fits]at hf
 obtain⟨c,fz,rfl,h1,h2,h3⟩:=hf
 exact⟨c,fz,hw,h1,h2⟩
theorem Rel.yD (r:Rel P ρ H w) {n:Nat} {v:RV} {e:TypeId} {op:Bool} (h:bH H n=some (v,e,op)):∀ i,i<v.n->aS H.next (v.get i)=true:=by
 obtain⟨c0,f0,hg⟩:=dW h
 have:=(r.dom n _ hg).2
 simpa only[ki]using this
theorem oQ.lt {n:Nat} {v:RV} {e:TypeId} {op:Bool} {c:Array Value} {fz:Nat × Nat} (h:oQ P ρ n v e op w c fz) {i:Nat} (hi:i<v.n):i+ρ.sh n<c.size:=by
 have:=h.cell i hi
 rcases zC2 (i+ρ.sh n) c.size with h1|h1
 ·exact h1
 ·simp[Array.getElem?_eq_none h1]at this
theorem oQ.cell? {n:Nat} {v:RV} {e:TypeId} {op:Bool} {c:Array Value} {fz:Nat × Nat} (h:oQ P ρ n v e op w c fz) {i:Nat} (hi:i<v.n) :
  w.cell? ⟨ρ.blk n,i+ρ.sh n,none⟩=some (ρ.val (v.get i)):=by
 simp[World.cell?,h.at_,h.cell i hi]
theorem Cells.Mr {n:Nat} {v:RV} {e:TypeId} {op:Bool} {c:Array Value} {fz:Nat × Nat} (h:Cells P ρ n v e op w c fz) {i:Nat} (h1:ρ.sh n<=i) (h2:i<ρ.sh n+v.n+ρ.ex n*P.cellsOf e):¬(fz.1<=i/\i<fz.2):=by
 cases op with
 |false=>have:=(h.shut rfl).2.2.2; subst this; simp
 |true=>exact (h.open_ rfl).2 i h1 h2
theorem dR (b off i:Nat):(Addr.mk b off none).add i=⟨b,off+i,none⟩:=by
 unfold Addr.add
 split
 ·subst_vars; rfl
 ·rfl
theorem run_loadCellsFrom (b off:Nat) (f:Nat->Value):∀ (n i:Nat) (acc:Array Value),(∀ j,j<n->w.cell? ⟨b,off+(i+j),none⟩=some (f (i+j))) ->
  (loadCellsFrom ⟨b,off,none⟩ i n acc).run P w=.ok (acc++((List.range n).map fun j=>f (i+j)).toArray) w:=by
 intro n
 induction n with
 |zero=>intro i acc _; simp[loadCellsFrom]
 |succ n ih =>
  intro i acc h
  have h0:=h 0 (Nat.succ_pos _)
  rw[zE1]at h0
  simp only[loadCellsFrom,Sem.run_bind,dR,run_load,h0,Result.andThen_ok]
  rw[ih (i+1) _ (fun j hj=>by have:=h (j+1) (by omega); rw[show i+1+j=i+(j+1) from by omega]; exact this)]
  congr 1
  rw[List.range_succ_eq_map,zC0,List.map_map]
  apply Array.ext'
  simp only[Array.toList_append,Array.toList_push,zD3,List.singleton_append,zE1]
  congr 2
  apply List.map_congr_left
  intro j _
  simp only[Function.comp]
  rw[show i+1+j=i+j.succ from by omega]
theorem MS (ρ:Ren) (v:RV) (i k:Nat):(v.jK i k).map ρ.val=(List.range k).map fun j=>ρ.val (v.get (i+j)):=by
 rw[RV.gA,List.map_map]; rfl
theorem oQ.load {n:Nat} {v:RV} {e:TypeId} {op:Bool} {c:Array Value} {fz:Nat × Nat} (h:oQ P ρ n v e op w c fz) {off k:Nat} (hk:off+k<=v.n) :
  (loadCells ⟨ρ.blk n,off+ρ.sh n,none⟩ k).run P w=.ok ((v.jK off k).map ρ.val).toArray w:=by
 unfold loadCells
 rw[run_loadCellsFrom (ρ.blk n) (off+ρ.sh n) (fun j=>ρ.val (v.get (off+j))) k 0 #[] (fun j hj=>by
  have:=h.cell? (i:=off+j) (by omega)
  rw[show off+ρ.sh n+(0+j)=off+j+ρ.sh n from by omega,show 0+j=j from by omega]; exact this)]
 simp[MS]
theorem sW (r:Rel P ρ H w) {t:TypeId} {n off:Nat} {x:Value} (h:ga P H t (.pointer (some ⟨n,off,none⟩))=some x) :
  (loadVar t ⟨ρ.blk n,off+ρ.sh n,none⟩).run P w=.ok (ρ.val x) w:=by
 simp only[ga,zA1,zA2]at h
 obtain⟨⟨v,e,op⟩,hc,b,hb,h⟩:=h
 obtain⟨c,fz,hC⟩:=r.BU hc
 cases b with
 |true =>
  simp only[zA2]at h
  obtain⟨sz,hsz,h⟩:=h
  split at h
  ·rename_i hle
   simp only[Option.some.injEq]at h
   subst h
   simp only[loadVar,Sem.run_bind,rR hb,Result.andThen_ok,if_true,bX hsz,hC.load (iq hle),Sem.run_pure,Ren.val,Ren.ez,Ren.nM]
  ·cases h
 |false =>
  simp only at h
  split at h
  ·rename_i hlt
   simp only[Option.some.injEq]at h
   subst h
   simp only[loadVar,Sem.run_bind,rR hb,Result.andThen_ok,zC4,if_false,run_load,hC.cell? (bN hlt)]
  ·cases h
theorem tv {t:TypeId} {p x:Value} (h:ga P H t p=some x):∃ n off,p=.pointer (some ⟨n,off,none⟩):=by
 unfold ga at h
 split at h
 ·rename_i n off; exact⟨n,off,rfl⟩
 ·cases h
theorem pA (ρ:Ren) (n off:Nat):ρ.val (.pointer (some ⟨n,off,none⟩))=.pointer (some ⟨ρ.blk n,off+ρ.sh n,none⟩):=by simp[Ren.val]
theorem Jr (r:Rel P ρ H w) {t:TypeId} {p x:Value} (h:ga P H t p=some x):(Instr.loadAt t (ρ.val p)).run P w=.ok (ρ.val x) w:=by
 obtain⟨n,off,rfl⟩:=tv h
 rw[pA]
 simp[Instr.loadAt,Instr.sureAddr,sW r h]
def N3 (c:Array Value) (i:Nat):List Value->Array Value
 |[]=>c
 |v::r=>N3 (c.setIfInBounds i v) (i+1) r
theorem wk (l:List Value):∀ (c:Array Value) (i:Nat),(N3 c i l).size=c.size:=by
 induction l with
 |nil=>intro c i; rfl
 |cons v r ih=>intro c i; simp[N3,ih]
theorem IE (l:List Value):∀ (c:Array Value) (i j:Nat),i+l.length<=c.size->(N3 c i l)[j]?=if i<=j/\j<i+l.length then l[j-i]? else c[j]?:=by
 induction l with
 |nil=>intro c i j _; simp[N3]; omega
 |cons v r ih =>
  intro c i j h
  simp only[zB0]at h ⊢
  rw[N3,ih _ _ _ (by simp; omega)]
  by_cases h1:i+1<=j/\j<i+1+r.length
  ·rw[if_pos h1,if_pos (by omega)]
   obtain⟨k,rfl⟩:∃ k,j=i+1+k:=⟨j-(i+1),by omega⟩
   rw[show i+1+k-(i+1)=k from by omega,show i+1+k-i=k+1 from by omega]
   simp
  ·rw[if_neg h1,Array.getElem?_setIfInBounds]
   by_cases h2:i=j
   ·subst h2
    rw[if_pos rfl,if_pos (by omega),if_pos (by omega)]
    simp
   ·rw[if_neg h2,if_neg (by omega)]
theorem Li {v:Value} (h:one v=true):v.oneCell'=true:=by cases v<;>simp_all [one,Value.oneCell']
theorem pr (b off:Nat) (e:TypeId) (fz:Nat × Nat):∀ (vs:List Value) (i:Nat) (w:World) (c:Array Value),w.heap[b]?=some (.cells c e fz)->off+i+vs.length<=c.size ->
  (∀ v∈vs,one v=true)->(∀ j,off+i<=j->j<off+i+vs.length->¬(fz.1<=j/\j<fz.2)) ->
  ∃ w',(storeCells ⟨b,off,none⟩ vs i).run P w=.ok () w'/\w'.heap[b]?=some (.cells (N3 c (off+i) vs) e fz)/\w'.heap.size=w.heap.size /\
   (∀ k,k≠b->w'.heap[k]?=w.heap[k]?)/\w'.os=w.os/\w'.tape=w.tape/\w'.output=w.output:=by
 intro vs
 induction vs with
 |nil=>intro i w c hb _ _ _; exact⟨w,by simp[storeCells],by simpa[N3]using hb,rfl,fun _ _=>rfl,rfl,rfl,rfl⟩
 |cons v r ih =>
  intro i w c hb hle hone hfz
  simp only[zB0]at hle
  have hin:off+i<c.size:=by omega
  have hcell:w.cell? ⟨b,off+i,none⟩=some c[off+i]:=by simp[World.cell?,hb,hin]
  have hfr:w.frozen? ⟨b,off+i,none⟩=false:=by
   have:=hfz (off+i) (zA8 _) (by simp only[zB0]; omega)
   simp only[World.frozen?,hb]
   simpa using this
  have hset:(w.setCell ⟨b,off+i,none⟩ v).heap[b]?=some (.cells (c.setIfInBounds (off+i) v) e fz):=by
   simp[World.setCell,Array.getElem?_modify,hb]
  obtain⟨w',h1,h2,h3,h4,h5,h6,h7⟩:=ih (i+1) (w.setCell ⟨b,off+i,none⟩ v) (c.setIfInBounds (off+i) v) hset (by simp; omega) (fun x hx=>hone x (zC7 _ hx))
   (fun j h1 h2=>hfz j (by omega) (by simp only[zB0]; omega))
  refine⟨w',?_,?_,?_,?_,h5,h6,h7⟩
  ·simp only[storeCells,Sem.run_bind,dR,run_store P w _ v _ (Li (hone v (zE5 ..))),hcell,hfr,zC4,if_false,Result.andThen_ok]
   exact h1
  ·rw[h2]; simp only[N3]; rfl
  ·rw[h3]; simp
  ·intro k hk
   rw[h4 k hk]
   simp only[World.setCell,Array.getElem?_modify]
   rw[if_neg (fun e=>hk e.symm)]
theorem nB (r:Rel P ρ H w) {n off:Nat} {vs:List Value} {H1:aa} (h:dV H n off vs=some H1) :
  ∃ w1,St P ρ H w ρ H1 w1/\(storeCells ⟨ρ.blk n,off+ρ.sh n,none⟩ (vs.map ρ.val)).run P w=.ok () w1:=by
 simp only[dV,zA1,zA2]at h
 obtain⟨⟨v,e,op⟩,hc,h⟩:=h
 simp only at h
 split at h
 ·rename_i hcond
  simp only[zA4]at hcond
  obtain⟨⟨hle,hone⟩,hsc⟩:=hcond
  have hle:=iq hle
  simp only[Option.some.injEq]at h
  subst h
  obtain⟨c,fz,hC⟩:=r.cells hc
  obtain⟨c0,f0,hg⟩:=dW hc
  have hsize:ρ.sh n+v.n<=c.size:=by
   rcases Nat.eq_zero_or_pos v.n with hz|hp
   ·cases op with
    |false=>have:=hC.shut rfl; omega
    |true=>have:=(hC.open_ rfl).1; omega
   ·have:=hC.lt (i:=v.n-1) (by omega); omega
  obtain⟨w1,h1,h2,h3,h4,h5,h6,h7⟩:=pr (P:=P) (ρ.blk n) (off+ρ.sh n) e fz (vs.map ρ.val) 0 w c hC.at_ (by simp; omega)
   (fun x hx=>by
    obtain⟨y,hy,rfl⟩:=zB5.1 hx
    rw[Ren.val_one]; exact zC6.1 hone y hy)
   (fun j h1 h2=>hC.Mr (by omega) (by simp only[zD7]at h2; omega))
  refine⟨w1,?_,h1⟩
  refine St.cE r (bD hg) (nc hc) ?_ ?_ h2 h3 h4 h5 h6 h7
  ·simp only[ki]
   intro i hi
   rw[RV.o9]at hi
   rw[RV.mJ]
   split
   ·rename_i hin
    have hlt:i-off<vs.length:=by omega
    have hm:vs.getD (i-off) undef∈vs:=by simp[List.getD,hlt]
    exact bL.1 hsc _ hm
   ·exact r.yD hc i hi
  ·simp only[Fits]
   refine⟨_,fz,rfl,fun i hi=>?_,fun ho=>?_,fun ho=>?_⟩
   ·rw[RV.o9]at hi
    rw[IE _ _ _ _ (by simp; omega),RV.mJ]
    simp only[zE1,zD7]
    by_cases hin:off<=i/\i<off+vs.length
    ·rw[if_pos (by omega),if_pos hin]
     have hlt:i-off<vs.length:=by omega
     rw[show i+ρ.sh n-(off+ρ.sh n)=i-off from by omega]
     simp[List.getD,hlt]
    ·rw[if_neg (by omega),if_neg hin]; exact hC.cell i hi
   ·rw[wk,RV.o9]; exact hC.shut ho
   ·intro _; rw[wk,RV.o9]; exact⟨⟨(hC.open_ ho).1,hC.room ho⟩,(hC.open_ ho).2⟩
 ·cases h
theorem FT (r:Rel P ρ H w) {t:TypeId} {p x:Value} {H1:aa} (h:eW P H t p x=some H1) :
  ∃ w1,St P ρ H w ρ H1 w1/\(Instr.storeAt t (ρ.val p) (ρ.val x)).run P w=.ok () w1:=by
 unfold eW at h
 split at h
 ·rename_i n off
  simp only[zA1,zA2]at h
  obtain⟨sz,hsz,h⟩:=h
  split at h
  ·rename_i hlen
   obtain⟨w1,hs,hr⟩:=nB r h
   refine⟨w1,hs,?_⟩
   have hcs:(ρ.val x).cells.size=sz:=by rw[Ren.mq]; simpa using hlen
   rw[pA]
   simp only[Instr.storeAt,Instr.sureAddr,storeVar,Sem.run_bind,Sem.run_pure,Result.andThen_ok,bX hsz,hcs,ne_eq,not_true,if_false]
   rw[Ren.mq]
   simpa using hr
  ·cases h
 ·cases h
theorem pC (r:Rel P ρ H w) {e:TypeId} {c:List Value} {H1:aa} (h:cF H e c false=some H1) :
  St P ρ H w (ρ.at H.next w.heap.size 0 0) H1 (w.alloc (.cells (c.map ρ.val).toArray e)):=by
 unfold cF at h
 split at h
 ·rename_i hsc
  simp only[Option.some.injEq]at h
  subst h
  refine St.new r _ _ 0 0 ?_ ?_
  ·simp only[ki,RV.n_ofList,RV.cb]
   intro i hi
   exact bL.1 hsc _ (by simp[List.getD,hi])
  ·simp only[Fits]
   refine⟨_,(0,0),rfl,fun i hi=>?_,fun _=>?_,fun h=>by cases h⟩
   ·simp only[RV.n_ofList]at hi
    rw[RV.cb,Ren.at_sh,gE (Ren.gN ρ H.next w.heap.size 0 0) _ (bL.1 hsc _ (by simp[List.getD,hi]))]
    simp[List.getD,hi]
   ·simp
 ·cases h
theorem AN (r:Rel P ρ H w) {e:TypeId} {c:List Value} {H1:aa} (h:cF H e c true=some H1) (post:Array Value) (ex:Nat) (hp:post.size=ex*P.cellsOf e) (hr:c.length+ex*P.cellsOf e<=9223372036854775807*P.cellsOf e) :
  St P ρ H w (ρ.at H.next w.heap.size 0 ex) H1 (w.alloc (.cells ((c.map ρ.val).toArray++post) e)):=by
 unfold cF at h
 split at h
 ·rename_i hsc
  simp only[Option.some.injEq]at h
  subst h
  refine St.new r _ _ 0 ex ?_ ?_
  ·simp only[ki,RV.n_ofList,RV.cb]
   intro i hi
   exact bL.1 hsc _ (by simp[List.getD,hi])
  ·simp only[Fits]
   refine⟨_,(0,0),rfl,fun i hi=>?_,fun h=>(by cases h),fun _=>?_⟩
   ·simp only[RV.n_ofList]at hi
    rw[RV.cb,Ren.at_sh,gE (Ren.gN ρ H.next w.heap.size 0 ex) _ (bL.1 hsc _ (by simp[List.getD,hi]))]
    rw[Array.getElem?_append_left (by simpa using hi)]
    simp[List.getD,hi]
   ·simp[hp]
    exact fun _=>hr
 ·cases h
end
def Ren.rM (ρ:Ren) (d:Deferred):Deferred :=
 match d.target with
 |.collected r=>⟨.collected (ρ.blk r),d.args⟩
 |.fn f cap=>⟨.fn (ρ.fn f) (ρ.ez cap),ρ.ez d.args⟩
 |_=>d
def Ren.act (ρ:Ren) (a:ag):Act:=⟨ρ.tmps a.env,a.defers.map ρ.rM⟩
theorem jg (ρ:Ren) (e:RV) (t:Nat):(ρ.tmps e)[t]?=if t<e.n then some (ρ.val (e.get t)) else none:=by
 unfold Ren.tmps
 by_cases h:t<e.n
 ·simp[h]
 ·simp[h]
theorem Jh (ρ:Ren) (e:RV) (t:Nat):(ρ.tmps e).getD t undef=if t<e.n then ρ.val (e.get t) else undef:=by
 rw[Array.getD_eq_getD_getElem?,jg]
 split<;>rfl
@[simp] theorem tmps_size (ρ:Ren) (e:RV):(ρ.tmps e).size=e.n:=by simp[Ren.tmps]
theorem mL {a b:Nat} (h:¬a<b):Nat.blt a b=false:=by
 cases e:Nat.blt a b with
 |false=>rfl
 |true=>exact absurd (bN e) h
theorem rC (ρ:Ren) (a:ag) (t:Nat):(ρ.act a).tmps.getD t undef=ρ.val (a.tmp t):=by
 simp only[Ren.act,Jh,ag.tmp]
 by_cases h:t<a.env.n
 ·simp[h,a8 h]
 ·simp[h,mL h]
theorem CP (ρ:Ren) (e:RV) (d:Nat) (v:Value):(ρ.tmps e).setIfInBounds d (ρ.val v)=ρ.tmps (if Nat.blt d e.n then e.set d v else e):=by
 apply Array.ext_getElem?
 intro i
 rw[Array.getElem?_setIfInBounds,jg,jg,tmps_size]
 by_cases h:d<e.n
 ·rw[a8 h,if_pos rfl,RV.n_set,RV.ri]
  by_cases e1:d=i
  ·subst e1; simp[h]
  ·have e2:¬i=d:=fun h=>e1 h.symm
   simp[e1,e2]
 ·rw[mL h]
  by_cases e1:d=i
  ·subst e1; simp[h]
  ·rw[if_neg e1]; simp
theorem jy (ρ:Ren) (a:ag) (dst:Option Tmp) (v:Value):(ρ.act a).put dst (ρ.val v)=ρ.act (a.put dst v):=by
 cases dst with
 |none=>rfl
 |some d =>
  simp only[Act.put,ag.put_eq,Ren.act,CP]
  split<;>rfl
section
variable {P : Program} {ρ : Ren} {H : aa} {w : World}
theorem aI (r:Rel P ρ H w) {a:ag} {x:Operand} {v:Value} (h:aK P a x=some v):(ρ.act a).eval x=ρ.val v:=by
 cases x with
 |tmp t=>simp only[aK,Option.some.injEq]at h; subst h; exact rC ρ a t
 |const c =>
  simp only[aK]at h
  split at h
  ·rename_i ha
   simp only[Option.some.injEq]at h
   subst h
   rw[df ρ _ ha]; rfl
  ·cases h
 |global g =>
  simp only[aK]at h
  split at h
  ·rename_i hb
   simp only[Option.some.injEq]at h
   subst h
   obtain⟨h1,h2⟩:=r.glob.2 g (bN hb)
   simp[Act.eval,Ren.val,h1,h2]
  ·cases h
 |func f=>simp only[aK,Option.some.injEq]at h; subst h; simp[Act.eval,Ren.val,Ren.fn,Ren.ez,Ren.gM]
theorem la (r:Rel P ρ H w) {a:ag}:∀ {xs:List Operand} {vs:List Value},fc P a xs=some vs->xs.map (ρ.act a).eval=vs.map ρ.val
 |[],vs,h=>by simp only[fc,Option.some.injEq]at h; subst h; rfl
 |x::xs,vs,h=>by
  simp only[fc,zA1,zA2,Option.some.injEq]at h
  obtain⟨v,hv,us,hu,rfl⟩:=h
  simp[aI r hv,la r hu]
theorem tJ (r:Rel P ρ H w) {a:ag}:∀ {xs:List (Nat × Operand)} {vs:List (Nat × Value)},gH P a xs=some vs->xs.map (fun p=>(p.1,(ρ.act a).eval p.2))=vs.map (fun p=>(p.1,ρ.val p.2))
 |[],vs,h=>by simp only[gH,Option.some.injEq]at h; subst h; rfl
 |(i,x)::xs,vs,h=>by
  simp only[gH,zA1,zA2,Option.some.injEq]at h
  obtain⟨v,hv,us,hu,rfl⟩:=h
  simp[aI r hv,tJ r hu]
theorem oE (r:Rel P ρ H w) {a:ag} {x:Option Operand} {v:Option Value} (h:lF P a x=some v):x.map (ρ.act a).eval=v.map ρ.val:=by
 cases x with
 |none=>simp only[lF,Option.some.injEq]at h; subst h; rfl
 |some x =>
  simp only[lF,zB3]at h
  obtain⟨u,hu,rfl⟩:=h
  simp[aI r hu]
theorem zp {t:TypeId} {cs:List Value} {off:Nat} {x:Value} (h:zw P t cs off=some x):(part t (cs.map ρ.val).toArray off).run P w=.ok (ρ.val x) w:=by
 simp only[zw,zA1,zA2]at h
 obtain⟨b,hb,h⟩:=h
 cases b with
 |true =>
  simp only[zA2,Option.some.injEq]at h
  obtain⟨sz,hsz,rfl⟩:=h
  simp only[part,Sem.run_bind,rR hb,Result.andThen_ok,if_true,bX hsz,Sem.run_pure,Ren.val,Ren.ez,Ren.nM]
  congr 2
  apply Array.ext'
  simp only[Array.toList_extract,List.extract_eq_take_drop,List.map_take,List.map_drop]
  congr 1; omega
 |false =>
  simp only at h
  simp[part,rR hb,h]
theorem E5 {t:TypeId} {x v:Value} {f:Nat} (h:tm P t x f=some v):(Instr.field t (ρ.val x) f).run P w=.ok (ρ.val v) w:=by
 unfold tm at h
 split at h
 ·rename_i fields cs hu
  split at h
  ·rename_i fd hfd
   have hfd':fields[f]?=some fd:=by simpa using hfd
   have hp:=zp (w:=w) (ρ:=ρ) h
   have hcs:ρ.val (.agg cs)=.agg (cs.toList.map ρ.val).toArray:=by rw[Ren.val,Ren.dJ]; congr 1; apply Array.ext'; simp
   rw[hcs]
   simp[Instr.field,ak hu,hfd',asAgg,hp]
  ·cases h
 ·cases h
theorem H6 (ρ:Ren) (a:Addr) (k:Nat):ρ.val (.pointer (some (a.add k)))=.pointer (some ((Addr.mk (ρ.blk a.block) (a.off+ρ.sh a.block) a.spot).add k)):=by
 unfold Addr.add
 by_cases h:k=0
 ·simp[h,Ren.val]
 ·simp only[h,if_false,Ren.val]
  congr 3; omega
theorem x8 {t:TypeId} {x v:Value} {f:Nat} (h:aH P t x f=some v):(Instr.fieldAt t (ρ.val x) f).run P w=.ok (ρ.val v) w:=by
 unfold aH at h
 split at h
 ·rename_i fields a hu
  split at h
  ·rename_i fd hfd
   have hfd':fields[f]?=some fd:=by simpa using hfd
   split at h
   ·cases h
   ·rename_i k cR hk
    simp only[Option.some.injEq]at h
    subst h
    have hk0:k≠0:=fun e=>cR e
    rw[H6]
    simp only[Ren.val,Instr.fieldAt,Sem.run_bind,ak hu,Result.andThen_ok,hfd',Instr.sureAddr,Sem.run_pure,fieldPlace,bX hk,hk0,if_false]
   ·cases h
  ·cases h
 ·cases h
theorem Qx (s:ByteArray) (n:Nat):s[n]?=s.data.toList[n]?:=by
 by_cases h:n<s.size
 ·rw[getElem?_pos s n h,Array.getElem?_toList]
  exact (Array.getElem?_eq_getElem h).symm
 ·rw[getElem?_neg s n h,Array.getElem?_toList]
  exact (Array.getElem?_eq_none (Nat.not_lt.1 h)).symm
theorem FY {t:TypeId} {x i v:Value} (h:BP P t x i=some v):(Instr.index t (ρ.val x) (ρ.val i)).run P w=.ok (ρ.val v) w:=by
 unfold BP at h
 split at h
 ·rename_i len elem cs k n hu
  simp only[zA1,zA2]at h
  obtain⟨sz,hsz,h⟩:=h
  split at h
  ·rename_i hin
   have hp:=zp (w:=w) (ρ:=ρ) h
   have hcs:ρ.val (.agg cs)=.agg (cs.toList.map ρ.val).toArray:=by rw[Ren.val,Ren.dJ]; congr 1; apply Array.ext'; simp
   rw[hcs]
   simp[Instr.index,asIntOf,Ren.val,ak hu,hin,bX hsz,hp]
  ·cases h
 ·rename_i s k n hu
  split at h
  ·rename_i hn
   simp only[zB3]at h
   obtain⟨b,hb,rfl⟩:=h
   have hb':s[n.toNat]?=some b:=by rw[Qx]; exact hb
   simp[Instr.index,asIntOf,Ren.val,ak hu,hn,hb']
  ·cases h
 ·cases h
theorem wV {t:TypeId} {x i v:Value} (h:aP P t x i=some v):(Instr.indexAt t (ρ.val x) (ρ.val i)).run P w=.ok (ρ.val v) w:=by
 unfold aP at h
 split at h
 ·rename_i len elem a k n hu
  simp only[zA1,zA2]at h
  obtain⟨sz,hsz,h⟩:=h
  split at h
  ·rename_i hin
   simp only[Option.some.injEq]at h
   subst h
   rw[H6]
   simp[Instr.indexAt,asIntOf,Ren.val,ak hu,hin,bX hsz,Instr.sureAddr]
  ·cases h
 ·rename_i elem a len cap k n hu
  simp only[zA1,zA2]at h
  obtain⟨sz,hsz,h⟩:=h
  split at h
  ·rename_i hin
   simp only[Option.some.injEq]at h
   subst h
   have ho:ρ.nU a len cap=a.off:=Ren.nq (.inr (by omega))
   have hos:ρ.zc a len cap=none:=Ren.oH (.inr (by omega))
   simp[Instr.indexAt,asIntOf,Ren.val,ho,hos,ak hu,hin,bX hsz,dR]
   omega
  ·cases h
 ·cases h
theorem nY {d k:Nat} (h:bound d none=some k):k=d:=by simpa[bound]using h.symm
theorem kT {d k:Nat} {v:Value} (h:bound d (some v)=some k):∃ kd,v=.int kd (k:Int):=by
 unfold bound at h
 split at h
 ·rename_i heq; cases heq
 ·rename_i kd i heq
  split at h
  ·rename_i h0
   cases heq
   simp only[Option.some.injEq]at h
   exact⟨kd,by rw[<-h,Int.toNat_of_nonneg h0]⟩
  ·cases h
 ·cases h
theorem run_sliceBound {kd:IntKind} {k y:Nat} (code:BoundsCode) (h:k<=y):(Instr.sliceBound (.int kd k) y code).run P w=.ok k w:=by
 simp[Instr.sliceBound,asIntOf,h]
theorem eH (isS:Bool) {len cap l h:Nat} {lo hi:Option Value} (hl:bound 0 lo=some l) (hh:bound len hi=some h) (h1:hi=none\/h<=cap) (h2:l<=h) :
  (Instr.sliceBounds isS len cap (lo.map ρ.val) (hi.map ρ.val) none).run P w=.ok (l,h,cap) w:=by
 cases hi with
 |none =>
  have:=nY hh
  subst this
  cases lo with
  |none=>have:=nY hl; subst this; simp[Instr.sliceBounds]
  |some v=>obtain⟨kd,rfl⟩:=kT hl; simp[Instr.sliceBounds,Ren.val,run_sliceBound _ h2]
 |some u =>
  obtain⟨kd,rfl⟩:=kT hh
  have hc:h<=cap:=by simpa using h1
  cases lo with
  |none=>have:=nY hl; subst this; simp[Instr.sliceBounds,Ren.val,run_sliceBound _ hc]
  |some v=>obtain⟨kd,rfl⟩:=kT hl; simp[Instr.sliceBounds,Ren.val,run_sliceBound _ h2,run_sliceBound _ hc]
theorem ma {len cap l h m:Nat} {kd:IntKind} {lo hi:Option Value} (hl:bound 0 lo=some l) (hh:bound len hi=some h) (hhi:hi≠none) (h0:m<=cap) (h1:h<=m) (h2:l<=h) :
  (Instr.sliceBounds true len cap (lo.map ρ.val) (hi.map ρ.val) (some (.int kd m))).run P w=.ok (l,h,m) w:=by
 cases hi with
 |none=>exact absurd rfl hhi
 |some u =>
  obtain⟨kd,rfl⟩:=kT hh
  cases lo with
  |none=>have:=nY hl; subst this; simp[Instr.sliceBounds,Ren.val,run_sliceBound _ h0,run_sliceBound _ h1]
  |some v=>obtain⟨kd,rfl⟩:=kT hl; simp[Instr.sliceBounds,Ren.val,run_sliceBound _ h0,run_sliceBound _ h1,run_sliceBound _ h2]
def kj (P:Program) (ρ:Ren) (H:aa) (w:World) (s:Sem Value) (v:Value) (H1:aa):Prop :=
 ∃ ρ1 w1,St P ρ H w ρ1 H1 w1/\s.run P w=.ok (ρ1.val v) w1
theorem kj.same (r:Rel P ρ H w) {s:Sem Value} {v:Value} (h:s.run P w=.ok (ρ.val v) w):kj P ρ H w s v H:=⟨ρ,w,St.refl r,h⟩
theorem nW {n:Nat} {b:Bool} (h:il H n=some b):∃ v e,aR H n=some (v,e,b):=by
 unfold il at h
 split at h
 ·rename_i c e f o v hg
  simp only[Option.some.injEq]at h
  subst h
  exact⟨v,e,by simp[aR,hg]⟩
 ·cases h
theorem tq (r:Rel P ρ H w) {a:Addr} {len cap:Nat} (h:cY H a=some true):ρ.val (.slice (some a) len cap)=.slice (some ⟨ρ.blk a.block,a.off+ρ.sh a.block,none⟩) len cap:=by
 unfold cY at h
 split at h
 ·rename_i hs; obtain⟨ab,ao,asp⟩:=a; simp only at hs; subst hs; simp[Ren.val]
 ·cases h
 ·rename_i hs
  simp only[zB3]at h
  obtain⟨b,hb,hb'⟩:=h
  have hbf:b=false:=by cases b<;>simp_all
  subst hbf
  obtain⟨v,e,hc⟩:=nW hb
  obtain⟨c,fz,hC⟩:=r.BU hc
  obtain⟨ab,ao,asp⟩:=a; simp only at hs; subst hs
  have:=(hC.shut rfl).2.2.1
  simp only at this
  simp[Ren.val,this]
theorem BV {a:Addr} {len cap:Nat} (h:fC H a len cap=some true):cY H a=some true:=by
 unfold fC at h
 split at h
 ·split at h
  ·split at h<;>cases h
  ·cases h
 ·exact h
theorem inexact {a:Addr} (h:cY H a=some false):a.spot=none/\il H a.block=some true:=by
 unfold cY at h
 split at h
 ·cases h
 ·cases h
 ·rename_i hs
  simp only[zB3]at h
  obtain⟨b,hb,hb'⟩:=h
  have:b=true:=by cases b<;>simp_all
  subst this
  exact⟨hs,hb⟩
theorem JB {a:Addr} {len cap:Nat} (h:fC H a len cap=some false):il H a.block=some true/\(a.spot=none\/∃ k,a.spot=some (k+1)/\len=0/\cap=0):=by
 unfold fC at h
 split at h
 ·rename_i k hk
  split at h
  ·rename_i hz
   have hz:len+cap=0:=Nat.eq_of_beq_eq_true hz
   split at h
   ·rename_i ho
    exact⟨ho,.inr ⟨k,hk,by omega,by omega⟩⟩
   ·cases h
  ·cases h
 ·exact⟨(inexact h).2,.inl (inexact h).1⟩
theorem Ff (b o m l sz:Nat):(if m=l then some (Addr.mk b o none) else (some (Addr.mk b o none)).map (·.add (l*sz)))=some ⟨b,if m=l then o else o+l*sz,none⟩:=by
 by_cases h:m=l
 ·simp[h]
 ·simp[h,dR]
theorem Hd (c:Prop) [Decidable c] (a b s:Nat):(if c then a+s else a+s+b)=(if c then a else a+b)+s:=by split<;>omega
theorem DL (r:Rel P ρ H w) {t e:TypeId} {sz:Nat} {a:Option Addr} {len cap m:Nat} {kd:IntKind} {lo hi:Option Value} {v:Value} {H1:aa}
  (hu:P.underlying t=some (.slice e)) (hsz:bh P e=some sz) (hhi:hi≠none) (h:vO H sz a len cap lo hi m=some (v,H1)) :
  kj P ρ H w (Instr.slice t (ρ.val (.slice a len cap)) (lo.map ρ.val) (hi.map ρ.val) (some (.int kd m))) v H1:=by
 simp only[vO,zA1,zA2]at h
 obtain⟨l,hl,hh,hhh,h⟩:=h
 split at h
 ·rename_i hc
  obtain⟨c1,c2,c3,c4⟩:=hc
  cases a with
  |none =>
   simp only[Option.some.injEq,Prod.mk.injEq]at h
   obtain⟨rfl,rfl⟩:=h
   refine kj.same r ?_
   simp only[Ren.val,Instr.slice,Sem.run_bind,ak hu,Result.andThen_ok,ma hl hhh hhi c1 c2 c3,bX hsz,Sem.run_pure,Option.map_none,ite_self]
  |some a =>
   simp only[Option.some.injEq,Prod.mk.injEq]at h
   obtain⟨rfl,rfl⟩:=h
   refine kj.same r ?_
   have hcap:m<=ρ.oP a len cap:=zC3 c1 Ren.Bt
   simp only[Ren.val,Instr.slice,Sem.run_bind,ak hu,Result.andThen_ok,ma hl hhh hhi hcap c2 c3,bX hsz,Sem.run_pure]
   simp only[Ren.nq (.inl (c4 a rfl)),Ren.oH (.inl (c4 a rfl)),Ren.spS_zero,Ren.offS_zero,Ren.capS_zero,Ff,Hd]
 ·cases h
theorem Et (r:Rel P ρ H w) {t e:TypeId} {sz:Nat} {a:Option Addr} {len cap:Nat} {lo hi:Option Value} {v:Value} {H1:aa}
  (hu:P.underlying t=some (.slice e)) (hsz:bh P e=some sz) (h:fm H sz a len cap lo hi=some (v,H1)) :
  kj P ρ H w (Instr.slice t (ρ.val (.slice a len cap)) (lo.map ρ.val) (hi.map ρ.val) none) v H1:=by
 simp only[fm,zA1,zA2]at h
 obtain⟨l,hl,hh,hhh,h⟩:=h
 split at h
 ·rename_i hc
  obtain⟨c1,c2⟩:=hc
  cases a with
  |none =>
   simp only[Option.some.injEq,Prod.mk.injEq]at h
   obtain⟨rfl,rfl⟩:=h
   refine kj.same r ?_
   simp only[Ren.val,Instr.slice,Sem.run_bind,ak hu,Result.andThen_ok,eH true hl hhh (.inr c1) c2,bX hsz,Sem.run_pure,Option.map_none,ite_self]
  |some a =>
   obtain⟨ob,hb⟩:=Go.Ax.bP (cY H a)
   simp only[hb]at h
   cases ob with
   |none =>
    simp only at h
    split at h
    ·rename_i hc
     obtain⟨rfl,rfl,_⟩:=hc
     simp only[Option.some.injEq,Prod.mk.injEq]at h
     obtain⟨rfl,rfl⟩:=h
     refine kj.same r ?_
     have hcap:=Ren.Bt (ρ:=ρ) (a:=a) (len:=hh) (cap:=cap)
     simp only[Ren.val,Instr.slice,Sem.run_bind,ak hu,Result.andThen_ok,eH (cap:=ρ.oP a hh cap) true hl hhh (.inr (by omega)) c2,bX hsz,Sem.run_pure]
     simp[Addr.add]
    ·cases h
   |some b =>
    cases b with
    |true =>
    simp only[Option.some.injEq,Prod.mk.injEq]at h
    obtain⟨rfl,rfl⟩:=h
    refine kj.same r ?_
    rw[tq r hb]
    simp only[Instr.slice,Sem.run_bind,ak hu,Result.andThen_ok,eH true hl hhh (.inr c1) c2,bX hsz,Sem.run_pure,Ff,Ren.val,Ren.spS_zero,Ren.offS_zero,Ren.capS_zero,Hd]
    |false =>
    obtain⟨hs,ho⟩:=inexact hb
    have hval:ρ.val (.slice (some a) len cap)=.slice (some ⟨ρ.blk a.block,a.off+ρ.sh a.block,none⟩) len (cap+ρ.ex a.block):=by
     obtain⟨ab,ao,asp⟩:=a; simp only at hs; subst hs; simp[Ren.val]
    have hrun:(Instr.slice t (ρ.val (.slice (some a) len cap)) (lo.map ρ.val) (hi.map ρ.val) none).run P w =
      .ok (.slice (some ⟨ρ.blk a.block,if cap+ρ.ex a.block=l then a.off+ρ.sh a.block else a.off+ρ.sh a.block+l*sz,none⟩) (hh-l) (cap+ρ.ex a.block-l)) w:=by
     rw[hval]
     simp only[Instr.slice,Sem.run_bind,ak hu,Result.andThen_ok,eH (cap:=cap+ρ.ex a.block) true hl hhh (.inr (by omega)) c2,bX hsz,Sem.run_pure,Ff]
    simp only at h
    split at h
    ·rename_i hl0
     simp only[Option.some.injEq,Prod.mk.injEq]at h
     obtain⟨rfl,rfl⟩:=h
     refine kj.same r ?_
     rw[hrun]
     subst hl0
     simp[Ren.val]
    ·split at h
     ·rename_i hl0 hlc
      simp only[Option.some.injEq,Prod.mk.injEq]at h
      obtain⟨rfl,rfl⟩:=h
      refine kj.same r ?_
      rw[hrun,if_neg (by omega)]
      simp only[Ren.val,Ren.offS_none,Ren.spS_none,Ren.capS_none]
      rw[show a.off+ρ.sh a.block+l*sz=a.off+l*sz+ρ.sh a.block from by omega,show cap+ρ.ex a.block-l=cap-l+ρ.ex a.block from by omega]
     ·rename_i hl0 hlc
      have hle:l=cap:=by omega
      have hhl:hh=l:=by omega
      split at h
      ·cases h
      rename_i hsz0
      simp only[Option.some.injEq,Prod.mk.injEq]at h
      obtain⟨rfl,rfl⟩:=h
      have hso:ρ.zc ⟨a.block,a.off+l*sz,some (a.off+1)⟩ 0 0=none:=Ren.NN (by
       have:=Nat.mul_pos (Nat.pos_of_ne_zero hl0) (Nat.pos_of_ne_zero hsz0)
       show a.off+l*sz≠0
       omega)
      refine kj.same r ?_
      rw[hrun]
      subst hhl
      subst hle
      simp only[Ren.val,hso,Ren.nU,Ren.oP,true_and,if_true,zG5,and_self]
      by_cases h0:ρ.ex a.block=0
      ·simp[h0]
      ·simp only[h0,if_false]
       rw[if_neg (by omega)]
       rw[show hh+ρ.ex a.block-hh=ρ.ex a.block from by omega,show a.off+ρ.sh a.block+hh*sz=a.off+hh*sz+ρ.sh a.block from by omega]
 ·cases h
end
section
variable {P : Program} {ρ : Ren} {H : aa} {w : World}
theorem Gv (r:Rel P ρ H w) {t:TypeId} {x:Value} {lo hi mx:Option Value} {v:Value} {H1:aa} (h:cg P H t x lo hi mx=some (v,H1)) :
  kj P ρ H w (Instr.sliceAt t (ρ.val x) (lo.map ρ.val) (hi.map ρ.val) (mx.map ρ.val)) v H1:=by
 unfold cg at h
 split at h
 ·rename_i s hu
  simp only[zA1,zA2]at h
  obtain⟨l,hl,hh,hhh,h⟩:=h
  split at h
  ·rename_i hc
   simp only[Option.some.injEq,Prod.mk.injEq]at h
   obtain⟨rfl,rfl⟩:=h
   refine kj.same r ?_
   simp only[Instr.sliceAt,Instr.slice,Sem.run_bind,ak hu,Result.andThen_ok,Ren.val,Option.map_none,Option.isSome_none,zC4,if_false,eH false hl hhh (.inr hc.1) hc.2,Sem.run_pure]
  ·cases h
 ·rename_i e a len cap hu
  simp only[zA1,zA2]at h
  obtain⟨sz,hsz,h⟩:=h
  obtain⟨ρ1,w1,hst,hr⟩:=Et r hu hsz h
  refine⟨ρ1,w1,hst,?_⟩
  rw[<-hr]
  simp only[Instr.sliceAt,Sem.run_bind,ak hu,Result.andThen_ok,Option.map_none]
 ·rename_i e a len cap kd m hu
  simp only[zA1]at h
  split at h
  ·rename_i hm
   simp only[zA2]at h
   obtain⟨sz,hsz,h⟩:=h
   have hhi:hi≠none:=by intro e; rw[e]at hm; simp at hm
   obtain⟨ρ1,w1,hst,hr⟩:=DL (kd:=kd) r hu hsz hhi h
   refine⟨ρ1,w1,hst,?_⟩
   rw[<-hr]
   simp only[Instr.sliceAt,Sem.run_bind,ak hu,Result.andThen_ok,zA9,Ren.val,Int.toNat_of_nonneg hm.1]
  ·cases h
 ·rename_i n e a hu
  simp only[zA1,zA2]at h
  obtain⟨l,hl,hh,hhh,sz,hsz,h⟩:=h
  split at h
  ·rename_i hc
   obtain⟨c1,c2,c3⟩:=hc
   simp only[Option.some.injEq,Prod.mk.injEq]at h
   obtain⟨rfl,rfl⟩:=h
   refine kj.same r ?_
   obtain⟨b,o,s⟩:=a
   simp only at c3
   subst c3
   simp only[Instr.sliceAt,Sem.run_bind,ak hu,Result.andThen_ok,Ren.val,Instr.sureAddr,Sem.run_pure,Option.map_none,eH false hl hhh (.inr c1) c2,bX hsz,dR]
   congr 4
   split<;>simp<;>omega
  ·cases h
 ·cases h
theorem nZ (ρ:Ren) (off:Nat):∀ (l:List Value) (k:Nat) (cells:Array Value),
  ((l.map ρ.val).zipIdx k).foldl (fun cs (x:Value × Nat)=>cs.setIfInBounds (off+x.2) x.1) (cells.map ρ.val) =
   ((l.zipIdx k).foldl (fun cs (x:Value × Nat)=>cs.setIfInBounds (off+x.2) x.1) cells).map ρ.val
 |[],k,cells=>by simp
 |v::l,k,cells=>by
  simp only[zC0,List.zipIdx_cons,List.foldl_cons]
  have:(cells.map ρ.val).setIfInBounds (off+k) (ρ.val v)=(cells.setIfInBounds (off+k) v).map ρ.val:=by simp
  rw[this,nZ ρ off l (k+1)]
theorem ss (ρ:Ren) (place:Nat->Option (Nat × Nat)):∀ (parts:List (Nat × Value)) (cells:Array Value),
  Instr.fill place (cells.map ρ.val) (parts.map fun p=>(p.1,ρ.val p.2))=(Instr.fill place cells parts).map fun c=>c.map ρ.val
 |[],cells=>by simp[Instr.fill]
 |(i,v)::parts,cells=>by
  simp only[zC0,Instr.fill]
  cases hp:place i with
  |none=>rfl
  |some os =>
   obtain⟨off,size⟩:=os
   simp only[Ren.mq,Array.size_map]
   split
   ·rfl
   ·have hz:=nZ ρ off v.cells.toList 0 cells
    have h1:(v.cells.map ρ.val).zipIdx.foldl (fun cs (x:Value × Nat)=>cs.setIfInBounds (off+x.2) x.1) (cells.map ρ.val) =
      (v.cells.zipIdx.foldl (fun cs (x:Value × Nat)=>cs.setIfInBounds (off+x.2) x.1) cells).map ρ.val:=by
     rw[<-Array.foldl_toList,<-Array.foldl_toList]
     simpa using hz
    have h2:=ss ρ place parts (v.cells.zipIdx.foldl (fun cs (x:Value × Nat)=>cs.setIfInBounds (off+x.2) x.1) cells)
    rw[<-h1]at h2
    exact h2
theorem xG (ρ:Ren) {z:Value} (h:af z=true):z.cells.map ρ.val=z.cells:=by rw[<-Ren.mq,df ρ z h]
theorem Gl {t:TypeId} {parts:List (Nat × Value)} {v:Value} (h:er P t parts=some v) :
  (Instr.build t (parts.map fun p=>(p.1,ρ.val p.2)).toArray).run P w=.ok (ρ.val v) w:=by
 simp only[er,zA1,zA2]at h
 obtain⟨z,hz,h⟩:=h
 obtain⟨hzr,hza⟩:=dO (w:=w) hz
 split at h
 ·rename_i fields hu
  simp only[zA2,zB3]at h
  obtain⟨places,hp,cells,hc,rfl⟩:=h
  have hf:=ss ρ (places[·]?) parts z.cells
  rw[xG ρ hza,hc]at hf
  simp only[Instr.build,Sem.run_bind,hzr,Result.andThen_ok,ak hu,sY _ hp,hf,zA9,Sem.run_pure,Ren.val,Ren.dJ]
 ·rename_i len elem hu
  simp only[zA2,zB3]at h
  obtain⟨sz,hsz,cells,hc,rfl⟩:=h
  have hf:=ss ρ (fun i=>some (i*sz,sz)) parts z.cells
  rw[xG ρ hza,hc]at hf
  simp only[Instr.build,Sem.run_bind,hzr,Result.andThen_ok,ak hu,bX hsz,hf,zA9,Sem.run_pure,Ren.val,Ren.dJ]
 ·cases h
theorem jm (z:List Value) (n:Nat):(aV z n).length=n*z.length:=by
 induction n with
 |zero=>simp[aV]
 |succ n ih=>simp[aV,ih,Nat.succ_mul]; omega
theorem xy (z:List Value):∀ (n i:Nat),i<n*z.length->(aV z n)[i]?=z[i % z.length]?
 |0,i,h=>by simp at h
 |n+1,i,h=>by
  have hz:0<z.length:=by
   rcases Nat.eq_zero_or_pos z.length with h0|h0
   ·rw[h0]at h; simp at h
   ·exact h0
  by_cases hi:i<z.length
  ·rw[aV,List.getElem?_append_left hi,Nat.mod_eq_of_lt hi]
  ·rw[aV,List.getElem?_append_right (by omega),xy z n (i-z.length) (by rw[Nat.succ_mul]at h; omega)]
   rw[<-Nat.mod_eq_sub_mod (by omega)]
theorem jJ (z:Array Value) (n:Nat):(Array.range (n*z.size)).map (fun i=>z[i % z.size]!)=(aV z.toList n).toArray:=by
 apply Array.ext_getElem?
 intro i
 by_cases h:i<n*z.size
 ·have hz:0<z.size:=by
   rcases Nat.eq_zero_or_pos z.size with h0|h0
   ·rw[h0]at h; simp at h
   ·exact h0
  have hm:i % z.size<z.size:=Nat.mod_lt _ hz
  have:=xy z.toList n i (by simpa using h)
  simp only[List.getElem?_toArray,this]
  simp[h,hm]
 ·rw[Array.getElem?_eq_none (by simpa using h),Array.getElem?_eq_none (by simpa[jm]using h)]
theorem nj (ρ:Ren) (z:List Value) (h:z.map ρ.val=z) (n:Nat):(aV z n).map ρ.val=aV z n:=by
 induction n with
 |zero=>rfl
 |succ n ih=>simp[aV,ih,h]
theorem sd (ρ:Ren) {z:Value} (h:af z=true):z.cells.toList.map ρ.val=z.cells.toList:=by
 have:=congrArg Array.toList (xG ρ h)
 simpa using this
theorem IK (ρ:Ren) (n b s e:Nat):(ρ.at n b s e).val (.pointer (some ⟨n,0,none⟩))=.pointer (some ⟨b,s,none⟩):=by simp[pA]
theorem vB (r:Rel P ρ H w) {t:TypeId} {len:Nat} {parts:List (Nat × Value)} {v:Value} {H1:aa} (h:b7 P H t len parts=some (v,H1)) :
  kj P ρ H w (Instr.buildSlice t len (parts.map fun p=>(p.1,ρ.val p.2)).toArray) v H1:=by
 simp only[b7,zA1,zA2]at h
 obtain⟨d,hu,h⟩:=h
 split at h
 ·rename_i e
  simp only[zA2]at h
  obtain⟨sz,hsz,z,hz,h⟩:=h
  split at h
  ·rename_i hc
   obtain⟨c1,c2⟩:=hc
   simp only[zA2,Option.some.injEq,Prod.mk.injEq]at h
   obtain⟨cells,hf0,g,hg,rfl,rfl⟩:=h
   obtain⟨hzr,hza⟩:=dO (w:=w) hz
   have hf:=ss ρ (fun i=>some (i*sz,sz)) parts (aV z.cells.toList len).toArray
   rw[hf0]at hf
   have hzm:(aV z.cells.toList len).toArray.map ρ.val=(aV z.cells.toList len).toArray:=by
    simp[nj ρ _ (sd ρ hza) len]
   rw[hzm]at hf
   refine⟨_,_,pC r hg,?_⟩
   have hbig:¬(len*sz>2 ^ 24):=by omega
   have hm:Array.map ρ.val cells=(cells.toList.map ρ.val).toArray:=by apply Array.ext'; simp
   have h00:Array.range 0=#[]:=rfl
   by_cases h0:len*sz=0
   ·have hnil:(aV z.cells.toList len)=[]:=zE9 (by rw[jm,c2]; exact h0)
    rw[hnil]at hf
    simp only[Instr.buildSlice,Sem.run_bind,ak hu,Result.andThen_ok,bX hsz,h0,if_true]
    simp[hf,newRow,Ren.val,h00,hm]
   ·have hz2:(Array.range (len*sz)).map (fun i=>z.cells[i % z.cells.size]!)=(aV z.cells.toList len).toArray:=by
     have:sz=z.cells.size:=by simpa using c2.symm
     rw[this]; exact jJ _ _
    simp only[Instr.buildSlice,Sem.run_bind,ak hu,Result.andThen_ok,bX hsz,hbig,if_false,Sem.run_pure,h0,hzr,hz2,hf,zA9]
    simp[newRow,Ren.val,hm]
  ·cases h
 ·cases h
end
section
variable {P : Program} {ρ : Ren} {H : aa} {w : World}
theorem wrap_small {n:Int} (h0:0<=n) (h1:n<=140737488351232):IntKind.i64.wrap n=n:=by
 have:n % (2 ^ IntKind.i64.bits:Int)=n:=by
  have e:(2 ^ IntKind.i64.bits:Int)=18446744073709551616:=by decide
  rw[e]; omega
 have h2:(2 ^ (IntKind.i64.bits-1):Int)=9223372036854775808:=by decide
 simp only[IntKind.wrap,this,h2]
 split
 ·rename_i hc
  simp only[zA4,decide_eq_true_eq]at hc
  omega
 ·rfl
theorem xK {n b:Nat} (h:small n b=true):n*b<=140737488351232/\n<=140737488351232:=by
 simp only[small,zA4]at h
 exact⟨iq h.1,iq h.2⟩
theorem xQ (r:Rel P ρ H w) {t:TypeId} {l c:Value} {v:Value} {H1:aa} (h:fG P H t l c=some (v,H1)) :
  kj P ρ H w (Instr.makeSlice t (ρ.val l) (ρ.val c)) v H1:=by
 unfold fG at h
 split at h
 ·rename_i l c
  simp only[zA1,zA2]at h
  obtain⟨d,hu,h⟩:=h
  split at h
  ·rename_i e
   simp only[zA2]at h
   obtain⟨by1,hby,sz,hsz,z,hz,h⟩:=h
   split at h
   ·rename_i hc
    obtain⟨c1,c2,c3,c4⟩:=hc
    simp only[zA2,Option.some.injEq,Prod.mk.injEq]at h
    obtain⟨g,hg,rfl,rfl⟩:=h
    obtain⟨hzr,hza⟩:=dO (w:=w) hz
    obtain⟨inf,hinf,hib⟩:=nn hby
    obtain⟨s1,s2⟩:=xK c3
    have wl:IntKind.i64.wrap l=l:=wrap_small c1 (by omega)
    have wc:IntKind.i64.wrap c=c:=wrap_small (by omega) (by omega)
    have hbig:¬((by1:Int)*c>2 ^ 48):=by
     have:((by1:Int)*c)=((c.toNat*by1:Nat):Int):=by
      rw[Int.natCast_mul,Int.toNat_of_nonneg (by omega),Int.mul_comm]
     rw[this]; omega
    refine⟨_,_,pC r hg,?_⟩
    have t1:(decide (c<0)||decide ((by1:Int)*c>2 ^ 48))=false:=by simp; omega
    have t2:¬(((decide (c<0)||decide ((by1:Int)*c>2 ^ 48))||decide (l<0)||decide (l>c))=true):=by rw[t1]; simp; omega
    by_cases h0:c.toNat*sz=0
    ·have hnil:(aV z.cells.toList c.toNat)=[]:=zE9 (by rw[jm,c4]; exact h0)
     simp only[Ren.val,Instr.makeSlice,Sem.run_bind,ak hu,Result.andThen_ok,asInt,asIntOf,Sem.run_pure,jS hinf,hib,wl,wc,t2,hnil]
     simp[newRow,bX hsz,h0,show Array.range 0=#[] from rfl]
    ·have hz2:(Array.range (c.toNat*sz)).map (fun i=>z.cells[i % z.cells.size]!)=(aV z.cells.toList c.toNat).toArray:=by
      have:sz=z.cells.size:=by simpa using c4.symm
      rw[this]; exact jJ _ _
     simp only[Ren.val,Instr.makeSlice,Sem.run_bind,ak hu,Result.andThen_ok,asInt,asIntOf,Sem.run_pure,jS hinf,hib,wl,wc,t2,nj ρ _ (sd ρ hza)]
     simp[newRow,bX hsz,h0,hzr,hz2]
   ·cases h
  ·cases h
 ·cases h
theorem vC {x v:Value} {xt t:TypeId} {ok:Bool} (h:gp P x t ok=some v):(Instr.typeAssert (ρ.val x) xt t ok).run P w=.ok (ρ.val v) w:=by
 unfold gp at h
 split at h
 ·rename_i want u y hu
  split at h
  ·rename_i i hi
   split at h
   ·rename_i hm
    simp only[Option.some.injEq]at h
    subst h
    cases ok<;>simp[Instr.typeAssert,Ren.val,ak hu,jS hi,hm,Ren.dJ]
   ·rename_i m hm
    split at h
    ·rename_i hok
     simp only[zB3]at h
     obtain⟨z,hz,rfl⟩:=h
     obtain⟨hzr,hza⟩:=dO (w:=w) hz
     simp[Instr.typeAssert,Ren.val,ak hu,jS hi,hm,Ren.dJ,hok,hzr,df ρ z hza]
    ·cases h
  ·cases h
 ·rename_i d hu
  split at h
  ·rename_i hok
   simp only[zB3]at h
   obtain⟨z,hz,rfl⟩:=h
   obtain⟨hzr,hza⟩:=dO (w:=w) hz
   cases d<;>simp[Instr.typeAssert,Ren.val,ak hu,Ren.dJ,hok,hzr,df ρ z hza]
  ·cases h
 ·rename_i d u y hnot hu
  split at h
  ·rename_i heq
   simp only[Option.some.injEq]at h
   subst h
   cases d<;>cases ok<;>first
    |(exact absurd rfl (hnot _)) 
    |simp[Instr.typeAssert,Ren.val,ak hu,Ren.dJ,heq]
  ·rename_i cR
   split at h
   ·rename_i hok
    simp only[zB3]at h
    obtain⟨z,hz,rfl⟩:=h
    obtain⟨hzr,hza⟩:=dO (w:=w) hz
    cases d<;>first
     |(exact absurd rfl (hnot _))
     |simp[Instr.typeAssert,Ren.val,ak hu,Ren.dJ,hok,cR,hzr,df ρ z hza]
   ·cases h
 ·cases h
end
section
variable {P : Program} {ρ : Ren} {H : aa} {w : World}
def ER (P:Program) (ρ:Ren) (H:aa) (w:World) (s:Sem Value) (x:cP) (H1:aa):Prop :=
 ∃ ρ1 w1,St P ρ H w ρ1 H1 w1/\match x with
  |.value v=>s.run P w=.ok (ρ1.val v) w1
  |.panic v=>s.run P w=.halt (.panic (ρ1.val v)) w1
  |_=>False
theorem ER.val (r:Rel P ρ H w) {s:Sem Value} {v:Value} (h:s.run P w=.ok (ρ.val v) w):ER P ρ H w s (.value v) H:=⟨ρ,w,St.refl r,h⟩
theorem ER.of {s:Sem Value} {v:Value} {H1:aa} (h:kj P ρ H w s v H1):ER P ρ H w s (.value v) H1:=h
theorem xp (r:Rel P ρ H w) {n:Nat} (h:il H n=some false) :
  H.get n≠none/\¬Fz (H.get n)/\ρ.sh n=0/\(∀ o,w.frozen? ⟨ρ.blk n,o,none⟩=false)/\(∀ o s,w.frozen? ⟨ρ.blk n,o,s⟩=false)/\∃ e k,w.shape? (ρ.blk n)=some (e,k):=by
 obtain⟨v,e,hc⟩:=nW h
 obtain⟨c,fz,hC⟩:=r.BU hc
 obtain⟨c0,f0,hg⟩:=xj hc
 obtain⟨h1,h2,h3,h4⟩:=hC.shut rfl
 subst h4
 refine⟨bD hg,(fun⟨o,e1,e2⟩=>by rw[hg]at e1; cases e1; simp[O6]at e2),h2,fun o=>by simp[World.frozen?,hC.at_],fun o s=>by simp[World.frozen?,hC.at_],e,c.size,by simp[World.shape?,hC.at_]⟩
theorem A4 (r:Rel P ρ H w) {a b:Addr} (ha:il H a.block=some false) (hb:il H b.block=some false) :
  (sameAddr ⟨ρ.blk a.block,a.off+ρ.sh a.block,a.spot⟩ ⟨ρ.blk b.block,b.off+ρ.sh b.block,b.spot⟩).run P w=.ok (a == b) w:=by
 obtain⟨a1,az,a2,a3,a4,ea,ka,a5⟩:=xp r ha
 obtain⟨b1,bz,b2,b3,b4,eb,kb,b5⟩:=xp r hb
 by_cases h:a.block=b.block
 ·have hs:(ρ.blk a.block == ρ.blk b.block)=true:=by simp[h]
  simp only[sameAddr,hs,if_true,Sem.run_pure]
  congr 1
  rw[Bool.eq_iff_iff]
  simp only[beq_iff_eq]
  obtain⟨ab,ao,as0⟩:=a
  obtain⟨bb,bo,bs⟩:=b
  simp only at h ⊢
  subst h
  simp
 ·have cR:(ρ.blk a.block == ρ.blk b.block)=false:=by
   simp only[beq_eq_false_iff_ne]
   exact fun e=>(r.inj _ _ a1 b1 e).elim h fun e=>az e.1
  have hab:(a == b)=false:=by
   simp only[beq_eq_false_iff_ne]
   exact fun e=>h (by rw[e])
  simp[sameAddr,cR,a4,b4,noView,viewAt,a5,b5,mayBeOne,stringish,hab]
theorem ID (r:Rel P ρ H w):∀ (d:Nat) {t:TypeId} {x y:Value} {b:Bool},NZ P H d t x y=some b->∀ k,d<=k->(Op.equalIn k t (ρ.val x) (ρ.val y)).run P w=.ok b w
 |0,t,x,y,b,h,k,hk=>by simp[NZ]at h
 |d+1,t,x,y,b,h,0,hk=>by omega
 |d+1,t,x,y,b,h,k+1,hk=>by
  unfold NZ at h
  split at h
  ·rename_i e q hu
   simp only[Option.some.injEq]at h
   subst h
   cases q<;>simp[Op.equalIn,ak hu,Ren.val]
  ·rename_i e q hu
   simp only[Option.some.injEq]at h
   subst h
   simp[Op.equalIn,ak hu,Ren.val]
  ·rename_i e p q hu
   split at h
   ·rename_i sz hsz ha hb
    simp only[Option.some.injEq]at h
    subst h
    simp only[Op.equalIn,Ren.val,Sem.run_bind,ak hu,Result.andThen_ok,bX hsz]
    simp[A4 r ha hb]
   ·cases h
  ·rename_i e n1 c1 q n2 c2 hu
   simp only[Option.some.injEq]at h
   subst h
   cases q<;>simp[Op.equalIn,ak hu,Ren.val]
  ·rename_i e q n1 c1 n2 c2 hu
   simp only[Option.some.injEq]at h
   subst h
   simp[Op.equalIn,ak hu,Ren.val]
  ·rename_i e1 e2 q hu
   simp only[Option.some.injEq]at h
   subst h
   cases q<;>simp[Op.equalIn,ak hu,Ren.val]
  ·rename_i e1 e2 q hu
   simp only[Option.some.injEq]at h
   subst h
   simp[Op.equalIn,ak hu,Ren.val]
  ·rename_i e1 e2 e3 f1 f2 f3 hu
   simp only[Option.some.injEq]at h
   subst h
   simp[Op.equalIn,ak hu,Ren.val]
  ·rename_i e1 e2 e3 f1 f2 f3 hu
   simp only[Option.some.injEq]at h
   subst h
   simp[Op.equalIn,ak hu,Ren.val]
  ·rename_i ms t1 v1 hu
   simp only[Option.some.injEq]at h
   subst h
   simp[Op.equalIn,ak hu,Ren.val]
  ·rename_i ms t1 v1 hu
   simp only[Option.some.injEq]at h
   subst h
   simp[Op.equalIn,ak hu,Ren.val]
  ·rename_i ms tx vx ty vy hu
   split at h
   ·rename_i cR
    simp only[Option.some.injEq]at h
    subst h
    simp[Op.equalIn,ak hu,Ren.val,cR]
   ·rename_i heq
    have heq:tx=ty:=by simpa using heq
    subst heq
    split at h
    ·rename_i i hi
     split at h
     ·rename_i hcmp
      have:=ID r d h k (by omega)
      simp[Op.equalIn,ak hu,Ren.val,jS hi,hcmp,this]
     ·cases h
    ·cases h
  ·cases h
def dL:Value->Bool
 |.pointer _=>true
 |.slice _ _ _=>true
 |.map _=>true
 |.func _ _ _=>true
 |.nilFunc=>true
 |.iface _ _=>true
 |.nilIface=>true
 |_=>false
theorem DC {d:Nat} {t:TypeId} {x y:Value} {b:Bool} (h:NZ P H d t x y=some b):dL x=true/\dL y=true:=by
 cases d with
 |zero=>simp[NZ]at h
 |succ d =>
  unfold NZ at h
  split at h<;>first
   |exact⟨rfl,rfl⟩
   |cases h
theorem vr (ρ:Ren) {x:Value} (h:dL x=true):dL (ρ.val x)=true:=by
 cases x with
 |pointer a=>cases a<;>simp[Ren.val,dL]
 |slice a _ _=>cases a<;>simp[Ren.val,dL]
 |map a=>cases a<;>simp[Ren.val,dL]
 |func f a b=>simp[Ren.val,dL]
 |nilFunc=>simp[Ren.val,dL]
 |iface t v=>simp[Ren.val,dL]
 |nilIface=>simp[Ren.val,dL]
 |_=>simp[dL]at h
theorem binOp_eql {t:TypeId} {x y:Value} (h:dL x=true):binOp .eql t x y=(do pure (.bool (<-Op.equal t x y))):=by
 cases x<;>first
  |rfl
  |(simp[dL]at h; done)
theorem binOp_neq {t:TypeId} {x y:Value} (h:dL x=true):binOp .neq t x y=(do pure (.bool (!(<-Op.equal t x y)))):=by
 cases x<;>first
  |rfl
  |(simp[dL]at h; done)
def fR (a b:Value):Bool :=
 match a,b with
 |.nilIface,.nilIface=>false
 |.agg _,.agg _=>false
 |_,_=>true
theorem Qw {c:Prop} [Decidable c] {A B:Sem Unit} (h1:c->A.run P w=.ok () w) (h2:¬c->B.run P w=.ok () w):(if c then A else B).run P w=.ok () w:=by
 by_cases h:c
 ·rw[if_pos h]; exact h1 h
 ·rw[if_neg h]; exact h2 h
theorem oS {op:BinOp} {t:TypeId} {x y:Operand} {a b:Value} (h:fR a b=true):(eqGuard op t x y a b).run P w=.ok () w:=by
 unfold eqGuard
 refine Qw (fun _=>rfl) (fun _=>?_)
 split
 ·simp[fR]at h
 ·simp[fR]at h
 ·rfl
theorem Ck (ρ:Ren) {x y:Value} (hx:dL x=true) (hy:dL y=true) (h:¬(x=.nilIface/\y=.nilIface)):fR (ρ.val x) (ρ.val y)=true:=by
 cases x with
 |pointer a=>cases a<;>simp[Ren.val,fR]
 |slice a _ _=>cases a<;>simp[Ren.val,fR]
 |map a=>cases a<;>simp[Ren.val,fR]
 |func f a b=>simp[Ren.val,fR]
 |nilFunc=>simp[Ren.val,fR]
 |iface t v=>simp[Ren.val,fR]
 |nilIface =>
  cases y with
  |nilIface=>exact absurd ⟨rfl,rfl⟩ h
  |pointer a=>cases a<;>simp[Ren.val,fR]
  |slice a _ _=>cases a<;>simp[Ren.val,fR]
  |map a=>cases a<;>simp[Ren.val,fR]
  |chan a=>simp[dL]at hy
  |_=>simp[Ren.val,fR]
 |_=>simp[dL]at hx
theorem Bu (r:Rel P ρ H w) {op:BinOp} {t:TypeId} {x y:Operand} {p q v:Value} (h:sC P H op t p q=some v) :
  (do eqGuard op t x y (ρ.val p) (ρ.val q); binOp op t (ρ.val p) (ρ.val q):Sem Value).run P w=.ok (ρ.val v) w:=by
 have hmain:∀ b,NZ P H 100 t p q=some b->wv op b=some v->¬(p=.nilIface/\q=.nilIface) ->
   (do eqGuard op t x y (ρ.val p) (ρ.val q); binOp op t (ρ.val p) (ρ.val q):Sem Value).run P w=.ok (ρ.val v) w:=by
  intro b hb hv hn
  obtain⟨hx,hy⟩:=DC hb
  have he:=ID r 100 hb Op.maxDepth (by decide)
  simp only[Sem.run_bind,oS (Ck ρ hx hy hn),Result.andThen_ok]
  cases op<;>simp[wv]at hv
  ·subst hv
   rw[binOp_eql (vr ρ hx)]
   simp[Op.equal,he,Ren.val]
  ·subst hv
   rw[binOp_neq (vr ρ hx)]
   simp[Op.equal,he,Ren.val]
 unfold sC at h
 split at h
 ·cases h
 ·cases h
 ·rename_i hn1 hn2
  simp only[zA2]at h
  obtain⟨b,hb,hv⟩:=h
  exact hmain b hb hv (fun e=>hn2 e.1 e.2)
theorem L0 (r:Rel P ρ H w) {op:BinOp} {t:TypeId} {x y:Operand} {p q v:Value} (h:fu P H op t p q=some v) :
  (do eqGuard op t x y (ρ.val p) (ρ.val q); binOp op t (ρ.val p) (ρ.val q):Sem Value).run P w=.ok (ρ.val v) w:=by
 unfold fu at h
 split at h
 ·rename_i k a k' b
  split at h
  ·rename_i hk
   subst hk
   have hg:(eqGuard op t x y (.int k a) (.int k b)).run P w=.ok () w:=oS rfl
   simp only[Ren.val,Sem.run_bind,hg,Result.andThen_ok]
   cases op<;>simp only[eD,Option.some.injEq]at h<;>first
    |(subst h; simp[binOp,Op.intArith,Op.intCmp,Ren.val]; done)
    | (split at h
       ·cases h
       ·rename_i hz
        simp only[Option.some.injEq]at h
        subst h
        simp[binOp,Op.intDiv,hz,Ren.val])
    |cases h
  ·cases h
 ·rename_i a b
  split at h
  ·rename_i hu
   have hg:(eqGuard op t x y (.bool a) (.bool b)).run P w=.ok () w:=oS rfl
   simp only[Ren.val,Sem.run_bind,hg,Result.andThen_ok]
   have he:(Op.equal t (.bool a) (.bool b)).run P w=.ok (a == b) w:=by
    have:∀ k,(Op.equalIn (k+1) t (.bool a) (.bool b)).run P w=.ok (a == b) w:=fun k=>by simp[Op.equalIn,ak hu]
    exact this 9999
   have h1:binOp .eql t (.bool a) (.bool b)=(do pure (.bool (<-Op.equal t (.bool a) (.bool b)))):=rfl
   have h2:binOp .neq t (.bool a) (.bool b)=(do pure (.bool (!(<-Op.equal t (.bool a) (.bool b))))):=rfl
   cases op<;>simp only[wv,Option.some.injEq]at h<;>first
    |(subst h; rw[h1]; simp only[Sem.run_bind,he,Result.andThen_ok,Sem.run_pure,Ren.val]; done)
    |(subst h; rw[h2]; simp only[Sem.run_bind,he,Result.andThen_ok,Sem.run_pure,Ren.val]; done)
    |cases h
  ·cases h
 ·exact Bu r h
theorem qZ (r:Rel P ρ H w) {s:Sem Value} {x:cP} (h:jX P s=some x):ER P ρ H w s x H:=by
 unfold jX at h
 split at h
 ·rename_i v hv
  split at h
  ·rename_i ha
   simp only[Option.some.injEq]at h
   subst h
   exact ER.val r (by rw[sY s hv w,df ρ v ha])
  ·cases h
 ·split at h
  ·rename_i v hv
   split at h
   ·rename_i ha
    simp only[Option.some.injEq]at h
    subst h
    exact⟨ρ,w,St.refl r,by show s.run P w=.halt (.panic (ρ.val v)) w; rw[Gk s hv w,df ρ v ha]⟩
   ·cases h
  ·cases h
theorem LS (r:Rel P ρ H w) {op:BinOp} {t:TypeId} {x y:Operand} {p q:Value} {nx:cP} {H1:aa} (h:Ec P H op t x y p q=some (nx,H1)) :
  ER P ρ H w (do eqGuard op t x y (ρ.val p) (ρ.val q); binOp op t (ρ.val p) (ρ.val q)) nx H1:=by
 unfold Ec at h
 split at h
 ·rename_i v hv
  simp only[Option.some.injEq,Prod.mk.injEq]at h
  obtain⟨rfl,rfl⟩:=h
  exact ER.val r (L0 r hv)
 ·split at h
  ·rename_i ha
   simp only[zA4]at ha
   simp only[zB3,Prod.mk.injEq]at h
   obtain⟨z,hz,rfl,rfl⟩:=h
   rw[df ρ p ha.1,df ρ q ha.2]
   exact qZ r hz
  ·cases h
theorem OS (r:Rel P ρ H w) {op:UnOp} {p:Value} {nx:cP} {H1:aa} (h:QD P H op p=some (nx,H1)) :
  ER P ρ H w (Op.unary op (ρ.val p)) nx H1:=by
 unfold QD at h
 split at h
 ·simp only[Option.some.injEq,Prod.mk.injEq]at h
  obtain⟨rfl,rfl⟩:=h
  exact ER.val r (by simp[Op.unary,Ren.val])
 ·simp only[Option.some.injEq,Prod.mk.injEq]at h
  obtain⟨rfl,rfl⟩:=h
  exact ER.val r (by simp[Op.unary,Op.intArith,Ren.val])
 ·split at h
  ·rename_i ha
   simp only[zB3,Prod.mk.injEq]at h
   obtain⟨z,hz,rfl,rfl⟩:=h
   rw[df ρ _ ha]
   exact qZ r hz
  ·cases h
theorem Fg (r:Rel P ρ H w) {t:TypeId} {p q:Value} {nx:cP} {H1:aa} (h:tW P H t p q=some (nx,H1)) :
  ER P ρ H w (Instr.index t (ρ.val p) (ρ.val q)) nx H1:=by
 unfold tW at h
 split at h
 ·rename_i v hv
  simp only[Option.some.injEq,Prod.mk.injEq]at h
  obtain⟨rfl,rfl⟩:=h
  exact ER.val r (FY hv)
 ·split at h
  ·rename_i ha
   simp only[zA4]at ha
   simp only[zB3,Prod.mk.injEq]at h
   obtain⟨z,hz,rfl,rfl⟩:=h
   rw[df ρ p ha.1,df ρ q ha.2]
   exact qZ r hz
  ·cases h
end
section
variable {P : Program} {ρ : Ren} {H : aa} {w : World}
theorem Gw (ρ:Ren) (l:List UInt8):(ay l).map ρ.val=ay l:=by
 simp only[ay,List.map_map]
 apply List.map_congr_left
 intro b _
 simp[Ren.val]
theorem ie (r:Rel P ρ H w) {sz n:Nat} {x:Value} {l:List Value} (h:cO H sz n x=some l) (hn:∀ k,iY x=some k->n<=k) :
  (Builtin.firstCells sz n (ρ.val x)).run P w=.ok (l.map ρ.val).toArray w:=by
 unfold cO at h
 split at h
 ·rename_i a len cap
  have hn:=hn len rfl
  cases n with
  |zero =>
   rw[if_pos rfl]at h
   simp only[Option.some.injEq]at h
   subst h
   simp only[Ren.val,Builtin.firstCells,zF7]
   rfl
  |succ n =>
   rw[if_neg (Nat.succ_ne_zero n)]at h
   simp only[zA1,zA2]at h
   obtain⟨⟨v,e,op⟩,hc,h⟩:=h
   obtain⟨c,fz,hC⟩:=r.BU hc
   simp only at h
   split at h
   ·rename_i hle
    simp only[Option.some.injEq]at h
    subst h
    have ho:ρ.nU a len cap=a.off:=Ren.nq (.inr (by omega))
    have hos:ρ.zc a len cap=none:=Ren.oH (.inr (by omega))
    simp only[Ren.val,ho,hos,Builtin.firstCells,hC.load (iq hle)]
   ·cases h
 ·simp only[Option.some.injEq]at h
  subst h
  simp[Ren.val,Builtin.firstCells]
 ·rename_i s
  simp only[Option.some.injEq]at h
  subst h
  simp only[Ren.val,Builtin.firstCells,Sem.run_pure,Gw]
  congr 1
  apply Array.ext'
  simp[ay,ByteArray.data_extract]
 ·cases h
theorem rE {x:Value} {n:Nat} (h:iY x=some n):(Builtin.lenOf (ρ.val x)).run P w=.ok n w:=by
 unfold iY at h
 split at h
 ·rename_i a n' c
  simp only[Option.some.injEq]at h
  subst h
  cases a<;>simp[Ren.val,Builtin.lenOf]
 ·simp only[Option.some.injEq]at h
  subst h
  simp[Ren.val,Builtin.lenOf]
 ·cases h
theorem DU (n k c:Nat):Builtin.growBy n (k+1) c=if c ≥ n then c else Builtin.growBy n k (c+(c+768) / 4):=rfl
theorem Ki {n c B:Nat} (k:Nat) (hn:n<=B) (hc:c<=B) (hs:∀ x,x<n->x+(x+768) / 4<=B):Builtin.growBy n k c<=B:=by
 induction k generalizing c with
 |zero=>exact hc
 |succ k ih =>
  rw[DU]
  split
  ·exact hc
  ·exact ih (hs c (by omega))
theorem F5 {n c:Nat} (h:c<n):Builtin.nextslicecap n c<=2*n:=by
 unfold Builtin.nextslicecap
 split
 ·omega
 ·split
  ·omega
  ·exact Ki _ (by omega) (by omega) (fun x hx=>by omega)
theorem lS (need fX:Nat) (e:TypeId) (t:Nat) (h:need<=9000000000000000000):(Question.appendCap need fX e).cut t<=9223372036854775807:=by
 have hlt:=Nat.mod_lt t (show 0<2 ^ 63-need by omega)
 simp only[Question.cut]
 omega
theorem q7 (need fX:Nat) (e:TypeId) (t:Nat):need<=(Question.appendCap need fX e).cut t:=by
 simp[Question.cut]
def gT (e:TypeId) (sz:Nat) (base:Option Addr) (len cap n:Nat) (zeros:Bool) (x:Value) (appended:Sem (Array Value)):Sem Value:=do
 let need:=len+n
 if need<=cap then
  let new <-appended
  if let some a:=base then storeCells (a.add (len*sz)) new.toList
  pure (.slice base need cap)
 else
  if (need:Int)>IntKind.i64.max/\(zeros\/(<-typeInfo e).bytes=0) then runtimePanic (.error "growslice: len out of range")
  if Builtin.nextslicecap need cap*(<-typeInfo e).bytes>2 ^ 48 then (if zeros then runtimePanic (.error "growslice: len out of range") else do
   if !(<-Builtin.mayShare sz len n base x) then mark .noRoom
   unsupported (.resourceLimit "append: a slice or a string whose bytes no memory bears"))
  let newCap <-choose (.appendCap need cap e)
  askRoom (newCap*(<-typeInfo e).bytes)
  let fX <-Builtin.firstCells sz len (.slice base len cap)
  let new <-appended
  let rest:=Builtin.zeroCells (<-zeroValue e).cells (newCap-need)
  pure (.slice (some (<-newRow e (fX++new++rest))) need newCap)
theorem append_eq {ts:Array TypeId} {ty st xt e:TypeId} {rest:List TypeId} {sz:Nat} {s x:Value} {base:Option Addr} {len cap n:Nat} {d:TypeDesc} (hts:ts.toList=st::xt::rest) (hu:P.underlying st=some (.slice e)) (hsz:bh P e=some sz)
  (hx:P.underlying xt=some d) (hd:∀ k,d≠.int k) (hs:s=.slice base len cap) (hn:(Builtin.lenOf x).run P w=.ok n w) :
  (Builtin.append_ ts ty #[s,x]).run P w=(gT e sz base len cap n false x (Builtin.firstCells sz n x)).run P w:=by
 obtain⟨l⟩:=ts
 simp only at hts
 subst hts hs
 unfold Builtin.append_ gT
 simp only[List.getElem?_toArray,zF5,zG4,Sem.run_bind,ak hu,Result.andThen_ok,bX hsz,ak hx,Sem.run_pure]
 have:(match d with|.int _=>true|_=>false)=false:=by cases d<;>first|rfl|exact absurd rfl (hd _)
 simp only[zC4,if_false,zG2,if_true]
 rw[Sem.run_bind,hn]
 rfl
theorem FE {ts:Array TypeId} {ty st xt e:TypeId} {rest:List TypeId} {sz by1:Nat} {s:Value} {base:Option Addr} {len cap:Nat} {k:IntKind} {l:Int} (hts:ts.toList=st::xt::rest) (hu:P.underlying st=some (.slice e)) (hsz:bh P e=some sz)
  (hx:P.underlying xt=some (.int k)) (hs:s=.slice base len cap) (hl:0<=l) (hl1:l<=140737488351232) (hb:bytesOf P e=some by1) (hlb:l*by1<=140737488351232) :
  (Builtin.append_ ts ty #[s,.int .i64 l]).run P w=(gT e sz base len cap l.toNat true (.int .i64 l) (if l.toNat*sz=0 then pure #[] else do pure (Builtin.zeroCells (<-zeroValue e).cells l.toNat))).run P w:=by
 obtain⟨ll⟩:=ts
 simp only at hts
 subst hts hs
 obtain⟨inf,hinf,hib⟩:=nn hb
 have t1:¬(l<0):=by omega
 have t2:¬(l*(inf.bytes:Int)>2 ^ 48):=by rw[hib]; omega
 unfold Builtin.append_ gT
 simp only[List.getElem?_toArray,zF5,zG4,Sem.run_bind,ak hu,Result.andThen_ok,bX hsz,ak hx,Sem.run_pure,if_true,asInt,asIntOf,wrap_small hl hl1,t1,if_false,jS hinf,t2,zE0,zC4]
 rfl
theorem qU {e:TypeId} {sz len cap n:Nat} {zeros:Bool} {x:Value} {a:Addr} {app:Sem (Array Value)} {new:List Value} {w1:World} (hle:len+n<=cap) (ha:app.run P w=.ok new.toArray w)
  (hs:(storeCells (a.add (len*sz)) new).run P w=.ok () w1):(gT e sz (some a) len cap n zeros x app).run P w=.ok (.slice (some a) (len+n) cap) w1:=by
 unfold gT
 simp only[hle,if_true,Sem.run_bind,ha,Result.andThen_ok,hs,Sem.run_pure]
theorem DM {e:TypeId} {sz len cap:Nat} {zeros:Bool} {x:Value} {app:Sem (Array Value)} {new:Array Value} (hle:len+0<=cap) (ha:app.run P w=.ok new w) :
  (gT e sz none len cap 0 zeros x app).run P w=.ok (.slice none len cap) w:=by
 have hle':len<=cap:=by omega
 unfold gT
 simp only[zE1,hle',if_true,Sem.run_bind,ha,Result.andThen_ok,Sem.run_pure]
theorem CT {e:TypeId} {sz len cap n by1:Nat} {zeros:Bool} {x:Value} {base:Option Addr} {app:Sem (Array Value)} {fX new:List Value} {z:Value} (hgt:¬len+n<=cap) (hsm:small (len+n) by1=true) (hb:bytesOf P e=some by1)
  (hz:zeroOf P e=some z) (hzl:z.cells.toList.length=sz) (ho:(Builtin.firstCells sz len (.slice base len cap)).run P w.drew=.ok fX.toArray w.drew) (ha:app.run P w.drew=.ok new.toArray w.drew) :
  ∃ ex,len+n+ex<=9223372036854775807/\(gT e sz base len cap n zeros x app).run P w=.ok (.slice (some ⟨w.heap.size,0,none⟩) (len+n) (len+n+ex)) (w.drew.alloc (.cells ((fX++new).toArray++(aV z.cells.toList ex).toArray) e)):=by
 obtain⟨inf,hinf,hib⟩:=nn hb
 obtain⟨s1,s2⟩:=xK hsm
 obtain⟨hzr,hza⟩:=dO (w:=w.drew) hz
 have t1:¬(((len+n:Nat):Int)>IntKind.i64.max/\(zeros=true\/inf.bytes=0)):=by
  have:IntKind.i64.max=9223372036854775807:=by decide
  rw[this]; omega
 have t2:¬(Builtin.nextslicecap (len+n) cap*inf.bytes>2 ^ 48):=by
  have h1:=F5 (n:=len+n) (c:=cap) (by omega)
  have h2:Builtin.nextslicecap (len+n) cap*inf.bytes<=(2*(len+n))*inf.bytes:=Nat.mul_le_mul_right _ h1
  have h4:(2*(len+n))*inf.bytes=2*((len+n)*by1):=by rw[hib,Nat.mul_assoc]
  omega
 have hcut:=q7 (len+n) cap e (w.tape w.drawn (.appendCap (len+n) cap e))
 obtain⟨ex,hex⟩:∃ ex,(Question.appendCap (len+n) cap e).cut (w.tape w.drawn (.appendCap (len+n) cap e))=len+n+ex:=⟨_,(Nat.add_sub_cancel' hcut).symm⟩
 refine⟨ex,hex▸lS _ _ _ _ (by omega),?_⟩
 have hzc:Builtin.zeroCells z.cells ex=(aV z.cells.toList ex).toArray:=by
  unfold Builtin.zeroCells
  exact jJ _ _
 have hfo:(Question.appendCap (len+n) cap e).forced=false:=rfl
 unfold gT
 simp only[hgt,if_false,Sem.run_bind,jS hinf,Result.andThen_ok,Sem.run_ite,t1,t2,run_choose,hfo,zC4,hex]
 have hdrew:({w with drawn:=w.drawn+1}:World)=w.drew:=rfl
 simp only[hdrew,Result.andThen_ok,run_askRoom,ho,ha,hzr,zF8,hzc,newRow,Sem.run_bind,run_newObj,Sem.run_pure]
 simp
 rfl
theorem Rel.heap {w':World} (r:Rel P ρ H w) (h:w'.heap=w.heap):Rel P ρ H w':=⟨r.base,r.glob,r.inj,r.dom,fun n o hn=>by rw[h]; exact r.obj n o hn⟩
theorem rD (r:Rel P ρ H w):St P ρ H w ρ H w.drew:=St.world r rfl rfl rfl rfl
theorem mi (ρ:Ren) (n b s e len cap:Nat):(ρ.at n b s e).val (.slice (some ⟨n,0,none⟩) len cap)=.slice (some ⟨b,s,none⟩) len (cap+e):=by simp[Ren.val]
theorem qW (r:Rel P ρ H w) {e:TypeId} {sz len cap n by1:Nat} {zeros:Bool} {x:Value} {base':Option Addr} {app:Sem (Array Value)} {fX new:List Value} {z:Value} {g:aa}
  (hgt:¬len+n<=cap) (hsm:small (len+n) by1=true) (hb:bytesOf P e=some by1) (hsz:bh P e=some sz)
  (hz:zeroOf P e=some z) (hzl:z.cells.toList.length=sz) (ho:(Builtin.firstCells sz len (.slice base' len cap)).run P w.drew=.ok (fX.map ρ.val).toArray w.drew)
  (ha:app.run P w.drew=.ok (new.map ρ.val).toArray w.drew) (hg:cF H e (fX++new) true=some g) (hlen:(fX++new).length=(len+n)*sz) :
  kj P ρ H w (gT e sz base' len cap n zeros x app) (.slice (some ⟨H.next,0,none⟩) (len+n) (len+n)) g:=by
 obtain⟨ex,hexl,hrun⟩:=CT (x:=x) (zeros:=zeros) hgt hsm hb hz hzl ho ha
 have hst:=AN (r.heap (w':=w.drew) rfl) hg (aV z.cells.toList ex).toArray ex (by simp[jm,hzl,bd hsz]) (by
  rw[hlen,bd hsz,<-Nat.add_mul]
  exact Nat.mul_le_mul_right _ hexl)
 refine⟨_,_,(rD r).trans hst,?_⟩
 rw[hrun,mi]
 simp
theorem sB (r:Rel P ρ H w) {e:TypeId} {sz len cap n by1 cap':Nat} {zeros:Bool} {x:Value} {base base':Option Addr} {app:Sem (Array Value)} {new:List Value} {z v:Value} {H1:aa}
  (hv:ρ.val (.slice base len cap)=.slice base' len cap') (hsm:small (len+n) by1=true) (hb:bytesOf P e=some by1) (hsz:bh P e=some sz)
  (hz:zeroOf P e=some z) (hzl:z.cells.toList.length=sz) (hnew:new.length=n*sz) (happ:∀ w',w'.heap=w.heap->app.run P w'=.ok (new.map ρ.val).toArray w')
  (h:cW H e sz base len cap n new=some (v,H1)):kj P ρ H w (gT e sz base' len cap' n zeros x app) v H1:=by
 unfold cW at h
 split at h
 ·rename_i hle
  split at h
  ·split at h
   ·rename_i hn0
    subst hn0
    simp only[Option.some.injEq,Prod.mk.injEq]at h
    obtain⟨rfl,rfl⟩:=h
    simp only[Ren.val,Value.slice.injEq,true_and]at hv
    obtain⟨rfl,rfl⟩:=hv
    refine kj.same r ?_
    rw[DM hle (happ w rfl)]
    simp[Ren.val]
   ·cases h
  ·rename_i a
   simp only[zA1,zA2,Option.some.injEq,Prod.mk.injEq]at h
   obtain⟨g,hg,rfl,rfl⟩:=h
   obtain⟨w1,hst,hrun⟩:=nB r hg
   simp only[Ren.val,Value.slice.injEq,true_and]at hv
   obtain⟨rfl,rfl⟩:=hv
   refine⟨ρ,w1,hst,?_⟩
   have hle':len+n<=ρ.oP a len cap:=zC3 hle Ren.Bt
   by_cases hz0:len+n=0
   ·have hn0:n=0:=by omega
    have hl0:len=0:=by omega
    subst hn0
    subst hl0
    have hnil:new=[]:=zE9 (by simpa using hnew)
    subst hnil
    have hw:w1=w:=by
     have:(storeCells (Addr.mk (ρ.blk a.block) (a.off+0*sz+ρ.sh a.block) none) ([].map ρ.val)).run P w=.ok () w:=rfl
     rw[this]at hrun
     exact (Result.ok.inj hrun).2.symm
    subst hw
    rw[qU hle' (happ _ rfl) (w1:=w1) rfl]
    simp[Ren.val]
   have hc0:cap≠0:=by omega
   have ho:ρ.nU a len cap=a.off:=Ren.yz hc0
   have hos:ρ.zc a len cap=none:=Ren.BF hc0
   have hrun':(storeCells (Addr.add ⟨ρ.blk a.block,ρ.nU a len cap+ρ.sh a.block,ρ.zc a len cap⟩ (len*sz)) (new.map ρ.val)).run P w=.ok () w1:=by
    rw[hos,dR,ho,show a.off+ρ.sh a.block+len*sz=a.off+len*sz+ρ.sh a.block from by omega]; exact hrun
   rw[qU hle' (happ w rfl) (w1:=w1) hrun']
   simp[Ren.val,Ren.BF hc0,Ren.yz hc0,Ren.KL (len:=len) (len':=len+n) hc0]
 ·rename_i hgt
  simp only[zA1,zA2]at h
  obtain⟨fX,hold,h⟩:=h
  split at h
  ·rename_i hc
   simp only[zA4,decide_eq_true_eq]at hc
   obtain⟨⟨hol,hone1⟩,hone2⟩:=hc
   have hln:(fX++new).length=(len+n)*sz:=by rw[zB4,hol,hnew,Nat.add_mul]
   have hod:(Builtin.firstCells sz len (.slice base' len cap')).run P w.drew=.ok (fX.map ρ.val).toArray w.drew:=by
    rw[<-hv]; exact ie (w:=w.drew) (r.heap rfl) hold (fun k hk=>by simp only[iY,Option.some.injEq]at hk; omega)
   split at h
   ·simp only[zA2,Option.some.injEq,Prod.mk.injEq]at h
    obtain⟨g,hg,rfl,rfl⟩:=h
    have hcap:cap'=cap:=by simpa[Ren.val]using (congrArg (fun v=>match v with|.slice _ _ c=>c|_=>0) hv).symm
    subst hcap
    exact qW r hgt hsm hb hsz hz hzl hod (happ _ rfl) hg hln
   ·rename_i a
    simp only[zA2]at h
    obtain⟨b,hb',h⟩:=h
    cases b with
    |true =>
     simp only[zA2,Option.some.injEq,Prod.mk.injEq]at h
     obtain⟨g,hg,rfl,rfl⟩:=h
     rw[tq r (BV hb')]at hv
     have hcap:cap'=cap:=by simpa using (congrArg (fun v=>match v with|.slice _ _ c=>c|_=>0) hv).symm
     subst hcap
     exact qW r hgt hsm hb hsz hz hzl hod (happ _ rfl) hg hln
    |false =>
     simp only[zA2]at h
     obtain⟨⟨v0,e0,o0⟩,hc0,h⟩:=h
     obtain⟨ho,hs⟩:=JB hb'
     obtain⟨v1,e1,hc1⟩:=nW ho
     have:(v0,e0,o0)=(v1,e1,true):=by rw[JW hc0]at hc1; simpa using hc1
     cases this
     simp only at h
     split at h
     ·rename_i hcond
      obtain⟨rfl,hend⟩:=hcond
      have hend:=iq hend
      simp only[zA2,Option.some.injEq,Prod.mk.injEq]at h
      obtain⟨g,hg,rfl,rfl⟩:=h
      have hcap:cap'=cap+ρ.ex a.block/\(len+n<=cap'->base'=some ⟨ρ.blk a.block,a.off+ρ.sh a.block,none⟩):=by
       obtain⟨ab,ao,asp⟩:=a; simp only at hs
       rcases hs with rfl|⟨k,rfl,rfl,rfl⟩
       ·simp only[Ren.val,Ren.offS_none,Ren.spS_none,Ren.capS_none,Value.slice.injEq,true_and]at hv
        exact⟨hv.2.symm,fun _=>hv.1.symm⟩
       ·simp only[Ren.val,Ren.nU,Ren.oP,and_self,true_and,if_true,Value.slice.injEq]at hv
        refine⟨by rw[<-hv.2,zB8],fun hle=>?_⟩
        rw[<-hv.1]
        have cR:ρ.ex ab≠0:=by rw[hv.2]; omega
        rw[if_neg cR,Ren.Pv cR]
      obtain⟨hcap,hbase⟩:=hcap
      by_cases hin:len+n<=cap'
      ·obtain⟨c,fz,hC⟩:=r.cells hc0
       obtain⟨cc,ff,hg0⟩:=dW hc0
       obtain⟨hsize,hfz⟩:=hC.open_ rfl
       rw[bd hsz]at hsize
       have har:(len+n)*sz<=(cap+ρ.ex a.block)*sz:=Nat.mul_le_mul_right _ (by omega)
       have hadd:(len+n)*sz=len*sz+n*sz:=Nat.add_mul _ _ _
       have hadd2:(cap+ρ.ex a.block)*sz=cap*sz+ρ.ex a.block*sz:=Nat.add_mul _ _ _
       have hsub:(cap+ρ.ex a.block-(len+n))*sz=(cap+ρ.ex a.block)*sz-(len+n)*sz:=Nat.sub_mul _ _ _
       obtain⟨w1,h1,h2,h3,h4,h5,h6,h7⟩:=pr (P:=P) (ρ.blk a.block) (a.off+ρ.sh a.block+len*sz) e0 fz (new.map ρ.val) 0 w c hC.at_ (by simp[hnew]; omega)
        (fun y hy=>by
         obtain⟨y0,hy0,rfl⟩:=zB5.1 hy
         rw[Ren.val_one]; exact zC6.1 hone2 y0 hy0)
        (fun j h1 h2=>hC.Mr (by omega) (by rw[bd hsz]; simp only[zD7,hnew]at h2; omega))
       unfold cF at hg
       split at hg
       ·rename_i hsc
        simp only[Option.some.injEq]at hg
        subst hg
        have hsc':∀ y∈fX++new,aS H.next y=true:=bL.1 hsc
        have hext:=Ren.gN ρ H.next (ρ.blk a.block) (a.off+ρ.sh a.block) (cap+ρ.ex a.block-(len+n))
        refine⟨ρ.at H.next (ρ.blk a.block) (a.off+ρ.sh a.block) (cap+ρ.ex a.block-(len+n)),w1,St.move r _ _ (bD hg0) (nc hc0) ?_ ?_ h2 h3 h4 h5 h6 h7,?_⟩
        ·simp only[ki,RV.n_ofList,RV.cb]
         intro i hi
         exact hsc' _ (by simp only[List.getD,zB1 hi,Option.getD_some]; exact zG7 _)
        ·simp only[Fits]
         refine⟨_,fz,rfl,fun i hi=>?_,fun h=>(by cases h),fun _ _=>⟨?_,?_⟩⟩
         ·simp only[RV.n_ofList]at hi
          have hi':=hi
          simp only[zB4,hol,hnew]at hi'
          rw[RV.cb,Ren.at_sh,gE hext _ (hsc' _ (by simp only[List.getD,zB1 hi,Option.getD_some]; exact zG7 _))]
          rw[IE _ _ _ _ (by simp[hnew]; omega)]
          simp only[zE1,zD7,hnew]
          by_cases hil:i<len*sz
          ·rw[if_neg (by omega)]
           have hl0:len≠0:=by rintro rfl; rw[zF7]at hil; exact absurd hil (Nat.not_lt_zero _)
           simp only[cO,if_neg hl0,zA1,zA2]at hold
           obtain⟨⟨v2,e2,o2⟩,hc2,hold⟩:=hold
           rw[hc1]at hc2
           cases hc2
           simp only at hold
           split at hold
           ·rename_i hfit
            have hfit:=iq hfit
            simp only[Option.some.injEq]at hold
            subst hold
            have hcc:=hC.cell (a.off+i) (by omega)
            rw[show i+(a.off+ρ.sh a.block)=a.off+i+ρ.sh a.block from by omega,hcc]
            rw[List.getD,List.getElem?_append_left (by simpa using hil)]
            have:=RV.pV v0 a.off (len*sz) i hil
            rw[List.getD]at this
            rw[this]
           ·cases hold
          ·rw[if_pos (by omega)]
           rw[List.getD,List.getElem?_append_right (by omega),hol]
           rw[show i+(a.off+ρ.sh a.block)-(a.off+ρ.sh a.block+len*sz)=i-len*sz from by omega]
           have hlt:i-len*sz<new.length:=by omega
           simp[hlt]
         ·simp only[Ren.at_sh,Ren.at_ex,RV.n_ofList,zB4,hol,hnew,wk,bd hsz]
          refine⟨by omega,fun hex=>?_⟩
          have hrm:=hC.room rfl (by omega)
          rw[bd hsz]at hrm
          omega
         ·intro i h1 h2
          simp only[Ren.at_sh,Ren.at_ex,RV.n_ofList,zB4,hol,hnew,bd hsz]at h1 h2
          exact hfz i (by omega) (by rw[bd hsz]; omega)
        ·rw[mi,hbase hin,qU (new:=new.map ρ.val) hin (happ w rfl) (w1:=w1) (by rw[dR]; exact h1)]
         rw[hcap,show len+n+(cap+ρ.ex a.block-(len+n))=cap+ρ.ex a.block from by omega]
       ·cases hg
      ·have hdel:=St.del r a.block (nc hc0)
       have hn:=qW (x:=x) (zeros:=zeros) hdel.rel hin hsm hb hsz hz hzl hod (happ _ rfl) hg hln
       obtain⟨ρ1,w1,hst,hrun⟩:=hn
       exact⟨ρ1,w1,hdel.trans hst,hrun⟩
     ·cases h
  ·cases h
end
section
variable {P : Program} {ρ : Ren} {H : aa} {w : World}
theorem Ah (ρ:Ren) (base:Option Addr) (len cap:Nat):∃ base' cap',ρ.val (.slice base len cap)=.slice base' len cap':=by
 cases base with
 |none=>exact⟨none,cap,by simp[Ren.val]⟩
 |some a=>exact⟨_,_,by rw[Ren.val]⟩
theorem D9 (r:Rel P ρ H w) {ts:Array TypeId} {ty:TypeId} {s x v:Value} {H1:aa} (h:eP P H ts s x=some (v,H1)) :
  kj P ρ H w (Builtin.append_ ts ty #[ρ.val s,ρ.val x]) v H1:=by
 unfold eP at h
 split at h
 ·rename_i st xt rest base len cap hts
  simp only[zA1,zA2]at h
  obtain⟨d,hu,h⟩:=h
  split at h
  ·rename_i e
   simp only[zA2]at h
   obtain⟨sz,hsz,by1,hby,z,hz,b,hbt,h⟩:=h
   obtain⟨hzr,hza⟩:=dO (w:=w) hz
   obtain⟨base',cap',hv⟩:=Ah ρ base len cap
   split at h
   ·rename_i l
    split at h
    ·rename_i hc
     obtain⟨c1,c2,c3⟩:=hc
     obtain⟨s1,s2⟩:=xK c2
     have hxu:∃ k,P.underlying xt=some (.int k):=by
      unfold fj at hbt
      split at hbt
      ·rename_i k hk; exact⟨k,hk⟩
      ·cases hbt
      ·cases hbt
     obtain⟨k,hxu⟩:=hxu
     have hlb:l*(by1:Int)<=140737488351232:=by
      have h1:l.toNat*by1<=(len+l.toNat)*by1:=Nat.mul_le_mul_right _ (by omega)
      have h2:l*(by1:Int)=((l.toNat*by1:Nat):Int):=by rw[Int.natCast_mul,Int.toNat_of_nonneg c1]
      rw[h2]; omega
     have happ:∀ w':World,w'.heap=w.heap->(if l.toNat*sz=0 then (pure #[]:Sem (Array Value)) else do pure (Builtin.zeroCells (<-zeroValue e).cells l.toNat)).run P w'=.ok ((aV z.cells.toList l.toNat).map ρ.val).toArray w':=by
      intro w' _
      rw[nj ρ _ (sd ρ hza)]
      by_cases h0:l.toNat*sz=0
      ·have:(aV z.cells.toList l.toNat)=[]:=zE9 (by rw[jm,c3]; exact h0)
       simp[h0,this]
      ·have hzc:Builtin.zeroCells z.cells l.toNat=(aV z.cells.toList l.toNat).toArray:=by
        unfold Builtin.zeroCells
        exact jJ _ _
       simp[h0,(dO (w:=w') hz).1,hzc]
     obtain⟨ρ1,w1,hst,hrun⟩:=sB (x:=.int .i64 l) (zeros:=true) r hv c2 hby hsz hz c3 (by rw[jm,c3]) happ h
     refine⟨ρ1,w1,hst,?_⟩
     rw[<-hrun,hv,Ren.val]
     exact FE hts hu hsz hxu rfl c1 (by omega) hby hlb
    ·cases h
   ·cases h
   ·simp only[zA2]at h
    obtain⟨n,hn,new,hnew,h⟩:=h
    split at h
    ·rename_i hc
     obtain⟨c1,c2,c3⟩:=hc
     have hxu:∃ d,P.underlying xt=some d/\∀ k,d≠.int k:=by
      unfold fj at hbt
      split at hbt
      ·cases hbt
      ·rename_i d cR hd; exact⟨d,hd,fun k e=>cR k e⟩
      ·cases hbt
     obtain⟨d,hxu,hd⟩:=hxu
     obtain⟨ρ1,w1,hst,hrun⟩:=sB (x:=ρ.val x) (zeros:=false) r hv c2 hby hsz hz c3 c1 (fun w' hw'=>ie (w:=w') (r.heap hw') hnew (fun k hk=>by rw[hn]at hk; cases hk; exact zA8 _)) h
     refine⟨ρ1,w1,hst,?_⟩
     rw[<-hrun]
     exact append_eq hts hu hsz hxu hd hv (rE hn)
    ·cases h
  ·cases h
 ·cases h
theorem Ds {H:aa} {sz:Nat} {v:Value} {l:List Value} (h:cO H sz 0 v=some l):l=[]:=by
 unfold cO at h
 split at h
 ·rw[if_pos rfl]at h
  simpa using h.symm
 ·simpa using h.symm
 ·simpa[ay]using h.symm
 ·cases h
theorem JK (r:Rel P ρ H w) {ts:Array TypeId} {ty:TypeId} {d s v:Value} {H1:aa} (h:Ai P H ts d s=some (v,H1)) :
  kj P ρ H w (Builtin.copy_ ts ty #[ρ.val d,ρ.val s]) v H1:=by
 unfold Ai at h
 split at h
 ·rename_i dt rest base dl cap hts
  obtain⟨lt⟩:=ts
  simp only at hts
  subst hts
  simp only[zA1,zA2]at h
  obtain⟨dd,hu,h⟩:=h
  split at h
  ·rename_i e
   simp only[zA2]at h
   obtain⟨sz,hsz,sl,hsl,cs,hcs,h⟩:=h
   have hmn:∀ k,iY s=some k->zF2 sl dl<=k:=fun k hk=>by rw[hsl]at hk; cases hk; exact Nat.min_le_left _ _
   cases base with
   |none =>
    simp only[Option.some.injEq,Prod.mk.injEq]at h
    obtain⟨rfl,rfl⟩:=h
    refine kj.same r ?_
    simp[Builtin.copy_,ak hu,Ren.val,rE hsl,bX hsz,ie r hcs hmn,goInt]
   |some a =>
    simp only at h
    split at h
    case isFalse hsp =>
     have hd0:dl=0:=Nat.eq_zero_of_not_pos (fun hp=>hsp (.inr (by omega)))
     subst hd0
     simp only[Option.some.injEq,Prod.mk.injEq]at h
     obtain⟨rfl,rfl⟩:=h
     refine kj.same r ?_
     have hm0:zF2 sl 0=0:=Nat.min_eq_right (zB7 _)
     rw[hm0]at hcs hmn
     have hcs0:=Ds hcs
     subst hcs0
     have hst:∀ b:Addr,(storeCells b []).run P w=.ok () w:=fun _=>rfl
     simp only[Builtin.copy_,List.getElem?_toArray,zF5,zG4,Sem.run_bind,ak hu,Result.andThen_ok,rE hsl,bX hsz,hm0,ie r hcs hmn,zF4,hst,Sem.run_pure,goInt,Ren.val]
     rfl
    rename_i hsp
    simp only[zA2,Option.some.injEq,Prod.mk.injEq]at h
    obtain⟨g,hg,rfl,rfl⟩:=h
    obtain⟨w1,hst,hrun⟩:=nB r hg
    refine⟨ρ,w1,hst,?_⟩
    have hv:∃ c,ρ.val (.slice (some a) dl cap)=.slice (some ⟨ρ.blk a.block,a.off+ρ.sh a.block,none⟩) dl c:=⟨_,by rw[Ren.val,Ren.nq hsp,Ren.oH hsp]⟩
    obtain⟨c,hv⟩:=hv
    rw[hv]
    simp only[Builtin.copy_,List.getElem?_toArray,zF5,zG4,Sem.run_bind,ak hu,Result.andThen_ok,rE hsl,bX hsz,ie r hcs hmn,hrun,Sem.run_pure,goInt,Ren.val]
  ·cases h
 ·cases h
theorem MI (r:Rel P ρ H w) {ts:Array TypeId} {ty t:TypeId} {rest:List TypeId} {x v:Value} (hts:ts.toList=t::rest) (h:EW P H t x=some v) :
  (Builtin.len_ ts ty #[ρ.val x]).run P w=.ok (ρ.val v) w:=by
 obtain⟨lt⟩:=ts
 simp only at hts
 subst hts
 unfold EW at h
 split at h
 ·rename_i e a n c hu
  simp only[Option.some.injEq]at h
  subst h
  obtain⟨b',c',hv⟩:=Ah ρ a n c
  rw[hv]
  simp[Builtin.len_,ak hu,goInt,Ren.val]
 ·rename_i s hu
  simp only[Option.some.injEq]at h
  subst h
  simp[Builtin.len_,ak hu,goInt,Ren.val]
 ·rename_i k e hu
  simp only[Option.some.injEq]at h
  subst h
  simp[Builtin.len_,ak hu,goInt,Ren.val]
 ·rename_i k e m hu
  split at h
  ·rename_i es clock op v0 hg
   simp only[Option.some.injEq]at h
   subst h
   obtain⟨o',hw,hf⟩:=r.obj _ _ hg
   simp only[Fits]at hf
   subst hf
   simp[Builtin.len_,ak hu,goInt,Ren.val,getObj,Sem.run,hw]
  ·cases h
 ·rename_i n e hu
  simp only[Option.some.injEq]at h
  subst h
  simp[Builtin.len_,ak hu,goInt,Ren.val]
 ·cases h
theorem Mg (r:Rel P ρ H w) {ts:Array TypeId} {ty t:TypeId} {rest:List TypeId} {x v:Value} (hts:ts.toList=t::rest) (h:La P H t x=some v) :
  (Builtin.cap_ ts ty #[ρ.val x]).run P w=.ok (ρ.val v) w:=by
 obtain⟨lt⟩:=ts
 simp only at hts
 subst hts
 unfold La at h
 split at h
 ·rename_i e n c hu
  simp only[Option.some.injEq]at h
  subst h
  simp[Builtin.cap_,ak hu,goInt,Ren.val]
 ·rename_i e a n c hu
  split at h
  ·rename_i hx
   simp only[Option.some.injEq]at h
   subst h
   rw[tq r hx]
   simp[Builtin.cap_,ak hu,goInt,Ren.val]
  ·cases h
 ·rename_i n e hu
  simp only[Option.some.injEq]at h
  subst h
  simp[Builtin.cap_,ak hu,goInt,Ren.val]
 ·cases h
theorem KN {ts:Array TypeId} {ty:TypeId} {args:List Value} {v:Value} (h:fT true args=some v):(Builtin.max_ ts ty (args.map ρ.val).toArray).run P w=.ok (ρ.val v) w:=by
 unfold fT at h
 split at h
 ·rename_i k x k' y
  simp only[if_true,Option.some.injEq]at h
  subst h
  simp[Builtin.max_,Builtin.max2,Ren.val]
 ·cases h
theorem L4 {ts:Array TypeId} {ty:TypeId} {args:List Value} {v:Value} (h:fT false args=some v):(Builtin.min_ ts ty (args.map ρ.val).toArray).run P w=.ok (ρ.val v) w:=by
 unfold fT at h
 split at h
 ·rename_i k x k' y
  simp only[zC4,if_false,Option.some.injEq]at h
  subst h
  simp[Builtin.min_,Builtin.min2,Ren.val]
 ·cases h
def gz (ρ1:Ren) (x:cP) (res:Result Next) (w1:World):Prop :=
 match x with
 |.value v=>res=.ok (.value (ρ1.val v)) w1
 |.skip=>res=.ok .skip w1
 |.enter f args=>res=.ok (.enter f (args.map ρ1.val).toArray) w1
 |.round rd=>∃ fn,res=.ok (.round (ρ1.blk rd.l) fn (ρ1.tmps rd.env) rd.assign rd.body) w1
 |.panic v=>res=.halt (.panic (ρ1.val v)) w1
def j4 (P:Program) (ρ:Ren) (H:aa) (w:World) (s:Sem Next) (x:cP) (H1:aa):Prop :=
 ∃ ρ1 w1,St P ρ H w ρ1 H1 w1/\gz ρ1 x (s.run P w) w1
theorem j4.of {s:Sem Value} {x:cP} {H1:aa} (h:ER P ρ H w s x H1):j4 P ρ H w (do pure (.value (<-s))) x H1:=by
 obtain⟨ρ1,w1,hst,hr⟩:=h
 refine⟨ρ1,w1,hst,?_⟩
 cases x<;>simp_all [gz]
theorem j4.J3 {s:Sem Value} {v:Value} {H1:aa} (h:kj P ρ H w s v H1):j4 P ρ H w (do pure (.value (<-s))) (.value v) H1:=j4.of (ER.of h)
theorem j4.val (r:Rel P ρ H w) {s:Sem Value} {v:Value} (h:s.run P w=.ok (ρ.val v) w):j4 P ρ H w (do pure (.value (<-s))) (.value v) H:=j4.of (ER.val r h)
end
section
variable {P : Program} {ρ : Ren} {H : aa} {w : World}
theorem E4 {e:TypeId} (hc:P.cellsOf e=1) (count off n:Nat) (hn:off+n<=count):liesAt P P.depth e (count / P.cellsOf e) off e n=true:=by
 have hd:P.depth=(2*(P.types.size+Made.depth)+1)+1:=rfl
 rw[hd]
 simp only[liesAt,Bool.or_eq_true]
 left
 rw[hd]
 simp[rowAt,hc,hn,sameLayout,Nat.mod_one]
theorem FD {u:TypeId} {sz:Nat} (hc:P.cellsOf u=sz) (h0:0<sz):liesAt P P.depth u (sz / P.cellsOf u) 0 u 1=true:=by
 have hd:P.depth=(2*(P.types.size+Made.depth)+1)+1:=rfl
 rw[hd]
 simp only[liesAt,Bool.or_eq_true]
 left
 rw[hd]
 simp[rowAt,hc,sameLayout,Nat.div_self h0]
 omega
theorem od:∀ {cs:List Value} {l:List UInt8},cG cs=some l->l.length=cs.length/\∀ (j:Nat) v,cs[j]?=some v->∃ n,v=.int .u8 n/\l[j]?=some (UInt8.ofNat n.toNat)
 |[],l,h=>by cases h; exact⟨rfl,fun j v h=>by simp at h⟩
 |v::cs,l,h=>by
  cases v with
  |int k n =>
   cases k<;>simp only[cG,zB3,reduceCtorEq]at h
   obtain⟨r,hr,rfl⟩:=h
   obtain⟨h1,h2⟩:=od hr
   refine⟨by simp[h1],fun j v hv=>?_⟩
   cases j with
   |zero=>simp only[zF5,Option.some.injEq]at hv; subst hv; exact⟨n,rfl,rfl⟩
   |succ j=>simpa using h2 j v (by simpa using hv)
  |_=>simp[cG]at h
theorem xO:∀ (l:List UInt8) (a:Addr) (acc:ByteArray),(∀ j x,l[j]?=some x->∃ n,w.cell? (a.add j)=some (.int .u8 n)/\x=n.toNat.toUInt8) ->
  (loadBytes a acc l.length).run P w=.ok ⟨acc.data++l.toArray⟩ w
 |[],a,acc,_=>by simp[loadBytes]
 |x::l,a,acc,h=>by
  obtain⟨n,h0,hx⟩:∃ n,w.cell? a=some (.int .u8 n)/\x=n.toNat.toUInt8:=by
   have:=h 0 x rfl
   simpa[Addr.add]using this
  have ih:=xO l (a.add 1) (acc.push x) (fun j y hy=>by
   have:=h (j+1) y (by simpa using hy)
   have e:(a.add 1).add j=a.add (j+1):=by
    unfold Addr.add
    by_cases hj:j=0
    ·subst hj; simp
    ·simp[hj]; omega
   rw[e]; exact this)
  simp only[zB0,loadBytes,Sem.run_bind,run_load,h0,Result.andThen,<-hx]
  rw[ih]
  congr 1
  apply ByteArray.ext
  simp[ByteArray.push]
theorem yt {x v:Value} {ts:Array TypeId} {ty:TypeId} (h:nb x=some v):(Builtin.unsafeSliceData_ ts ty ([x].map ρ.val).toArray).run P w=.ok (ρ.val v) w:=by
 unfold nb at h
 split at h
 ·cases h; rfl
 ·rename_i n off sp len c
  cases h
  have h1:=Ren.yz (ρ:=ρ) (a:=⟨n,off,sp⟩) (len:=len) (cap:=c+1) (Nat.succ_ne_zero c)
  have h2:=Ren.BF (ρ:=ρ) (a:=⟨n,off,sp⟩) (len:=len) (cap:=c+1) (Nat.succ_ne_zero c)
  have h3:=Ren.Bt (ρ:=ρ) (a:=⟨n,off,sp⟩) (len:=len) (cap:=c+1)
  simp only[zC0,zF4,Ren.val,h1,h2]
  have h4:ρ.oP ⟨n,off,sp⟩ len (c+1)≠0:=by omega
  exact Lib.run_unsafeSliceData_row w ts ty ⟨ρ.blk n,off+ρ.sh n,none⟩ len _ h4
 ·cases h
theorem Jp {b:Nat} {c:Array Value} {e:TypeId} {fz:Nat × Nat} (h:w.heap[b]?=some (.cells c e fz)) (off n:Nat) (hn:n≠0) :
  (∃ fz',(w.freeze ⟨b,off,none⟩ n).heap[b]?=some (.cells c e fz'))/\(w.freeze ⟨b,off,none⟩ n).heap.size=w.heap.size/\(∀ b',b'≠b->(w.freeze ⟨b,off,none⟩ n).heap[b']?=w.heap[b']?) /\
   (w.freeze ⟨b,off,none⟩ n).os=w.os/\(w.freeze ⟨b,off,none⟩ n).tape=w.tape/\(w.freeze ⟨b,off,none⟩ n).output=w.output:=by
 unfold World.freeze
 rw[if_neg hn]
 refine⟨?_,by simp,fun b' hb=>?_,rfl,rfl,rfl⟩
 ·obtain⟨lo,hi⟩:=fz
  simp[Array.getElem?_modify,h]
 ·simp only[Array.getElem?_modify]
  rw[if_neg (fun e=>hb e.symm)]
theorem yH {pt ty:TypeId} {rest:List TypeId}:(Builtin.unsafeString_ ⟨pt::rest⟩ ty #[.pointer none,.int .i64 0]).run P w=.ok (.string .empty) w:=by
 have hmax:IntKind.i64.max=9223372036854775807:=rfl
 obtain⟨A,B,C,hdef⟩:∃ (A:Sem PUnit) (B:Sem PUnit) (C:Sem Value),Builtin.unsafeString_ ⟨pt::rest⟩ ty #[.pointer none,.int .i64 0] =
   (do
    let n <-asInt (.int .i64 0)
    if n<0 then A
    if n>IntKind.i64.max then B
    if n=0 then pure (.string .empty)
    else C):=⟨_,_,_,rfl⟩
 rw[hdef]
 simp[asInt,asIntOf,hmax]
theorem oT {pt ty : TypeId} {rest : List TypeId} {a : Addr} {n : Int} : ∃ (A : Sem PUnit) (B : Sem PUnit) (C : Sem Value), Builtin.unsafeString_ ⟨pt :: rest⟩ ty #[.pointer (some a), .int .i64 n] =
   (do
    let n <-asInt (.int .i64 n)
    if n<0 then A
    if n>IntKind.i64.max then B
    if n=0 then pure (.string .empty)
    else if <-variablesAt a (<-elemOf pt) n.toNat then do
     let s <-loadBytes a .empty n.toNat
     freeze a n.toNat
     pure (.string s)
    else C):=⟨_,_,_,rfl⟩
theorem se {ts:Array TypeId} {pt ty e:TypeId} {rest:List TypeId} (hts:ts.toList=pt::rest) (hp:P.underlying pt=some (.pointer e)) (hc:P.cellsOf e=1) (g off cells:Nat) (hsh:w.shape? g=some (e,cells)) (l:List UInt8) (h0:l.length≠0) (hn:off+l.length<=cells) (h63:l.length<=9223372036854775807)
  (hcell:∀ j x,l[j]?=some x->∃ n,w.cell? ((⟨g,off,none⟩:Addr).add j)=some (.int .u8 n)/\x=n.toNat.toUInt8) :
  (Builtin.unsafeString_ ts ty #[.pointer (some ⟨g,off,none⟩),.int .i64 l.length]).run P w=.ok (.string ⟨l.toArray⟩) (w.freeze ⟨g,off,none⟩ l.length):=by
 have hlb:=xO (P:=P) l ⟨g,off,none⟩ .empty hcell
 have hlies:=E4 (P:=P) hc cells off l.length hn
 have h63':¬(9223372036854775807:Int)<(l.length:Int):=by omega
 have hmax:IntKind.i64.max=9223372036854775807:=rfl
 have hneg:¬(l.length:Int)<0:=by omega
 have hl:l≠[]:=fun e=>h0 (by rw[e]; rfl)
 obtain⟨ts⟩:=ts
 simp only at hts
 subst hts
 obtain⟨A,B,C,hd⟩:=oT (pt:=pt) (ty:=ty) (rest:=rest) (a:=⟨g,off,none⟩) (n:=(l.length:Int))
 rw[hd]
 simp[asInt,asIntOf,hmax,h63',hneg,hl,variablesAt,hsh,elemOf,run_underlying hp,hlies,hlb]
theorem xB (r:Rel P ρ H w) {ts:Array TypeId} {ty:TypeId} {p n v:Value} {H1:aa} (h:nF P H ts p n=some (v,H1)) :
  kj P ρ H w (Builtin.unsafeString_ ts ty ([p,n].map ρ.val).toArray) v H1:=by
 unfold nF at h
 have hmax:IntKind.i64.max=9223372036854775807:=rfl
 split at h
 ·rename_i pt rest hts
  simp only[Option.some.injEq,Prod.mk.injEq]at h
  obtain⟨rfl,rfl⟩:=h
  refine kj.same r ?_
  obtain⟨ts⟩:=ts
  simp only at hts
  subst hts
  simp only[zC0,zF4,Ren.val]
  exact yH
 ·rename_i pt rest b off n hts
  simp only[zA1,zA2]at h
  obtain⟨u,hpt,h⟩:=h
  split at h
  ·rename_i e'
   simp only[zA2]at h
   obtain⟨u2,hu2,h⟩:=h
   split at h
   ·simp only[zA2]at h
    obtain⟨u3,hsz,h⟩:=h
    split at h
    ·split at h
     ·rename_i z e q o c hg
      split at h
      ·rename_i hn0
       subst hn0
       simp only[Option.some.injEq,Prod.mk.injEq]at h
       obtain⟨rfl,rfl⟩:=h
       refine kj.same r ?_
       obtain⟨ts⟩:=ts
       simp only at hts
       subst hts
       simp only[zC0,zF4,Ren.val]
       obtain⟨A,B,C,hd⟩:=oT (pt:=pt) (ty:=ty) (rest:=rest) (a:=⟨ρ.blk b,off+ρ.sh b,none⟩) (n:=0)
       rw[hd]
       simp[asInt,asIntOf,hmax]
      ·split at h
       ·rename_i hc
        obtain⟨he,hn,hn9,hle⟩:=hc
        subst he
        have hle:=iq hle
        simp only[zA2,Option.some.injEq,Prod.mk.injEq]at h
        obtain⟨l,hl,rfl,rfl⟩:=h
        obtain⟨hlen,hbyte⟩:=od hl
        rw[RV.length_gets]at hlen
        obtain⟨o',hw,hfit⟩:=r.obj _ _ hg
        simp only[Fits]at hfit
        obtain⟨cs,fz,rfl,hcs,hcl,hop⟩:=hfit
        have hsize:ρ.sh b+c.n<=cs.size:=by
         cases o with
         |false=>obtain⟨k1,k2,_⟩:=hcl rfl; omega
         |true=>have:=(hop rfl trivial).1.1; omega
        have hnl:n=(l.length:Int):=by omega
        obtain⟨⟨fz',m1⟩,m2,m3,m4,m5,m6⟩:=Jp hw (off+ρ.sh b) l.length (by omega)
        have hnz:¬Fz (H.get b):=ru hg (by cases o<;>rfl)
        refine⟨ρ,_,St.cE r (bD hg) hnz (o:=⟨.cells z e (1,q),true,c⟩) (o':=.cells cs e fz') ?_ ?_ m1 m2 m3 m4 m5 m6,?_⟩
        ·exact (r.dom _ _ hg).2
        ·simp only[Fits]
         exact⟨cs,_,rfl,hcs,fun h=>(by cases h),fun _ h=>(by cases h)⟩
        ·simp only[zC0,zF4,Ren.val]
         rw[hnl]
         have hsh:w.shape? (ρ.blk b)=some (e,cs.size):=by unfold World.shape?; rw[hw]
         refine se hts hpt (bd hsz) _ _ _ hsh l (by omega) (by omega) (by omega) fun j x hx=>?_
         have hj:j<n.toNat:=by have:=(zG1.1 hx).1; omega
         obtain⟨k,e1,e2⟩:=hbyte j ((c.jK off n.toNat)[j]'(by simpa using hj)) (zB1 _)
         refine⟨k,?_,?_⟩
         ·have e3:c.get (off+j)=.int .u8 k:=by
           have:=RV.pV c off n.toNat j hj
           rw[<-this,zC8,zB1 (by simpa using hj),e1]; rfl
          have:=hcs (off+j) (by omega)
          rw[e3,Ren.val]at this
          have ea:(⟨ρ.blk b,off+ρ.sh b,none⟩:Addr).add j=⟨ρ.blk b,off+j+ρ.sh b,none⟩:=by
           unfold Addr.add
           by_cases hj:j=0
           ·subst hj; simp
           ·simp[hj]; omega
          rw[ea]
          unfold World.cell?
          rw[hw]
          exact this
         ·rw[hx]at e2
          cases e2
          rfl
       ·cases h
     ·cases h
    ·cases h
   ·cases h
  ·cases h
 ·cases h
theorem wT {a:Addr} {c:Array Value} {e:TypeId} {f:Nat × Nat} (hw:w.heap[a.block]?=some (.cells c e f)):(Conv.seenAt a).run P w=.ok a w:=by
 have hsh:w.shape? a.block=some (e,c.size):=by unfold World.shape?; rw[hw]
 have hv:(viewAt a.block).run P w=.ok none w:=by
  unfold viewAt
  simp[hsh]
 unfold Conv.seenAt
 simp[hv]
theorem Cc {s d t:TypeId} {a:Addr} {c:Array Value} {e:TypeId} {f:Nat × Nat} {sz:Nat} (h1:P.underlying s=some (.pointer t)) (h2:P.underlying d=some .unsafePointer) (hw:w.heap[a.block]?=some (.cells c e f)) (hs:a.spot=none) (ho:a.off<c.size) (hz:bh P t=some sz) (h0:0<sz) :
  (Conv.unsafePointer s d (.pointer (some a))).run P w=.ok (.pointer (some a)) w:=by
 have hsh:w.shape? a.block=some (e,c.size):=by unfold World.shape?; rw[hw]
 have hc:(cellsIn a.block).run P w=.ok (some c.size) w:=by
  unfold cellsIn
  simp[hsh]
 have hn:¬c.size<=a.off:=by omega
 have h0':sz≠0:=by omega
 unfold Conv.unsafePointer
 simp[Sem.run_bind,ak h1,ak h2,wT hw,hc,bX hz,hn,h0']
theorem BL {s d u:TypeId} {a:Addr} {c:Array Value} {f:Nat × Nat} {sz:Nat} (h1:P.underlying s=some .unsafePointer) (h2:P.underlying d=some (.pointer u)) (hw:w.heap[a.block]?=some (.cells c u f)) (ho:a.off=0) (hz:bh P u=some sz) (h0:0<sz) (hc:c.size=sz) :
  (Conv.unsafePointer s d (.pointer (some a))).run P w=.ok (.pointer (some a)) w:=by
 have hsh:w.shape? a.block=some (u,c.size):=by unfold World.shape?; rw[hw]
 have hl:=FD (P:=P) (bd hz) h0
 unfold Conv.unsafePointer
 simp[Sem.run_bind,ak h1,ak h2,wT hw,bX hz,variablesAt,hsh,ho,hc,hl]
theorem Di {g:FuncId} {name:String} (h:Ih P g name=true):∃ fn,P.funcs[g]?=some fn/\fn.body.isNone=true/\fn.name=name/\fn.origin = "" := by
 unfold Ih at h
 split at h
 ·rename_i fn hf
  simp only[zA4,beq_iff_eq]at h
  exact⟨fn,hf,h.1.1,h.1.2,h.2⟩
 ·cases h
theorem JF {fn:Func} (h1:fn.name = "internal/abi.NoEscape") (h2:fn.origin = ""):Extern.findNext fn=none/\Extern.find fn=some Extern.AbiNoEscape.same:=by
 unfold Extern.findNext Extern.find
 simp only[h1,h2]
 exact⟨by kernel_rfl,by kernel_rfl⟩
theorem Gm {fn:Func} (h1:fn.name = "internal/bytealg.MakeNoZero") (h2:fn.origin = ""):Extern.findNext fn=none/\Extern.find fn=some (Extern.BytealgMakeNoZero.makeNoZero fn.params fn.resultTypes):=by
 unfold Extern.findNext Extern.find
 simp only[h1,h2]
 exact⟨by kernel_rfl,by kernel_rfl⟩
theorem Dz (r:Rel P ρ H w) {g:FuncId} {args:List Value} {x:cP} {H1:aa} (h:nJ P H g args=some (x,H1)) :
  j4 P ρ H w (callFunc g (args.map ρ.val).toArray) x H1:=by
 unfold nJ at h
 split at h
 ·rename_i a
  split at h
  ·rename_i he
   simp only[Option.some.injEq,Prod.mk.injEq]at h
   obtain⟨rfl,rfl⟩:=h
   obtain⟨fn,hf,hb,hn,ho⟩:=Di he
   obtain⟨f1,f2⟩:=JF hn ho
   refine⟨ρ,w,St.refl r,?_⟩
   have:=run_callFunc_extern hf (by rw[hn]; decide) hb f1 f2 ([Value.pointer (some a)].map ρ.val).toArray w
   simp only[gz]
   rw[this]
   have hs:Extern.AbiNoEscape.same ([Value.pointer (some a)].map ρ.val).toArray=pure (ρ.val (.pointer (some a))):=rfl
   rw[hs]
   simp only[Sem.run_pure,Result.andThen_ok]
  ·cases h
 ·rename_i n
  split at h
  ·rename_i hc
   simp only[zA4,decide_eq_true_eq]at hc
   obtain⟨⟨he,hn0⟩,hn1⟩:=hc
   obtain⟨fn,hf,hb,hn,ho⟩:=Di he
   obtain⟨f1,f2⟩:=Gm hn ho
   rw[hf]at h
   simp only at h
   split at h
   ·rename_i t hts
    split at h
    ·rename_i e hu
     split at h
     ·rename_i hsz
      simp only[Option.some.injEq,Prod.mk.injEq]at h
      obtain⟨rfl,rfl⟩:=h
      have hr:fn.resultTypes=#[t]:=by
       apply Array.ext'
       rw[hts]
      obtain⟨k,rfl⟩:∃ k:Nat,n=k:=⟨n.toNat,by omega⟩
      obtain⟨cs,hrun,hle,hmx⟩:=Lib.run_makeNoZero (P:=P) w fn.params t e hu k (by omega)
      have s1:=rD r
      have s2:=s1.trans (rD s1.rel)
      have s3:=St.new s2.rel ⟨.cells #[] e (0,0),true,⟨[],0⟩⟩ (.cells cs e) 0 cs.size (by intro i hi; exact absurd hi (Nat.not_lt_zero i)) (by
       simp only[Fits]
       refine⟨_,_,rfl,fun i hi=>absurd hi (Nat.not_lt_zero i),fun h=>(by cases h),fun _ _=>⟨⟨?_,fun _=>?_⟩,fun i _ _=>?_⟩⟩
       ·simp[bd hsz]
       ·have:=hmx (by simp only[maxLen]; omega)
        simp only[maxLen]at this
        simp[bd hsz]
        omega
       ·simp only; omega)
      refine⟨_,_,s2.trans s3,?_⟩
      have:=run_callFunc_extern hf (by rw[hn]; decide) hb f1 f2 ([Value.int .i64 (k:Int)].map ρ.val).toArray w
      have ha:([Value.int .i64 (k:Int)].map ρ.val).toArray=#[.int .i64 (k:Int)]:=by simp[Ren.val]
      simp only[gz]
      rw[this,hr,ha,hrun]
      have hv:=mi ρ H.next w.drew.drew.heap.size 0 cs.size k 0
      rw[zB8]at hv
      simp only[Result.andThen_ok,zG6]
      rw[hv]
      rfl
     ·cases h
    ·cases h
   ·cases h
  ·cases h
 ·cases h
end
section
variable {P : Program} {ρ : Ren} {H : aa} {w : World}
theorem M0 (s:ByteArray):∀ (b i:Nat) (acc:Array Value),(∀ v∈acc.toList,af v=true)->∀ v∈(Conv.runesFrom s b i acc).toList,af v=true:=by
 intro b
 induction b with
 |zero=>intro i acc h; simpa[Conv.runesFrom]using h
 |succ b ih =>
  intro i acc h
  simp only[Conv.runesFrom]
  split
  ·refine ih _ _ ?_
   intro v hv
   simp only[Array.toList_push,zB2,zA5]at hv
   rcases hv with hv|rfl
   ·exact h v hv
   ·rfl
  ·exact h
theorem L9 (r:Rel P ρ H w) {e:TypeId} {c:List Value} {H1:aa} (h:cF H e c true=some H1) (post:Array Value) (ex:Nat) (hp:post.size=ex*P.cellsOf e) (hr:c.length+ex*P.cellsOf e<=9223372036854775807*P.cellsOf e) :
  St P ρ H w (ρ.at H.next w.heap.size 0 ex) H1 (w.alloc (.cells ((c.map ρ.val).toArray++post) e (c.length+post.size,c.length+post.size+1))):=by
 unfold cF at h
 split at h
 ·rename_i hsc
  simp only[Option.some.injEq]at h
  subst h
  refine St.new r _ _ 0 ex ?_ ?_
  ·simp only[ki,RV.n_ofList,RV.cb]
   intro i hi
   exact bL.1 hsc _ (by simp[List.getD,hi])
  ·simp only[Fits]
   refine⟨_,_,rfl,fun i hi=>?_,fun h=>(by cases h),fun _=>?_⟩
   ·simp only[RV.n_ofList]at hi
    rw[RV.cb,Ren.at_sh,gE (Ren.gN ρ H.next w.heap.size 0 ex) _ (bL.1 hsc _ (by simp[List.getD,hi]))]
    rw[Array.getElem?_append_left (by simpa using hi)]
    simp[List.getD,hi]
   ·simp[hp]
    exact⟨fun _=>hr,by omega⟩
 ·cases h
theorem run_shape (b:Nat):(shape b).run P w=.ok (w.shape? b) w:=rfl
theorem run_freeze (a:Addr) (n:Nat):(freeze a n).run P w=.ok () (w.freeze a n):=rfl
theorem wg (o:Obj):(w.alloc o).heap=w.heap.push o:=rfl
theorem KO (o:Obj):(w.alloc o).heap[w.heap.size]?=some o:=by rw[wg]; simp
theorem Dl (c:Array Value) (e:TypeId):(markStringish ⟨w.heap.size,0,none⟩).run P (w.alloc (.cells c e))=.ok () (w.alloc (.cells c e (c.size,c.size+1))):=by
 have h1:(w.alloc (.cells c e)).shape? w.heap.size=some (e,c.size):=by
  unfold World.shape?
  rw[KO]
 unfold markStringish
 simp only[Sem.run_bind,run_shape,h1,Result.andThen_ok,run_freeze]
 congr 1
 unfold World.freeze
 rw[if_neg (by decide),wg]
 have:∀ f:Obj->Obj,(w.heap.push (.cells c e)).modify w.heap.size f=w.heap.push (f (.cells c e)):=by
  intro f
  apply Array.ext_getElem?
  intro i
  rw[Array.getElem?_modify]
  by_cases hi:w.heap.size=i
  ·subst hi; simp
  ·rw[if_neg hi,Array.getElem?_push,Array.getElem?_push,if_neg (fun h=>hi h.symm),if_neg (fun h=>hi h.symm)]
 simp only[this]
 simp
 rfl
theorem Eg {b:Nat} {c:Array Value} {e:TypeId} (h:w.heap[b]?=some (.cells c e (0,0))) (off:Nat) :
  (markStringish ⟨b,off,none⟩).run P w=.ok () (w.freeze ⟨b,c.size,none⟩ 1)/\(w.freeze ⟨b,c.size,none⟩ 1).heap[b]?=some (.cells c e (c.size,c.size+1))/\(w.freeze ⟨b,c.size,none⟩ 1).heap.size=w.heap.size/\(∀ b',b'≠b->(w.freeze ⟨b,c.size,none⟩ 1).heap[b']?=w.heap[b']?) /\
   (w.freeze ⟨b,c.size,none⟩ 1).os=w.os/\(w.freeze ⟨b,c.size,none⟩ 1).tape=w.tape:=by
 have h1:w.shape? b=some (e,c.size):=by
  unfold World.shape?
  rw[h]
 refine⟨?_,?_,?_,fun b' hb=>?_,?_,?_⟩
 ·unfold markStringish
  simp only[Sem.run_bind,run_shape,h1,Result.andThen_ok,run_freeze]
 ·unfold World.freeze
  rw[if_neg (by decide)]
  simp[Array.getElem?_modify,h]
 ·unfold World.freeze
  rw[if_neg (by decide)]
  simp
 ·unfold World.freeze
  rw[if_neg (by decide)]
  simp only[Array.getElem?_modify]
  rw[if_neg (fun e=>hb e.symm)]
 ·unfold World.freeze; rw[if_neg (by decide)]
 ·unfold World.freeze; rw[if_neg (by decide)]
theorem FI (s:ByteArray):(ay s.data.toList).toArray=s.data.map fun b=>(.int .u8 b.toNat:Value):=by
 unfold ay
 apply Array.ext'
 simp
theorem Fx (r:Rel P ρ H w) {e:TypeId} {s:ByteArray} {g:aa} (hsz:bh P e=some 1) (hg:cF H e (ay s.data.toList) true=some g) (hs:s.size<=1000000000) :
  kj P ρ H w (Conv.stringToBytes e s) (.slice (some ⟨H.next,0,none⟩) s.size s.size) g:=by
 have hcut:=q7 s.size 0 e (w.tape w.drawn (.appendCap s.size 0 e))
 obtain⟨ex,hex⟩:∃ ex,(Question.appendCap s.size 0 e).cut (w.tape w.drawn (.appendCap s.size 0 e))=s.size+ex:=⟨_,(Nat.add_sub_cancel' hcut).symm⟩
 have hfo:(Question.appendCap s.size 0 e).forced=false:=rfl
 have hst:=L9 (r.heap (w':=w.drew) rfl) hg (Array.replicate ex (.int .u8 0)) ex (by simp[bd hsz]) (by
  rw[bd hsz,zE8,zE8]
  have:=lS s.size 0 e (w.tape w.drawn (.appendCap s.size 0 e)) (by omega)
  have hl:(ay s.data.toList).length=s.size:=by unfold ay; simp
  omega)
 refine⟨_,_,(rD r).trans hst,?_⟩
 unfold Conv.stringToBytes
 simp only[Sem.run_bind,run_choose,hfo,zC4,if_false,hex]
 have hdrew:({w with drawn:=w.drawn+1}:World)=w.drew:=rfl
 simp only[hdrew,Result.andThen_ok,newRow,Sem.run_bind,run_newObj,Sem.run_pure,zF8]
 have:=Dl (P:=P) (w:=w.drew) ((s.data.map fun b=>(.int .u8 b.toNat:Value))++Array.replicate ex (.int .u8 0)) e
 have e1:((ay s.data.toList).map ρ.val).toArray=s.data.map fun b=>(.int .u8 b.toNat:Value):=by
  rw[<-FI]
  congr 1
  unfold ay
  rw[List.map_map]
  apply List.map_congr_left
  intro b _
  simp[Ren.val]
 refine (congrArg (fun q=>Result.andThen q _) this).trans ?_
 rw[mi,e1]
 simp only[Result.andThen_ok]
 simp[ay]
theorem Gy (r:Rel P ρ H w) {e:TypeId} {s:ByteArray} {g:aa} (hsz:bh P e=some 1) (hg:cF H e (Conv.runesFrom s s.size 0 #[]).toList true=some g) (hs:(Conv.runesFrom s s.size 0 #[]).toList.length<=1000000000) :
  kj P ρ H w (Conv.stringToRunes e s) (.slice (some ⟨H.next,0,none⟩) (Conv.runesFrom s s.size 0 #[]).toList.length (Conv.runesFrom s s.size 0 #[]).toList.length) g:=by
 generalize hel:Conv.runesFrom s s.size 0 #[]=el at hg hs
 have hcut:=q7 el.size 0 e (w.tape w.drawn (.appendCap el.size 0 e))
 obtain⟨ex,hex⟩:∃ ex,(Question.appendCap el.size 0 e).cut (w.tape w.drawn (.appendCap el.size 0 e))=el.size+ex:=⟨_,(Nat.add_sub_cancel' hcut).symm⟩
 have hfo:(Question.appendCap el.size 0 e).forced=false:=rfl
 have hst:=AN (r.heap (w':=w.drew) rfl) hg (Array.replicate ex (.int .i32 0)) ex (by simp[bd hsz]) (by
  rw[bd hsz,zE8,zE8]
  have hl:el.toList.length=el.size:=by simp
  have:=lS el.size 0 e (w.tape w.drawn (.appendCap el.size 0 e)) (by omega)
  omega)
 refine⟨_,_,(rD r).trans hst,?_⟩
 unfold Conv.stringToRunes
 simp only[hel,Sem.run_bind,run_choose,hfo,zC4,if_false,hex]
 have hdrew:({w with drawn:=w.drawn+1}:World)=w.drew:=rfl
 simp only[hdrew,Result.andThen_ok,newRow,Sem.run_bind,run_newObj,Sem.run_pure,zF8]
 have haf:∀ v∈el.toList,af v=true:=by
  rw[<-hel]; exact M0 s s.size 0 #[] (by simp)
 have e1:(el.toList.map ρ.val).toArray=el:=by
  have:el.toList.map ρ.val=el.toList:=by
   conv=>rhs; rw[<-List.map_id el.toList]
   apply List.map_congr_left
   intro v hv
   exact df ρ v (haf v hv)
  rw[this]
 rw[mi,e1]
 simp
 rfl
theorem zo {β:Type} (f:Value->β->Sem (ForInStep β)) (g:Value->β->β):∀ (l:List Value) (b:β),(∀ v∈l,∀ b,(f v b).run P w=.ok (.yield (g v b)) w) ->
  (forIn l.toArray b f).run P w=.ok (l.foldl (fun b v=>g v b) b) w:=by
 intro l
 induction l with
 |nil=>intro b _; simp
 |cons v l ih =>
  intro b h
  have:=ih (g v b) (fun u hu c=>h u (zC7 _ hu) c)
  simp only[List.forIn_toArray]at this ⊢
  simp only[List.forIn_cons,Sem.run_bind,h v (zE5 ..) b,Result.andThen_ok,List.foldl_cons,this]
theorem OV (a:List UInt8) (b:UInt8):(ByteArray.mk a.toArray).push b=⟨(a++[b]).toArray⟩:=by
 simp[ByteArray.push]
theorem JT (a:List UInt8) (b:ByteArray):(ByteArray.mk a.toArray)++b=⟨(a++b.data.toList).toArray⟩:=by
 apply ByteArray.ext
 simp[ByteArray.data_append]
theorem FG (ρ:Ren):∀ (cs:List Value) (l acc:List UInt8),cG cs=some l ->
  (cs.map ρ.val).foldl (fun (s:ByteArray) (v:Value)=>match v with|.int .u8 n=>s.push (UInt8.ofNat n.toNat)|_=>s) ⟨acc.toArray⟩=⟨(acc++l).toArray⟩/\∀ v∈cs.map ρ.val,∃ n,v=.int .u8 n:=by
 intro cs
 induction cs with
 |nil=>intro l acc h; simp only[cG,Option.some.injEq]at h; subst h; simp
 |cons c cs ih =>
  intro l acc h
  unfold cG at h
  split at h
  ·cases ‹c::cs=[]›
  ·rename_i n r heq
   cases heq
   simp only[zB3]at h
   obtain⟨l1,h1,rfl⟩:=h
   obtain⟨e1,e2⟩:=ih l1 (acc++[UInt8.ofNat n.toNat]) h1
   refine⟨?_,?_⟩
   ·simp only[zC0,Ren.val,List.foldl_cons,OV]
    rw[e1]
    simp
   ·intro v hv
    simp only[zC0,zA7]at hv
    rcases hv with rfl|hv
    ·exact⟨n,by rw[Ren.val]⟩
    ·exact e2 v hv
  ·cases h
theorem EU (ρ:Ren):∀ (cs:List Value) (l acc:List UInt8),fp cs=some l ->
  (cs.map ρ.val).foldl (fun (s:ByteArray) (v:Value)=>match v with|.int .i32 n=>s++Utf8.encode n|_=>s) ⟨acc.toArray⟩=⟨(acc++l).toArray⟩/\∀ v∈cs.map ρ.val,∃ n,v=.int .i32 n:=by
 intro cs
 induction cs with
 |nil=>intro l acc h; simp only[fp,Option.some.injEq]at h; subst h; simp
 |cons c cs ih =>
  intro l acc h
  unfold fp at h
  split at h
  ·cases ‹c::cs=[]›
  ·rename_i n r heq
   cases heq
   simp only[zB3]at h
   obtain⟨l1,h1,rfl⟩:=h
   obtain⟨e1,e2⟩:=ih l1 (acc++(Utf8.encode n).data.toList) h1
   refine⟨?_,?_⟩
   ·simp only[zC0,Ren.val,List.foldl_cons,JT]
    rw[e1]
    simp
   ·intro v hv
    simp only[zC0,zA7]at hv
    rcases hv with rfl|hv
    ·exact⟨n,by rw[Ren.val]⟩
    ·exact e2 v hv
  ·cases h
theorem Gn (r:Rel P ρ H w) {a:Option Addr} {len cap:Nat} {cs:List Value} {l:List UInt8} (hc:cO H 1 len (.slice a len len)=some cs) (hl:fp cs=some l) :
  (Conv.runesToString (ρ.val (.slice a len cap))).run P w=.ok (.string ⟨l.toArray⟩) w:=by
 have hf:=ie r hc (fun k hk=>by simp only[iY,Option.some.injEq]at hk; omega)
 cases a with
 |none =>
  simp only[cO,Option.some.injEq]at hc
  subst hc
  simp only[fp,Option.some.injEq]at hl
  subst hl
  simp only[Ren.val,Conv.runesToString,Sem.run_pure]
  rfl
 |some a =>
  simp only[Ren.val,Builtin.firstCells,zE8]at hf
  replace hf:(loadCells ⟨ρ.blk a.block,ρ.nU a len cap+ρ.sh a.block,ρ.zc a len cap⟩ len).run P w=.ok (cs.map ρ.val).toArray w:=by
   cases len with
   |zero=>exact hf
   |succ len=>rw[Ren.nq (.inr (Nat.succ_ne_zero _)),Ren.oH (.inr (Nat.succ_ne_zero _))]at hf ⊢; exact hf
  simp only[Ren.val,Conv.runesToString,Sem.run_bind,hf,Result.andThen_ok]
  obtain⟨e1,e2⟩:=EU ρ cs l [] hl
  rw[zo _ (fun v s=>match v with|.int .i32 n=>s++Utf8.encode n|_=>s) _ _ (fun v hv b=>by
   obtain⟨n,rfl⟩:=e2 v hv
   simp)]
  have e3:ByteArray.empty=⟨([]:List UInt8).toArray⟩:=rfl
  simp only[Result.andThen_ok,Sem.run_pure,e3]
  rw[e1]
  simp
theorem JU (r:Rel P ρ H w) {a:Option Addr} {len cap:Nat} {cs:List Value} {l:List UInt8} (hc:cO H 1 len (.slice a len len)=some cs) (hl:cG cs=some l) :
  (Conv.bytesToString (ρ.val (.slice a len cap))).run P w=.ok (.string ⟨l.toArray⟩) w:=by
 have hf:=ie r hc (fun k hk=>by simp only[iY,Option.some.injEq]at hk; omega)
 cases a with
 |none =>
  simp only[cO,Option.some.injEq]at hc
  subst hc
  simp only[cG,Option.some.injEq]at hl
  subst hl
  simp only[Ren.val,Conv.bytesToString,Sem.run_pure]
  rfl
 |some a =>
  simp only[Ren.val,Builtin.firstCells,zE8]at hf
  replace hf:(loadCells ⟨ρ.blk a.block,ρ.nU a len cap+ρ.sh a.block,ρ.zc a len cap⟩ len).run P w=.ok (cs.map ρ.val).toArray w:=by
   cases len with
   |zero=>exact hf
   |succ len=>rw[Ren.nq (.inr (Nat.succ_ne_zero _)),Ren.oH (.inr (Nat.succ_ne_zero _))]at hf ⊢; exact hf
  simp only[Ren.val,Conv.bytesToString,Sem.run_bind,hf,Result.andThen_ok]
  obtain⟨e1,e2⟩:=FG ρ cs l [] hl
  rw[zo _ (fun v s=>match v with|.int .u8 n=>s.push (UInt8.ofNat n.toNat)|_=>s) _ _ (fun v hv b=>by
   obtain⟨n,rfl⟩:=e2 v hv
   simp)]
  have e3:ByteArray.empty=⟨([]:List UInt8).toArray⟩:=rfl
  simp only[Result.andThen_ok,Sem.run_pure,e3]
  rw[e1]
  simp
theorem AY (r:Rel P ρ H w) {s d:TypeId} {x v:Value} {H1:aa} (h:cj P H s d x=some (v,H1)):kj P ρ H w (convert s d (ρ.val x)) v H1:=by
 unfold cj at h
 split at h
 ·rename_i us k ks n h1 h2
  simp only[Option.some.injEq,Prod.mk.injEq]at h
  obtain⟨rfl,rfl⟩:=h
  refine kj.same r ?_
  simp[convert,Sem.run_bind,ak h1,ak h2,Ren.val,Conv.intToInt]
 ·rename_i us str h1 h2
  simp only[Option.some.injEq,Prod.mk.injEq]at h
  obtain⟨rfl,rfl⟩:=h
  refine kj.same r ?_
  simp[convert,Sem.run_bind,ak h1,ak h2,Ren.val]
 ·rename_i us ks n h1 h2
  simp only[Option.some.injEq,Prod.mk.injEq]at h
  obtain⟨rfl,rfl⟩:=h
  refine kj.same r ?_
  simp[convert,Sem.run_bind,ak h1,ak h2,Ren.val,Conv.intToString]
 ·rename_i us e str h1 h2
  split at h
  ·rename_i h3
   simp only[zA1,zA2]at h
   obtain⟨sz,hsz,h⟩:=h
   split at h
   ·split at h
    ·rename_i hsm
     simp only[zA2,Option.some.injEq,Prod.mk.injEq]at h
     obtain⟨g,hg,rfl,rfl⟩:=h
     obtain⟨ρ1,w1,hst,hr⟩:=Fx r hsz hg (iq hsm)
     refine⟨ρ1,w1,hst,?_⟩
     rw[<-hr]
     simp[convert,Sem.run_bind,ak h1,ak h2,ak h3,Ren.val]
    ·cases h
   ·cases h
  ·rename_i h3
   simp only[zA1,zA2]at h
   obtain⟨sz,hsz,h⟩:=h
   split at h
   ·split at h
    ·rename_i hsm
     simp only[zA2,Option.some.injEq,Prod.mk.injEq]at h
     obtain⟨g,hg,rfl,rfl⟩:=h
     obtain⟨ρ1,w1,hst,hr⟩:=Gy r hsz hg (iq hsm)
     refine⟨ρ1,w1,hst,?_⟩
     rw[<-hr]
     simp[convert,Sem.run_bind,ak h1,ak h2,ak h3,Ren.val]
    ·cases h
   ·cases h
  ·cases h
 ·rename_i e a len cap h1 h2
  simp only[zA1,zA2]at h
  obtain⟨cs,hc,h⟩:=h
  split at h
  ·rename_i h3
   simp only[zB3,Prod.mk.injEq]at h
   obtain⟨l,hl,rfl,rfl⟩:=h
   refine kj.same r ?_
   have:=JU (cap:=cap) r hc hl
   rw[Ren.val,<-this]
   cases a<;>simp[convert,Sem.run_bind,ak h1,ak h2,ak h3,Ren.val]
  ·rename_i h3
   simp only[zB3,Prod.mk.injEq]at h
   obtain⟨l,hl,rfl,rfl⟩:=h
   refine kj.same r ?_
   have:=Gn (cap:=cap) r hc hl
   rw[Ren.val,<-this]
   cases a<;>simp[convert,Sem.run_bind,ak h1,ak h2,ak h3,Ren.val]
  ·cases h
 ·rename_i e0 e a len cap h1 h2
  simp only[zA1,zA2]at h
  obtain⟨u,h3,h⟩:=h
  split at h
  ·split at h
   ·rename_i z ty q c hg
    split at h
    ·rename_i hc
     simp only[zA4]at hc
     obtain⟨hsd,hsp⟩:=hc
     have hsd:=Nat.eq_of_beq_eq_true hsd
     subst hsd
     have he:e0=e:=by rw[h1]at h2; simpa using h2
     subst he
     simp only[Option.some.injEq,Prod.mk.injEq]at h
     obtain⟨rfl,rfl⟩:=h
     obtain⟨o',hw,hfit⟩:=r.obj _ _ hg
     simp only[Fits]at hfit
     obtain⟨cs,fz,rfl,hcs,hcl,_⟩:=hfit
     obtain⟨k1,k2,k3,k4⟩:=hcl trivial
     subst k4
     obtain⟨m1,m2,m3,m4,m5,m6⟩:=Eg (P:=P) hw (ρ.nU a len cap+ρ.sh a.block)
     refine⟨ρ,_,St.cE r (bD hg) (ru hg KZ) (o:=⟨.cells z ty q,true,c⟩) (o':=.cells cs ty (cs.size,cs.size+1)) ?_ ?_ m2 m3 m4 m5 m6 rfl,?_⟩
     ·exact (r.dom _ _ hg).2
     ·simp only[Fits]
      refine⟨cs,_,rfl,hcs,fun h=>(by cases h),fun _ _=>⟨⟨?_,fun h=>absurd k3 h⟩,fun i _ hi=>?_⟩⟩
      ·rw[k1,k2,k3]; simp
      ·rw[k2,k3]at hi; simp only; omega
     ·rw[Ren.val]
      rw[Ren.oH (.inl (Nat.eq_of_beq_eq_true hsp))]
      simp only[convert,Sem.run_bind,ak h1,ak h3,Result.andThen_ok,beq_self_eq_true,m1,Sem.run_pure]
    ·cases h
   ·cases h
  ·cases h
 ·rename_i t h1 h2
  simp only[Option.some.injEq,Prod.mk.injEq]at h
  obtain⟨rfl,rfl⟩:=h
  refine kj.same r ?_
  simp[convert,Conv.unsafePointer,Sem.run_bind,ak h1,ak h2,Ren.val]
 ·rename_i t n off h1 h2
  simp only[zA1,zA2]at h
  obtain⟨sz,hsz,⟨c,e,o⟩,hc,h⟩:=h
  split at h
  ·rename_i hcond
   simp only[zA4]at hcond
   simp only[Option.some.injEq,Prod.mk.injEq]at h
   obtain⟨rfl,rfl⟩:=h
   obtain⟨q1,q2,hg⟩:∃ q1 q2,H.get n=some ⟨.cells q1 e q2,o,c⟩:=by
    unfold aR at hc
    split at hc
    ·rename_i z e' f o' v' hg
     simp only[Option.some.injEq,Prod.mk.injEq]at hc
     obtain⟨rfl,rfl,rfl⟩:=hc
     exact⟨z,f,hg⟩
    ·cases hc
   obtain⟨o',hw,hfit⟩:=r.obj _ _ hg
   simp only[Fits]at hfit
   obtain⟨cs,fz,rfl,hcs,_,_⟩:=hfit
   have hlt:off+ρ.sh n<cs.size:=by
    have:=hcs off (bN hcond.2)
    rcases zC2 (off+ρ.sh n) cs.size with h|h
    ·exact h
    ·rw[Array.getElem?_eq_none h]at this; cases this
   refine kj.same r ?_
   have:=Cc (P:=P) (w:=w) (a:=⟨ρ.blk n,off+ρ.sh n,none⟩) h1 h2 hw rfl hlt hsz (bN hcond.1)
   simp only[Ren.val,convert,Sem.run_bind,ak h1,ak h2,Result.andThen_ok]
   exact this
  ·cases h
 ·rename_i t h1 h2
  simp only[Option.some.injEq,Prod.mk.injEq]at h
  obtain⟨rfl,rfl⟩:=h
  refine kj.same r ?_
  simp[convert,Conv.unsafePointer,Sem.run_bind,ak h1,ak h2,Ren.val]
 ·rename_i u n h1 h2
  simp only[zA1,zA2]at h
  obtain⟨sz,hsz,h⟩:=h
  split at h
  ·rename_i z e f c hg
   split at h
   ·rename_i hcond
    simp only[zA4]at hcond
    obtain⟨⟨he,hn⟩,h0⟩:=hcond
    have he:=Nat.eq_of_beq_eq_true he
    subst he
    have hn:=Nat.eq_of_beq_eq_true hn
    simp only[Option.some.injEq,Prod.mk.injEq]at h
    obtain⟨rfl,rfl⟩:=h
    obtain⟨o',hw,hfit⟩:=r.obj _ _ hg
    simp only[Fits]at hfit
    obtain⟨cs,fz,rfl,hcs,hcl,_⟩:=hfit
    obtain⟨k1,k2,k3,k4⟩:=hcl trivial
    refine kj.same r ?_
    have:=BL (P:=P) (w:=w) (a:=⟨ρ.blk n,0+ρ.sh n,none⟩) h1 h2 hw (by simp only; omega) hsz (bN h0) (by omega)
    simp only[Ren.val,convert,Sem.run_bind,ak h1,ak h2,Result.andThen_ok]
    exact this
   ·cases h
  ·cases h
 ·cases h
theorem im {r:Nat} {o o':Obj} (h:w.heap[r]?=some o) (hc:∀ c e f,o≠.cells c e f):(setObj r o').run P w=.ok () {w with heap:=w.heap.setIfInBounds r o'}:=by
 cases o<;>first
  |(exact absurd rfl (hc _ _ _))
  |simp only[setObj,Sem.run,h]
theorem gi (r:Nat) (o o':Obj) (h:w.heap[r]?=some o) :
  ({w with heap:=w.heap.setIfInBounds r o'}:World).heap[r]?=some o'/\({w with heap:=w.heap.setIfInBounds r o'}:World).heap.size=w.heap.size /\
   ∀ b,b≠r->({w with heap:=w.heap.setIfInBounds r o'}:World).heap[b]?=w.heap[b]?:=by
 have hlt:r<w.heap.size:=by
  rcases zC2 r w.heap.size with h1|h1
  ·exact h1
  ·simp[Array.getElem?_eq_none h1]at h
 refine⟨by simp[hlt],by simp,fun b hb=>?_⟩
 simp only[Array.getElem?_setIfInBounds]
 rw[if_neg (fun e=>hb e.symm)]
theorem wG {n:Nat} {o:Obj} (h:w.heap[n]?=some o) (hc:∀ c e f,o≠.cells c e f):(getObj n).run P w=.ok o w:=by
 cases o<;>first
  |(exact absurd rfl (hc _ _ _))
  |simp only[getObj,Sem.run,h]
theorem FF (r:Rel P ρ H w) {t:TypeId} {x v:Value} {H1:aa} (h:qP P H t x=some (v,H1)):kj P ρ H w (Instr.range t (ρ.val x)) v H1:=by
 unfold qP at h
 split at h
 ·rename_i s hu
  simp only[Option.some.injEq,Prod.mk.injEq]at h
  obtain⟨rfl,rfl⟩:=h
  refine⟨_,_,St.new r ⟨.stringIter s 0,false,⟨[],0⟩⟩ (.stringIter s 0) 0 0 (by simp[ki]) (by simp[Fits]),?_⟩
  simp only[Instr.range,Sem.run_bind,ak hu,Result.andThen_ok,Ren.val,Sem.run_pure,run_newObj]
  simp[Ren.at]
 ·cases h
theorem JJ (r:Rel P ρ H w) {it v:Value} {s:Bool} {ty:TypeId} {H1:aa} (h:rY H it s=some (v,H1)):kj P ρ H w (Instr.next (ρ.val it) s ty) v H1:=by
 unfold rY at h
 split at h
 ·rename_i n
  split at h
  ·rename_i str pos o v' hg
   obtain⟨o',hw,hf⟩:=r.obj _ _ hg
   simp only[Fits]at hf
   obtain⟨rfl,hsh⟩:=hf
   have hgo:=wG (P:=P) hw (fun _ _ _=>by simp)
   split at h
   ·rename_i hlt
    simp only[Option.some.injEq,Prod.mk.injEq]at h
    obtain⟨rfl,rfl⟩:=h
    obtain⟨k1,k2,k3⟩:=gi (w:=w) (ρ.blk n) _ (.stringIter str (pos+(Utf8.decode str pos).2)) hw
    refine⟨ρ,_,St.cE r (bD hg) (ru hg rfl) (by simp[ki]) (by simp[Fits,hsh]) k1 k2 k3 rfl rfl rfl,?_⟩
    have hset:=im (P:=P) (o':=.stringIter str (pos+(Utf8.decode str pos).2)) hw (fun _ _ _=>by simp)
    simp only[Instr.next,Ren.val,hsh,zB8,Sem.run_bind,hgo,Result.andThen_ok,if_pos hlt,hset,Sem.run_pure]
    simp[goInt,Ren.ez,Ren.gM,Ren.val]
   ·rename_i hlt
    simp only[Option.some.injEq,Prod.mk.injEq]at h
    obtain⟨rfl,rfl⟩:=h
    refine kj.same r ?_
    simp only[Instr.next,Ren.val,hsh,zB8,Sem.run_bind,hgo,Result.andThen_ok,if_neg hlt,Sem.run_pure]
    simp[Ren.ez,Ren.gM,Ren.val]
  ·cases h
 ·cases h
theorem oY (ρ:Ren) (kd:TypeDesc) (k:Value):∀ (es:List MapEntry) (i:Nat),Instr.findNow kd k (es.map ρ.entry) i=(Instr.findNow kd k es i).map (fun o=>o.map fun p=>(p.1,ρ.val p.2)):=by
 intro es
 induction es with
 |nil=>intro i; simp[Instr.findNow]
 |cons e es ih =>
  intro i
  simp only[zC0,Instr.findNow]
  have:(ρ.entry e).key=e.key:=rfl
  rw[this]
  cases Instr.sameNow kd k e.key with
  |none=>rfl
  |some b =>
   cases b with
   |true=>simp[Ren.entry]
   |false=>simp only[ih]
theorem FK (kd:TypeDesc) (k:Value):∀ (es:List MapEntry) (i j:Nat) (v:Value),Instr.findNow kd k es i=some (some (j,v))->∃ e,es[j-i]?=some e/\i<=j/\Instr.sameNow kd k e.key=some true:=by
 intro es
 induction es with
 |nil=>intro i j v h; simp[Instr.findNow]at h
 |cons e es ih =>
  intro i j v h
  simp only[Instr.findNow]at h
  split at h
  ·rename_i hs
   simp only[Option.some.injEq,Prod.mk.injEq]at h
   obtain⟨rfl,rfl⟩:=h
   exact⟨e,by simp,zA8 _,hs⟩
  ·obtain⟨x,h1,h2,h3⟩:=ih (i+1) j v h
   refine⟨x,?_,by omega,h3⟩
   rw[show j-i=(j-(i+1))+1 from by omega]
   simpa using h1
  ·cases h
theorem QP {a b:ByteArray} (h:(a == b)=true):a=b:=by
 obtain⟨x⟩:=a
 obtain⟨y⟩:=b
 have e:x=y:=by simpa using (show (x == y)=true from h)
 rw[e]
theorem Ko {kd:TypeDesc} {k k':Value} (h:Instr.sameNow kd k k'=some true):Instr.sameBits 10000 k' k=true:=by
 unfold Instr.sameNow at h
 split at h
 ·rename_i a b c d
  split at h
  ·rename_i hk
   subst hk
   simp only[Option.some.injEq,beq_iff_eq]at h
   subst h
   simp[Instr.sameBits]
  ·cases h
 ·simp only[Option.some.injEq]at h
  have:=QP h
  subst this
  simpa[Instr.sameBits]using h
 ·simp only[Option.some.injEq,beq_iff_eq]at h
  subst h
  simp[Instr.sameBits]
 ·cases h
theorem rZ (ρ:Ren) {k:Value} (h:o7 k=true):ρ.val k=k:=by
 cases k<;>simp[o7]at h<;>rw[Ren.val]
theorem run_checkKey {kd:TypeDesc} {t:TypeId} {k:Value} {b:Bool} (hu:P.underlying t=some kd) (hk:lA kd=true):(Instr.checkKey b 10000 t k).run P w=.ok () w:=by
 rw[show (10000:Nat)=9999+1 from rfl,Instr.checkKey]
 simp only[Sem.run_bind,ak hu,Result.andThen_ok]
 cases kd<;>simp only[lA,zC4]at hk<;>simp
theorem run_findKey {kd:TypeDesc} {t:TypeId} {k:Value} {es:List MapEntry} {o:Option (Nat × Value)} (hu:P.underlying t=some kd) (h:Instr.findNow kd k es 0=some o):(Instr.findKey t k es).run P w=.ok o w:=by
 simp[Instr.findKey,Sem.run_bind,ak hu,h]
theorem tn (r:Rel P ρ H w) {n:Nat} {es:Array MapEntry} {clock:Nat} {o:Bool} {v:RV} (hg:H.get n=some ⟨.map es clock,o,v⟩) :
  w.heap[ρ.blk n]?=some (.map (es.map ρ.entry) clock)/\(getObj (ρ.blk n)).run P w=.ok (.map (es.map ρ.entry) clock) w:=by
 obtain⟨o',hw,hf⟩:=r.obj _ _ hg
 simp only[Fits]at hf
 subst hf
 exact⟨hw,wG (P:=P) hw (fun _ _ _=>by simp)⟩
def rm (key elem:TypeId) (index:Value) (commaOk:Bool) (es:Array MapEntry):Sem Value:=do
 Instr.checkKey es.isEmpty 10000 key index
 let (v,ok) <-match <-Instr.findKey key index es.toList with
  |some (_,v)=>pure (v,true)
  |none=>pure (<-zeroValue elem,false)
 pure (if commaOk then .tuple #[v,.bool ok] else v)
theorem EB (r:Rel P ρ H w) {t:TypeId} {x k v:Value} {ok:Bool} (h:lK P H t x k ok=some v):(Instr.lookup t (ρ.val x) (ρ.val k) ok).run P w=.ok (ρ.val v) w:=by
 unfold lK at h
 split at h
 ·rename_i key elem m hu
  simp only[zA1,zA2]at h
  obtain⟨es,hes,kd,hkd,h⟩:=h
  split at h
  ·rename_i hc
   simp only[zA4]at hc
   have hl:(Instr.lookup t (ρ.val (.map m)) (ρ.val k) ok).run P w=(rm key elem (ρ.val k) ok (es.map ρ.entry)).run P w:=by
    unfold Instr.lookup
    simp only[Sem.run_bind,ak hu,Result.andThen_ok]
    cases m with
    |none =>
     simp only[zF,Option.some.injEq]at hes
     subst hes
     simp only[Ren.val,Sem.run_bind,Sem.run_pure,Result.andThen_ok]
     have he:(#[]:Array MapEntry).map ρ.entry=#[]:=by simp
     rw[he]
     simp only[rm,Sem.run_bind]
     generalize Instr.checkKey _ 10000 key (ρ.val k)=c
     rfl
    |some n =>
     simp only[zF]at hes
     split at hes
     ·rename_i es' cl o v' hg
      simp only[Option.some.injEq]at hes
      subst hes
      simp only[Ren.val,Sem.run_bind,(tn r hg).2,Result.andThen_ok,Sem.run_pure]
      simp only[rm,Sem.run_bind]
      generalize Instr.checkKey _ 10000 key (ρ.val k)=c
      rfl
     ·cases hes
   have hfind:=oY ρ kd k es.toList 0
   rw[hl]
   unfold rm
   simp only[Sem.run_bind,Result.andThen_ok,rZ ρ hc.1,run_checkKey hkd hc.2,Array.toList_map]
   split at h
   ·rename_i i v0 hf
    rw[hf]at hfind
    simp only[zA9]at hfind
    simp only[run_findKey hkd hfind,Result.andThen_ok]
    simp only[Option.some.injEq]at h
    subst h
    cases ok<;>simp[Ren.val,Ren.ez,Ren.gM]
   ·rename_i hf
    rw[hf]at hfind
    simp only[zA9,Option.map_none]at hfind
    simp only[zB3]at h
    obtain⟨z,hz,rfl⟩:=h
    obtain⟨hzr,hza⟩:=dO (w:=w) hz
    simp only[run_findKey hkd hfind,Result.andThen_ok,Sem.run_bind,hzr,Sem.run_pure]
    cases ok<;>simp[Ren.val,Ren.ez,Ren.gM,df ρ z hza]
   ·cases h
  ·cases h
 ·cases h
theorem oZ (r:Rel P ρ H w) {t:TypeId} {x k v:Value} {H1:aa} (h:bM P H t x k v=some H1) :
  ∃ w1,St P ρ H w ρ H1 w1/\(Instr.mapUpdate t (ρ.val x) (ρ.val k) (ρ.val v)).run P w=.ok () w1:=by
 unfold bM at h
 split at h
 ·rename_i key elem n hu
  split at h
  ·rename_i es clock o v' hg
   simp only[zA1,zA2]at h
   obtain⟨kd,hkd,h⟩:=h
   obtain⟨hw,hgo⟩:=tn r hg
   have hsc:=(r.dom _ _ hg).2
   simp only[ki]at hsc
   split at h
   ·rename_i hc
    simp only[zA4]at hc
    have hfind:=oY ρ kd k es.toList 0
    split at h
    ·rename_i i v0 hf
     simp only[Option.some.injEq]at h
     subst h
     rw[hf]at hfind
     simp only[zA9]at hfind
     obtain⟨e,he,_,hsame⟩:=FK kd k es.toList 0 i v0 hf
     have he':es[i]?=some e:=by simpa using he
     have hset:=im (P:=P) (o':=.map ((es.map ρ.entry).modify i fun e=>{e with key:=k,val:=ρ.val v}) clock) hw (fun _ _ _=>by simp)
     obtain⟨k1,k2,k3⟩:=gi (w:=w) (ρ.blk n) _ (.map ((es.map ρ.entry).modify i fun e=>{e with key:=k,val:=ρ.val v}) clock) hw
     refine⟨_,St.cE r (bD hg) (ru hg rfl) ?_ ?_ k1 k2 k3 rfl rfl rfl,?_⟩
     ·simp only[ki]
      intro e1 he1
      obtain⟨j,hj⟩:=Array.getElem?_of_mem he1
      rw[Array.getElem?_modify]at hj
      split at hj
      ·simp only[zB3]at hj
       obtain⟨e2,_,rfl⟩:=hj
       exact⟨hc.1.1,hc.2⟩
      ·exact hsc e1 (Array.mem_of_getElem? hj)
     ·simp only[Fits]
      congr 1
      apply Array.ext_getElem?
      intro j
      simp only[Array.getElem?_map,Array.getElem?_modify]
      split
      ·cases es[j]?<;>simp[Ren.entry]
      ·rfl
     ·unfold Instr.mapUpdate
      simp only[Sem.run_bind,ak hu,Result.andThen_ok,Ren.val,hgo,rZ ρ hc.1.1,run_checkKey hkd hc.1.2,Array.toList_map,run_findKey hkd hfind]
      have hold:(((es.map ρ.entry)[i]?.map (·.key)).getD k)=e.key:=by
       rw[Array.getElem?_map,he']; rfl
      simp only[hold,Instr.keyThatStays,Ko hsame,if_true,Sem.run_pure,Result.andThen_ok,hset]
    ·rename_i hf
     simp only[Option.some.injEq]at h
     subst h
     rw[hf]at hfind
     simp only[zA9,Option.map_none]at hfind
     have hset:=im (P:=P) (o':=.map ((es.map ρ.entry).push {key:=k,val:=ρ.val v,born:=clock}) (clock+1)) hw (fun _ _ _=>by simp)
     obtain⟨k1,k2,k3⟩:=gi (w:=w) (ρ.blk n) _ (.map ((es.map ρ.entry).push {key:=k,val:=ρ.val v,born:=clock}) (clock+1)) hw
     refine⟨_,St.cE r (bD hg) (ru hg rfl) ?_ ?_ k1 k2 k3 rfl rfl rfl,?_⟩
     ·simp only[ki]
      intro e1 he1
      rcases Array.mem_push.1 he1 with h1|rfl
      ·exact hsc e1 h1
      ·exact⟨hc.1.1,hc.2⟩
     ·simp[Fits,Ren.entry]
     ·unfold Instr.mapUpdate
      simp only[Sem.run_bind,ak hu,Result.andThen_ok,Ren.val,hgo,rZ ρ hc.1.1,run_checkKey hkd hc.1.2,Array.toList_map,run_findKey hkd hfind,hset]
    ·cases h
   ·cases h
  ·cases h
 ·cases h
theorem xJ (r:Rel P ρ H w):kj P ρ H w (do pure (.map (some (<-newObj (.map #[] 0))))) (.map (some H.next)) (H.new ⟨.map #[] 0,false,⟨[],0⟩⟩):=by
 refine⟨_,_,St.new r ⟨.map #[] 0,false,⟨[],0⟩⟩ (.map #[] 0) 0 0 (by simp[ki]) (by simp[Fits]),?_⟩
 simp only[Sem.run_bind,run_newObj,Result.andThen_ok,Sem.run_pure]
 simp[Ren.at,Ren.val]
theorem AK {α β:Type} (f:α->β):∀ (l:List α) (i:Nat),(l.map f).eraseIdx i=(l.eraseIdx i).map f
 |[],_=>by simp
 |_::_,0=>by simp
 |_::l,i+1=>by simp[AK f l i]
theorem Cz (r:Rel P ρ H w) {ts:Array TypeId} {ty t:TypeId} {rest:List TypeId} (hts:ts.toList=t::rest) {m k v:Value} {H1:aa} (h:vN P H t m k=some (v,H1)) :
  kj P ρ H w (Builtin.delete_ ts ty ([m,k].map ρ.val).toArray) v H1:=by
 obtain⟨l⟩:=ts
 simp only at hts
 subst hts
 unfold vN at h
 split at h
 ·rename_i key elem n hu
  split at h
  ·rename_i es clock o v' hg
   simp only[zA1,zA2]at h
   obtain⟨kd,hkd,h⟩:=h
   obtain⟨hw,hgo⟩:=tn r hg
   have hsc:=(r.dom _ _ hg).2
   simp only[ki]at hsc
   split at h
   ·rename_i hc
    simp only[zA4]at hc
    have hfind:=oY ρ kd k es.toList 0
    split at h
    ·rename_i i v0 hf
     simp only[Option.some.injEq,Prod.mk.injEq]at h
     obtain⟨rfl,rfl⟩:=h
     rw[hf]at hfind
     simp only[zA9]at hfind
     have hset:=im (P:=P) (o':=.map ((es.map ρ.entry).eraseIdxIfInBounds i) clock) hw (fun _ _ _=>by simp)
     obtain⟨k1,k2,k3⟩:=gi (w:=w) (ρ.blk n) _ (.map ((es.map ρ.entry).eraseIdxIfInBounds i) clock) hw
     refine⟨ρ,_,St.cE r (bD hg) (ru hg rfl) ?_ ?_ k1 k2 k3 rfl rfl rfl,?_⟩
     ·simp only[ki]
      intro e1 he1
      refine hsc e1 ?_
      unfold Array.eraseIdxIfInBounds at he1
      split at he1
      ·exact Array.mem_of_mem_eraseIdx he1
      ·exact he1
     ·simp only[Fits]
      congr 1
      apply Array.ext'
      simp[AK]
     ·unfold Builtin.delete_
      simp only[zC0,zF4,List.getElem?_toArray,zF5,zG4,Sem.run_bind,ak hu,Result.andThen_ok,Ren.val,hgo,rZ ρ hc.1,run_checkKey hkd hc.2,Array.toList_map,run_findKey hkd hfind,hset,Sem.run_pure]
      simp[Ren.ez,Ren.gM]
    ·rename_i hf
     simp only[Option.some.injEq,Prod.mk.injEq]at h
     obtain⟨rfl,rfl⟩:=h
     rw[hf]at hfind
     simp only[zA9,Option.map_none]at hfind
     have hset:=im (P:=P) (o':=.map (es.map ρ.entry) clock) hw (fun _ _ _=>by simp)
     obtain⟨k1,k2,k3⟩:=gi (w:=w) (ρ.blk n) _ (.map (es.map ρ.entry) clock) hw
     refine⟨ρ,_,St.cE r (bD hg) (ru hg rfl) ?_ ?_ k1 k2 k3 rfl rfl rfl,?_⟩
     ·simp only[ki]
      exact hsc
     ·simp[Fits]
     ·unfold Builtin.delete_
      simp only[zC0,zF4,List.getElem?_toArray,zF5,zG4,Sem.run_bind,ak hu,Result.andThen_ok,Ren.val,hgo,rZ ρ hc.1,run_checkKey hkd hc.2,Array.toList_map,run_findKey hkd hfind,hset,Sem.run_pure]
      simp[Ren.ez,Ren.gM]
    ·cases h
   ·cases h
  ·cases h
 ·cases h
theorem GA (r:Rel P ρ H w) {ts:Array TypeId} {ty t:TypeId} {rest:List TypeId} (hts:ts.toList=t::rest) {x v:Value} {H1:aa} (h:Cq P H t x=some (v,H1)) :
  kj P ρ H w (Builtin.clear_ ts ty ([x].map ρ.val).toArray) v H1:=by
 obtain⟨l⟩:=ts
 simp only at hts
 subst hts
 unfold Cq at h
 split at h
 ·rename_i e n c hu
  simp only[Option.some.injEq,Prod.mk.injEq]at h
  obtain⟨rfl,rfl⟩:=h
  refine kj.same r ?_
  simp[Builtin.clear_,Ren.val,ak hu,Ren.ez,Ren.gM]
 ·rename_i e a n c hu
  split at h
  ·simp only[Option.some.injEq,Prod.mk.injEq]at h
   obtain⟨rfl,rfl⟩:=h
   refine kj.same r ?_
   simp[Builtin.clear_,Ren.val,ak hu,Ren.ez,Ren.gM]
  ·rename_i n
   simp only[zA1,zA2,Option.some.injEq,Prod.mk.injEq]at h
   obtain⟨z,hz,g,hg,rfl,rfl⟩:=h
   obtain⟨w1,hst,hrun⟩:=nB r hg
   obtain⟨hzr,hza⟩:=dO (w:=w) hz
   refine⟨ρ,w1,hst,?_⟩
   have hzc:Builtin.zeroCells z.cells (n+1)=(aV z.cells.toList (n+1)).toArray:=by
    unfold Builtin.zeroCells
    exact jJ _ _
   have hzm:(aV z.cells.toList (n+1)).map ρ.val=aV z.cells.toList (n+1):=nj ρ _ (sd ρ hza) _
   rw[hzm]at hrun
   unfold Builtin.clear_
   simp only[zC0,zF4,List.getElem?_toArray,zF5,Sem.run_bind,ak hu,Result.andThen_ok,Ren.val,Ren.nq (ρ:=ρ) (a:=a) (len:=n+1) (cap:=c) (.inr (Nat.succ_ne_zero n)),Ren.oH (ρ:=ρ) (a:=a) (len:=n+1) (cap:=c) (.inr (Nat.succ_ne_zero n)),hzr,hzc,hrun,Sem.run_pure]
   simp[Ren.ez,Ren.gM]
 ·cases h
theorem Bc (r:Rel P ρ H w) {b:Builtin} {ts:Array TypeId} {ty:TypeId} {cs:Array Bool} {args:List Value} {v:Value} {H1:aa} (h:aD P H b ts args=some (v,H1)) :
  j4 P ρ H w (builtin b ts ty cs (args.map ρ.val).toArray) (.value v) H1:=by
 unfold aD at h
 split at h
 ·simp only[zB3,Prod.mk.injEq]at h
  obtain⟨v',hv,rfl,rfl⟩:=h
  exact j4.val r (yt hv)
 ·exact j4.J3 (xB r h)
 ·exact j4.J3 (D9 r h)
 ·exact j4.J3 (JK r h)
 ·split at h
  ·rename_i t rest hts
   simp only[zB3,Prod.mk.injEq]at h
   obtain⟨v',hv,rfl,rfl⟩:=h
   exact j4.val r (MI r hts hv)
  ·cases h
 ·split at h
  ·rename_i t rest hts
   simp only[zB3,Prod.mk.injEq]at h
   obtain⟨v',hv,rfl,rfl⟩:=h
   exact j4.val r (Mg r hts hv)
  ·cases h
 ·split at h
  ·rename_i t rest hts
   exact j4.J3 (Cz r hts h)
  ·cases h
 ·split at h
  ·rename_i t rest hts
   exact j4.J3 (GA r hts h)
  ·cases h
 ·simp only[zB3,Prod.mk.injEq]at h
  obtain⟨v',hv,rfl,rfl⟩:=h
  exact j4.val r (KN hv)
 ·simp only[zB3,Prod.mk.injEq]at h
  obtain⟨v',hv,rfl,rfl⟩:=h
  exact j4.val r (L4 hv)
 ·cases h
end
section
variable {P : Program} {ρ : Ren} {H : aa} {w : World}
theorem vh {f:FuncId} {args:Array Value} (h:aF P f=true):(callFunc f args).run P w=.ok (.enter f args) w:=by
 unfold aF at h
 split at h
 ·rename_i fn hf
  simp only[zA4]at h
  have h1:(fn.name == "runtime.NumGoroutine")=false:=by
   have:=zC6.1 h.2 fn (Array.mem_toList_iff.2 (Array.mem_of_getElem? hf))
   simpa using this
  have h2:fn.body.isNone=false:=by
   cases hb:fn.body with
   |none=>simp[hb]at h
   |some c=>rfl
  simp only[callFunc,Sem.run_bind,run_program,Result.andThen_ok,hf,h1,zC4,if_false,h2,Sem.run_pure]
 ·cases h
theorem qM (r:Rel P ρ H w) {f:FuncId} {args:List Value} {x:cP} (h:iU P f args=some x):j4 P ρ H w (callFunc f (args.map ρ.val).toArray) x H:=by
 unfold iU at h
 split at h
 ·rename_i hb
  simp only[Option.some.injEq]at h
  subst h
  exact⟨ρ,w,St.refl r,vh hb⟩
 ·cases h
theorem wD (ρ:Ren):∀ (ts:List Tmp) (vs:List Value) (e:RV),((ts.zip (vs.map ρ.val)).foldl (fun tmps (p:Tmp × Value)=>tmps.setIfInBounds p.1 p.2) (ρ.tmps e))=ρ.tmps (nO ts vs e)
 |[],vs,e=>by simp[nO]
 |t::ts,[],e=>by simp[nO]
 |t::ts,v::vs,e=>by
  simp only[zC0,List.zip_cons_cons,List.foldl_cons,nO,CP]
  exact wD ρ ts vs _
theorem oD (r:Rel P ρ H w) {l:Nat} {lp:Loop} {o:Bool} {e:RV} (h:H.get l=some ⟨.loop lp,o,e⟩) :
  ∃ fn,w.heap[ρ.blk l]?=some (.loop {lp with fn:=fn,tmps:=ρ.tmps e,defers:=ρ.blk lp.defers}) /\
   (Instr.getLoop (ρ.blk l)).run P w=.ok {lp with fn:=fn,tmps:=ρ.tmps e,defers:=ρ.blk lp.defers} w:=by
 obtain⟨o',hw,hf⟩:=r.obj _ _ h
 simp only[Fits]at hf
 obtain⟨fn,rfl⟩:=hf
 refine⟨fn,hw,?_⟩
 simp[Instr.getLoop,getObj,Sem.run,hw]
theorem E6 (r:Rel P ρ H w) {l:Nat} {args:List Value} {x:cP} (h:wz H l args=some x):j4 P ρ H w (Instr.yield (ρ.blk l) (args.map ρ.val).toArray) x H:=by
 unfold wz at h
 split at h
 ·rename_i lp o e hg
  split at h
  ·rename_i hlen
   simp only[Option.some.injEq]at h
   subst h
   obtain⟨fn,hw,hgl⟩:=oD r hg
   refine⟨ρ,w,St.refl r,fn,?_⟩
   have hz:=wD ρ lp.params.toList args e
   have hsz:(args.map ρ.val).toArray.size=lp.params.size:=by simpa using hlen
   simp only[Instr.yield,Sem.run_bind,hgl,Result.andThen_ok,hsz,ne_eq,not_true,if_false,Sem.run_pure]
   congr 2
   rw[<-hz,<-Array.foldl_toList]
   simp
  ·cases h
 ·cases h
theorem zH (r:Rel P ρ H w) {t:TypeId} {v x:Value} {ptr:Bool} (h:wu P H t v ptr=some x) (wrap:Option String) :
  (receiverAt t (.val (ρ.val v)) ptr wrap).run P w=.ok (ρ.val x) w:=by
 unfold wu at h
 split at h
 ·rename_i e hu
  simp only[Option.some.injEq]at h
  subst h
  simp[receiverAt,ak hu,Place.get]
 ·rename_i e a hu
  obtain⟨n,off,hp⟩:=tv h
  simp only[Value.pointer.injEq,Option.some.injEq]at hp
  subst hp
  have hl:=sW r h
  cases wrap with
  |none=>simp[receiverAt,ak hu,Place.get,pA,asAddr,hl]
  |some s =>
   have hs:∀ b:Addr,(Builtin.ssaWrapNilChk_ #[t] t #[.pointer (some b),strVal "", strVal s]).run P w=.ok (.pointer (some b)) w:=fun _=>rfl
   simp[receiverAt,ak hu,Place.get,pA,asAddr,hl,hs]
 ·cases h
 ·rename_i d hnp hu cR
  simp only[Option.some.injEq]at h
  subst h
  cases d<;>first
   |(exact absurd rfl (hnp _))
   |simp[receiverAt,ak hu,Place.get]
 ·cases h
theorem ye (t:TypeId) (x:Place):(follow [] t x).run P w=.ok (t,x) w:=by simp[follow]
theorem DD (r:Rel P ρ H w) {t:TypeId} {name:String} {f:FuncId} {ptr:Bool} {v x:Value} (h:AZ P t name=some (f,ptr)) (hx:wu P H t v ptr=some x) :
  (method (P.types.size+Made.depth) t (ρ.val v) name).run P w=.ok (f,ρ.val x) w:=by
 obtain⟨k,hk⟩:∃ k,P.types.size+Made.depth=k+1:=⟨P.types.size+(Made.depth-1),by
  have:0<Made.depth:=by decide
  omega⟩
 rw[hk]
 unfold AZ at h
 split at h
 ·rename_i i hi
  split at h
  ·rename_i m hm
   split at h
   ·rename_i hp
    have hp':m.path.toList=[]:=by simpa using hp
    simp only[method,Sem.run_bind,jS hi,Result.andThen_ok,hm,hp',ye,h,zH r hx,Sem.run_pure]
   ·cases h
  ·cases h
 ·cases h
theorem lD (r:Rel P ρ H w) {fn:Fn} {args captured:List Value} {x:cP} (h:fq P H fn args captured=some x) :
  j4 P ρ H w (invoke (.fn (ρ.fn fn) (captured.map ρ.val).toArray) (args.map ρ.val).toArray) x H:=by
 unfold fq at h
 split at h
 ·rename_i f args
  have:=qM r h
  simpa[invoke,Ren.fn]using this
 ·rename_i l args
  have:=E6 r h
  simpa[invoke,Ren.fn]using this
 ·rename_i name t v rest
  simp only[zA1,zA2]at h
  obtain⟨⟨f,ptr⟩,hm,y,hy,h⟩:=h
  obtain⟨ρ1,w1,hst,hr⟩:=qM r h
  refine⟨ρ1,w1,hst,?_⟩
  have hmr:=DD r hm hy
  have e1:((Value.iface t v::rest).map ρ.val).toArray[0]?=some (.iface t (ρ.val v)):=by simp[Ren.val]
  have e2:((Value.iface t v::rest).map ρ.val).toArray.extract 1 ((Value.iface t v::rest).map ρ.val).toArray.size=(rest.map ρ.val).toArray:=by
   apply Array.ext'
   simp
   exact zD6 (by simp)
  have e3:#[ρ.val y]++(rest.map ρ.val).toArray=((y::rest).map ρ.val).toArray:=by
   apply Array.ext'
   simp
  simp only[invoke,Ren.fn,e1,e2,callMethod,Sem.run_bind,run_program,Result.andThen_ok,hmr,e3]
  exact hr
 ·rename_i t path f ptr v rest
  split at h
  ·rename_i hp
   have hp':path.toList=[]:=by simpa using hp
   simp only[zA1,zA2]at h
   obtain⟨y,hy,h⟩:=h
   obtain⟨ρ1,w1,hst,hr⟩:=qM r h
   refine⟨ρ1,w1,hst,?_⟩
   have e1:((v::rest).map ρ.val).toArray[0]?=some (ρ.val v):=by simp
   have e2:((v::rest).map ρ.val).toArray.extract 1 ((v::rest).map ρ.val).toArray.size=(rest.map ρ.val).toArray:=by
    apply Array.ext'
    simp
    exact zD6 (by simp)
   have e3:#[ρ.val y]++(rest.map ρ.val).toArray=((y::rest).map ρ.val).toArray:=by
    apply Array.ext'
    simp
   simp only[invoke,Ren.fn,e1,e2,receiverVia,hp',Sem.run_bind,ye,Result.andThen_ok,zH r hy,e3]
   exact hr
  ·cases h
 ·cases h
theorem IP (r:Rel P ρ H w) {f:Value} {args:List Value} {x:cP} {H1:aa} (h:oA P H f args=some (x,H1)) :
  j4 P ρ H w (do let d <-Deferred.ofValue (ρ.val f) (args.map ρ.val).toArray; invoke d.target d.args) x H1:=by
 unfold oA at h
 split at h
 ·rename_i fn first captured
  simp only[zB3,Prod.mk.injEq]at h
  obtain⟨y,hy,rfl,rfl⟩:=h
  obtain⟨ρ1,w1,hst,hr⟩:=lD r hy
  refine⟨ρ1,w1,hst,?_⟩
  have e1:ρ.val (.func fn first captured)=.func (ρ.fn fn) (first.map ρ.val) (captured.map ρ.val):=by rw[Ren.val,Ren.dJ,Ren.dJ]
  have e2:first.map ρ.val++(args.map ρ.val).toArray=((first.toList++args).map ρ.val).toArray:=by apply Array.ext'; simp
  have e3:captured.map ρ.val=(captured.toList.map ρ.val).toArray:=by apply Array.ext'; simp
  rw[e1]
  simp only[Deferred.ofValue,Sem.run_bind,Sem.run_pure,Result.andThen_ok,e2,e3]
  exact hr
 ·cases h
theorem CS (r:Rel P ρ H w) {f:Value} {args:List Value} {x:cP} {H1:aa} (h:vY P H f args=some (x,H1)) :
  j4 P ρ H w (do let d <-Deferred.ofValue (ρ.val f) (args.map ρ.val).toArray; invoke d.target d.args) x H1:=by
 have key:∀ {g:FuncId},nJ P H g args=some (x,H1)->j4 P ρ H w (do let d <-Deferred.ofValue (ρ.val (.func (.func g) #[] #[])) (args.map ρ.val).toArray; invoke d.target d.args) x H1:=by
  intro g hw
  have:=Dz r hw
  have e1:ρ.val (.func (.func g) #[] #[])=.func (.func g) #[] #[]:=by simp[Ren.val,Ren.fn,Ren.ez,Ren.gM]
  rw[e1]
  obtain⟨ρ1,w1,hst,hr⟩:=this
  refine⟨ρ1,w1,hst,?_⟩
  simp only[Deferred.ofValue,Sem.run_bind,Sem.run_pure,Result.andThen_ok,invoke]
  simpa using hr
 unfold vY at h
 split at h
 ·rename_i g
  split at h
  ·rename_i ha
   split at h
   ·rename_i v hv
    split at h
    ·rename_i hav
     simp only[Option.some.injEq,Prod.mk.injEq]at h
     obtain⟨rfl,rfl⟩:=h
     refine⟨ρ,w,St.refl r,?_⟩
     have e1:(args.map ρ.val)=args:=by rw[<-Ren.nM]; exact Bm ρ args ha
     rw[e1]
     have e2:=sY _ hv w
     simp only[gz,Ren.val,Ren.fn,Ren.ez,Ren.gM,Deferred.ofValue,Sem.run_bind,Sem.run_pure,Result.andThen_ok,invoke,df ρ v hav]
     simpa using e2
    ·cases h
   ·exact key h
  ·exact key h
 ·cases h
theorem Jx (r:Rel P ρ H w) {a:ag} {c:Call} {ty:TypeId} {x:cP} {H1:aa} (h:kc c P a H=some (x,H1)) :
  j4 P ρ H w (do let d <-resolve (ρ.act a).eval c ty; invoke d.target d.args) x H1:=by
 simp only[kc,zA1,zA2]at h
 obtain⟨args,hargs,h⟩:=h
 have hA:c.args.map (ρ.act a).eval=(args.map ρ.val).toArray:=by
  apply Array.ext'
  rw[Array.toList_map]
  exact la r hargs
 split at h
 ·rename_i b hc
  simp only[sI,zB3,Prod.mk.injEq]at h
  obtain⟨⟨v,H2⟩,hv,rfl,rfl⟩:=h
  obtain⟨ρ1,w1,hst,hr⟩:=Bc (ty:=ty) (cs:=c.args.map fun|.const _=>true|_=>false) r hv
  refine⟨ρ1,w1,hst,?_⟩
  simp only[resolve,hc,Sem.run_bind,Sem.run_pure,Result.andThen_ok,invoke,hA]
  exact hr
 ·rename_i recv name hc
  simp only[zA2,zB3,Prod.mk.injEq]at h
  obtain⟨rv,hrv,y,hy,rfl,rfl⟩:=h
  obtain⟨ρ1,w1,hst,hr⟩:=lD r hy
  refine⟨ρ1,w1,hst,?_⟩
  have e1:#[ρ.val rv]++(args.map ρ.val).toArray=((rv::args).map ρ.val).toArray:=by apply Array.ext'; simp
  simp only[resolve,hc,Sem.run_bind,Sem.run_pure,Result.andThen_ok,hA,aI r hrv,e1]
  simpa[Ren.fn]using hr
 ·rename_i f hc
  simp only[zA2]at h
  obtain⟨fv,hfv,h⟩:=h
  have hmain:j4 P ρ H w (do let d <-Deferred.ofValue (ρ.val fv) (args.map ρ.val).toArray; invoke d.target d.args) x H1:=by
   split at h
   ·rename_i y hy
    simp only[Option.some.injEq]at h
    subst h
    exact IP r hy
   ·exact CS r h
  simp only[resolve,hc,hA,aI r hfv]
  exact hmain
theorem Mj {s:Sem Unit} {w1:World} (h:s.run P w=.ok () w1):(do s; pure Next.skip:Sem Next).run P w=.ok .skip w1:=by simp[h]
theorem Mo (r:Rel P ρ H w) {v:Value} {x:cP} {H1:aa} (h:y9 P H v=some (x,H1)) {o:Oper} {y:Operand} {e:Operand->Value} (he:e y=ρ.val v) (ho:o.op=.nilCheck y) :
  j4 P ρ H w (execOp e o) x H1:=by
 have hpanic:∀ (α:Type),(runtimePanic .nilDeref:Sem α).run P w=.halt (.panic (jF P)) w:=fun α=>rfl
 have haf:ρ.val (jF P)=jF P:=df ρ _ rfl
 unfold y9 at h
 split at h
 ·simp only[Option.some.injEq,Prod.mk.injEq]at h
  obtain⟨rfl,rfl⟩:=h
  refine⟨ρ,w,St.refl r,?_⟩
  simp only[gz,execOp,ho,he,Ren.val,haf]
  exact hpanic _
 ·simp only[Option.some.injEq,Prod.mk.injEq]at h
  obtain⟨rfl,rfl⟩:=h
  refine⟨ρ,w,St.refl r,?_⟩
  simp only[gz,execOp,ho,he,Ren.val,haf]
  exact hpanic _
 ·simp only[Option.some.injEq,Prod.mk.injEq]at h
  obtain⟨rfl,rfl⟩:=h
  refine⟨ρ,w,St.refl r,?_⟩
  simp only[gz,execOp,ho,he,Ren.val,haf]
  exact hpanic _
 ·cases h
 ·cases h
 ·rename_i h1 h2 h3 h4 h5
  simp only[Option.some.injEq,Prod.mk.injEq]at h
  obtain⟨rfl,rfl⟩:=h
  refine⟨ρ,w,St.refl r,?_⟩
  simp only[gz,execOp,ho,he]
  cases v with
  |pointer a=>cases a with
   |none=>exact absurd rfl h1
   |some a=>simp[Ren.val]
  |nilIface=>exact absurd rfl h2
  |nilFunc=>exact absurd rfl h3
  |func f a b =>
   cases f with
   |method n=>exact absurd rfl (h4 _ _ _)
   |_=>simp[Ren.val,Ren.fn]
  |slice a _ _=>cases a<;>simp[Ren.val]
  |map a=>cases a<;>simp[Ren.val]
  |chan a=>exact absurd rfl (h5 a)
  |_=>simp[Ren.val]
theorem sg (r:Rel P ρ H w) {a:ag} {o:Oper} {x:cP} {H1:aa} (h:ck o.op P a H=some (x,H1)):j4 P ρ H w (execOp (ρ.act a).eval o) x H1/\∀ c,o.op≠.defer c:=by
 obtain⟨dst,op,ty,pos,after,guard⟩:=o
 simp only at h
 cases op with
 |move y =>
  simp only[ck,qn,rv,zB3,Prod.mk.injEq]at h
  obtain⟨v,hv,rfl,rfl⟩:=h
  exact⟨⟨ρ,w,St.refl r,by simp[gz,execOp,aI r hv]⟩,fun c=>by simp⟩
 |assign y =>
  simp only[ck,qn,rv,zB3,Prod.mk.injEq]at h
  obtain⟨v,hv,rfl,rfl⟩:=h
  exact⟨⟨ρ,w,St.refl r,by simp[gz,execOp,aI r hv]⟩,fun c=>by simp⟩
 |pick c y z =>
  simp only[ck,zK,zA1,zA2]at h
  obtain⟨b,hb,h⟩:=h
  split at h
  ·simp only[rv,zB3,Prod.mk.injEq]at h
   obtain⟨v,hv,rfl,rfl⟩:=h
   exact⟨⟨ρ,w,St.refl r,by simp[gz,execOp,aI r hv,aI r hb,Ren.val,asBool]⟩,fun c=>by simp⟩
  ·simp only[rv,zB3,Prod.mk.injEq]at h
   obtain⟨v,hv,rfl,rfl⟩:=h
   exact⟨⟨ρ,w,St.refl r,by simp[gz,execOp,aI r hv,aI r hb,Ren.val,asBool]⟩,fun c=>by simp⟩
  ·cases h
 |alloc t =>
  simp only[ck,wj,xT,zA1,zA2,Option.some.injEq,Prod.mk.injEq]at h
  obtain⟨z,hz,g,hg,rfl,rfl⟩:=h
  obtain⟨hzr,hza⟩:=dO (w:=w) hz
  refine⟨⟨_,_,pC r hg,?_⟩,fun c=>by simp⟩
  simp only[gz,execOp,Instr.alloc,Sem.run_bind,hzr,Result.andThen_ok,newVar,newRow,run_newObj,Sem.run_pure,IK,sd ρ hza]
  rfl
 |box t y =>
  simp only[ck,sQ,xT,zA1,zA2,Option.some.injEq,Prod.mk.injEq]at h
  obtain⟨z,hz,g,hg,rfl,rfl⟩:=h
  refine⟨⟨_,_,pC r hg,?_⟩,fun c=>by simp⟩
  have hm:(ρ.val z).cells=(z.cells.toList.map ρ.val).toArray:=by rw[Ren.mq]; apply Array.ext'; simp
  simp only[gz,execOp,Instr.box,Sem.run_bind,aI r hz,Result.andThen_ok,newVar,newRow,run_newObj,Sem.run_pure,IK,hm]
  rfl
 |build t ps =>
  simp only[ck,tR,rv,zA1,zA2,zB3,Prod.mk.injEq]at h
  obtain⟨vs,hvs,v,hv,rfl,rfl⟩:=h
  have hp:(ps.map fun (p:Nat × Operand)=>(p.1,(ρ.act a).eval p.2))=(vs.map fun p=>(p.1,ρ.val p.2)).toArray:=by
   apply Array.ext'
   rw[Array.toList_map]
   exact tJ r hvs
  refine⟨?_,fun c=>by simp⟩
  simp only[execOp,hp]
  exact j4.val r (Gl hv)
 |buildSlice t n ps =>
  simp only[ck,iz,sI,zA1,zA2,zB3,Prod.mk.injEq]at h
  obtain⟨vs,hvs,⟨v,H2⟩,hv,rfl,rfl⟩:=h
  have hp:(ps.map fun (p:Nat × Operand)=>(p.1,(ρ.act a).eval p.2))=(vs.map fun p=>(p.1,ρ.val p.2)).toArray:=by
   apply Array.ext'
   rw[Array.toList_map]
   exact tJ r hvs
  refine⟨?_,fun c=>by simp⟩
  simp only[execOp,hp]
  exact j4.J3 (vB r hv)
 |load t y =>
  simp only[ck,Dq,rv,zA1,zA2,zB3,Prod.mk.injEq]at h
  obtain⟨p,hp,v,hv,rfl,rfl⟩:=h
  refine⟨?_,fun c=>by simp⟩
  simp only[execOp,aI r hp]
  exact j4.val r (Jr r hv)
 |store t y z =>
  simp only[ck,sK,Kp,zA1,zA2,zB3,Prod.mk.injEq]at h
  obtain⟨p,hp,q,hq,g,hg,rfl,rfl⟩:=h
  obtain⟨w1,hst,hrun⟩:=FT r hg
  refine⟨⟨ρ,w1,hst,?_⟩,fun c=>by simp⟩
  simp only[gz,execOp,aI r hp,aI r hq]
  exact Mj hrun
 |nilCheck y =>
  simp only[ck,JS,zA1,zA2]at h
  obtain⟨v,hv,h⟩:=h
  exact⟨Mo r h (aI r hv) rfl,fun c=>by simp⟩
 |binOp op t y z t2 =>
  simp only[ck,Gt,zA1,zA2]at h
  obtain⟨p,hp,q,hq,h⟩:=h
  refine⟨?_,fun c=>by simp⟩
  simp only[execOp,aI r hp,aI r hq]
  exact j4.of (LS r h)
 |unOp op t y =>
  simp only[ck,QO,zA1,zA2]at h
  obtain⟨p,hp,h⟩:=h
  refine⟨?_,fun c=>by simp⟩
  simp only[execOp,aI r hp]
  exact j4.of (OS r h)
 |makeInterface t y =>
  simp only[ck,xk,zA1,zA2]at h
  obtain⟨p,hp,h⟩:=h
  unfold sX at h
  split at h
  ·cases h
  ·rename_i d cR hu
   simp only[Option.some.injEq,Prod.mk.injEq]at h
   obtain⟨rfl,rfl⟩:=h
   refine⟨?_,fun c=>by simp⟩
   simp only[execOp,aI r hp]
   refine j4.val r ?_
   cases d<;>first
    |(exact absurd rfl (cR _))
    |simp[Instr.makeInterface,ak hu,Ren.val]
  ·cases h
 |makeFunc fn first captured =>
  simp only[ck,Dw,zA1,zA2]at h
  obtain⟨p,hp,q,hq,h⟩:=h
  have e1:first.map (ρ.act a).eval=(p.map ρ.val).toArray:=by apply Array.ext'; rw[Array.toList_map]; exact la r hp
  have e2:captured.map (ρ.act a).eval=(q.map ρ.val).toArray:=by apply Array.ext'; rw[Array.toList_map]; exact la r hq
  refine⟨?_,fun c=>by simp⟩
  unfold zQ at h
  split at h
  ·cases h
  ·rename_i cR
   simp only[Option.some.injEq,Prod.mk.injEq]at h
   obtain⟨rfl,rfl⟩:=h
   simp only[execOp,e1,e2]
   refine j4.val r ?_
   cases fn<;>first
    |(exact absurd rfl (cR _))
    |simp[Instr.makeFunc,Ren.val,Ren.fn,Ren.ez,Ren.nM]
 |makeSlice t l c =>
  simp only[ck,kE,sI,zA1,zA2,zB3,Prod.mk.injEq]at h
  obtain⟨p,hp,q,hq,⟨v,H2⟩,hv,rfl,rfl⟩:=h
  refine⟨?_,fun c=>by simp⟩
  simp only[execOp,aI r hp,aI r hq]
  exact j4.J3 (xQ r hv)
 |slice t y lo hi mx =>
  simp only[ck,yj,sI,zA1,zA2,zB3,Prod.mk.injEq]at h
  obtain⟨p,hp,l,hl,hh,hhh,m,hm,⟨v,H2⟩,hv,rfl,rfl⟩:=h
  refine⟨?_,fun c=>by simp⟩
  simp only[execOp,aI r hp,oE r hl,oE r hhh,oE r hm]
  exact j4.J3 (Gv r hv)
 |fieldAddr t y f =>
  simp only[ck,jh,rv,zA1,zA2,zB3,Prod.mk.injEq]at h
  obtain⟨p,hp,v,hv,rfl,rfl⟩:=h
  refine⟨?_,fun c=>by simp⟩
  simp only[execOp,aI r hp]
  exact j4.val r (x8 hv)
 |field t y f =>
  simp only[ck,BZ,rv,zA1,zA2,zB3,Prod.mk.injEq]at h
  obtain⟨p,hp,v,hv,rfl,rfl⟩:=h
  refine⟨?_,fun c=>by simp⟩
  simp only[execOp,aI r hp]
  exact j4.val r (E5 hv)
 |indexAddr t y i =>
  simp only[ck,jq,rv,zA1,zA2,zB3,Prod.mk.injEq]at h
  obtain⟨p,hp,q,hq,v,hv,rfl,rfl⟩:=h
  refine⟨?_,fun c=>by simp⟩
  simp only[execOp,aI r hp,aI r hq]
  exact j4.val r (wV hv)
 |index t y i =>
  simp only[ck,Cn,zA1,zA2]at h
  obtain⟨p,hp,q,hq,h⟩:=h
  refine⟨?_,fun c=>by simp⟩
  simp only[execOp,aI r hp,aI r hq]
  exact j4.of (Fg r h)
 |typeAssert y xt t ok =>
  simp only[ck,lC,rv,zA1,zA2,zB3,Prod.mk.injEq]at h
  obtain⟨p,hp,v,hv,rfl,rfl⟩:=h
  refine⟨?_,fun c=>by simp⟩
  simp only[execOp,aI r hp]
  exact j4.val r (vC hv)
 |extract y i =>
  simp only[ck,mN,zA1,zA2]at h
  obtain⟨p,hp,h⟩:=h
  unfold kR at h
  split at h
  ·rename_i vs
   simp only[rv,zB3,Prod.mk.injEq]at h
   obtain⟨v,hv,rfl,rfl⟩:=h
   refine⟨?_,fun c=>by simp⟩
   simp only[execOp,aI r hp]
   refine j4.val r ?_
   have hv':vs[i]?=some v:=by simpa using hv
   simp[Ren.val,Ren.dJ,Instr.extract,hv']
  ·cases h
 |call c =>
  simp only[ck]at h
  exact⟨by simp only[execOp]; exact Jx r h,fun c=>by simp⟩
 |panic y =>
  simp only[ck,BM,zA1,zA2]at h
  obtain⟨p,hp,h⟩:=h
  unfold A3 at h
  split at h
  ·simp only[Option.some.injEq,Prod.mk.injEq]at h
   obtain⟨rfl,rfl⟩:=h
   refine⟨⟨ρ,w,St.refl r,?_⟩,fun c=>by simp⟩
   simp[gz,execOp,aI r hp,Ren.val,Instr.panic]
  ·cases h
 |convert s d y =>
  simp only[ck,rj,sI,zA1,zA2,zB3,Prod.mk.injEq]at h
  obtain⟨p,hp,⟨v,H2⟩,hv,rfl,rfl⟩:=h
  refine⟨?_,fun c=>by simp⟩
  simp only[execOp,aI r hp]
  exact j4.J3 (AY r hv)
 |makeMap t m =>
  refine⟨?_,fun c=>by simp⟩
  simp only[ck,rF]at h
  cases m with
  |none =>
   simp only[qH,Option.some.injEq,Prod.mk.injEq]at h
   obtain⟨rfl,rfl⟩:=h
   exact j4.J3 (xJ r)
  |some y =>
   simp only[zA1,zA2]at h
   obtain⟨d,hu,h⟩:=h
   split at h
   ·rename_i key elem
    simp only[zA2]at h
    obtain⟨q,hq,h⟩:=h
    split at h
    ·rename_i n
     simp only[qH,Option.some.injEq,Prod.mk.injEq]at h
     obtain⟨rfl,rfl⟩:=h
     obtain⟨ρ1,w1,hst,hr⟩:=xJ r
     refine j4.J3 ⟨ρ1,w1,hst,?_⟩
     rw[<-hr]
     simp[Instr.makeMap,aI r hq,ak hu,Ren.val,asInt,asIntOf]
    ·cases h
   ·cases h
 |lookup t y k ok =>
  simp only[ck,vT,rv,zA1,zA2,zB3,Prod.mk.injEq]at h
  obtain⟨p,hp,q,hq,v,hv,rfl,rfl⟩:=h
  refine⟨?_,fun c=>by simp⟩
  simp only[execOp,aI r hp,aI r hq]
  exact j4.val r (EB r hv)
 |mapUpdate t m k y =>
  simp only[ck,ik,Kp,zA1,zA2,zB3,Prod.mk.injEq]at h
  obtain⟨p,hp,q,hq,s,hs,H2,hv,rfl,rfl⟩:=h
  refine⟨?_,fun c=>by simp⟩
  obtain⟨w1,hst,hr⟩:=oZ r hv
  exact⟨ρ,w1,hst,by simp[gz,execOp,aI r hp,aI r hq,aI r hs,hr]⟩
 |insert t m k y =>
  simp only[ck,ik,Kp,zA1,zA2,zB3,Prod.mk.injEq]at h
  obtain⟨p,hp,q,hq,s,hs,H2,hv,rfl,rfl⟩:=h
  refine⟨?_,fun c=>by simp⟩
  obtain⟨w1,hst,hr⟩:=oZ r hv
  exact⟨ρ,w1,hst,by simp[gz,execOp,aI r hp,aI r hq,aI r hs,hr]⟩
 |range t y =>
  simp only[ck,Bo,sI,zA1,zA2,zB3,Prod.mk.injEq]at h
  obtain⟨p,hp,⟨v,H2⟩,hv,rfl,rfl⟩:=h
  refine⟨?_,fun c=>by simp⟩
  simp only[execOp,aI r hp]
  exact j4.J3 (FF r hv)
 |next y s =>
  simp only[ck,Iz,sI,zA1,zA2,zB3,Prod.mk.injEq]at h
  obtain⟨p,hp,⟨v,H2⟩,hv,rfl,rfl⟩:=h
  refine⟨?_,fun c=>by simp⟩
  simp only[execOp,aI r hp]
  exact j4.J3 (JJ r hv)
 |_=>simp[ck,EL]at h
end
def Pg (N:Nat) (d:Deferred):Prop :=
 (∃ r,d=⟨.collected r,#[]⟩/\r<N)\/∃ f cap as0,d=⟨.fn (.func f) cap,as0⟩/\fb N cap=true/\fb N as0=true
theorem Pg.mono {N M:Nat} {d:Deferred} (h:Pg N d) (hle:N<=M):Pg M d:=by
 rcases h with⟨r,e,hr⟩|⟨f,cap,as0,e,h1,h2⟩
 ·exact .inl ⟨r,e,by omega⟩
 ·exact .inr ⟨f,cap,as0,e,iE hle _ h1,iE hle _ h2⟩
theorem rJ {N:Nat} {ρ ρ':Ren} (e:Ext N ρ ρ') {d:Deferred} (h:Pg N d):ρ'.rM d=ρ.rM d:=by
 rcases h with⟨r,rfl,hr⟩|⟨f,cap,as0,rfl,h1,h2⟩
 ·simp[Ren.rM,e.blk r hr]
 ·simp[Ren.rM,Ren.fn,jO e _ h1,jO e _ h2]
def ic (N:Nat) (a:ag):Prop:=(∀ i,i<a.env.n->aS N (a.env.get i)=true)/\∀ d∈a.defers,Pg N d
theorem ic.mono {N M:Nat} {a:ag} (h:ic N a) (hle:N<=M):ic M a :=
 ⟨fun i hi=>cM hle _ (h.1 i hi),fun d hd=>(h.2 d hd).mono hle⟩
theorem fS {N:Nat} {ρ ρ':Ren} (e:Ext N ρ ρ') {a:ag} (h:ic N a):ρ'.act a=ρ.act a:=by
 unfold Ren.act
 rw[Ren.q9 e _ h.1]
 congr 1
 apply List.map_congr_left
 intro d hd
 exact rJ e (h.2 d hd)
theorem ic.put {N:Nat} {a:ag} (h:ic N a) (dst:Option Tmp) {v:Value} (hv:aS N v=true):ic N (a.put dst v):=by
 cases dst with
 |none=>exact h
 |some d =>
  simp only[ag.put_eq]
  split
  ·refine⟨fun i hi=>?_,h.2⟩
   simp only[RV.n_set]at hi
   simp only[RV.ri]
   split
   ·exact hv
   ·exact h.1 i hi
  ·exact h
theorem cI {P:Program} {N:Nat} {a:ag} (hg:P.globals.size<=N) (hs:ic N a) {x:Operand} {v:Value} (h:aK P a x=some v):aS N v=true:=by
 cases x with
 |tmp t =>
  simp only[aK,Option.some.injEq]at h
  subst h
  unfold ag.tmp
  split
  ·rename_i hb; exact hs.1 t (bN hb)
  ·exact eG N
 |const c =>
  simp only[aK]at h
  split at h
  ·rename_i ha
   simp only[Option.some.injEq]at h
   subst h
   exact fK _ ha
  ·cases h
 |global g =>
  simp only[aK]at h
  split at h
  ·rename_i hb
   simp only[Option.some.injEq]at h
   subst h
   exact a8 (zD5 (bN hb) hg)
  ·cases h
 |func f=>simp only[aK,Option.some.injEq]at h; subst h; simp[aS,fb,aO]
theorem mS {P:Program} {N:Nat} {a:ag} (hg:P.globals.size<=N) (hs:ic N a):∀ {xs:List Operand} {vs:List Value},fc P a xs=some vs->aO N vs=true
 |[],vs,h=>by simp only[fc,Option.some.injEq]at h; subst h; rfl
 |x::xs,vs,h=>by
  simp only[fc,zA1,zA2,Option.some.injEq]at h
  obtain⟨v,hv,us,hu,rfl⟩:=h
  rw[aO,cI hg hs hv,mS hg hs hu]; rfl
theorem cB {N:Nat} {a b:List Value} (ha:aO N a=true) (hb:aO N b=true):aO N (a++b)=true :=
 bL.2 fun v hv=>(zB2.1 hv).elim (bL.1 ha v) (bL.1 hb v)
end Go.Ax
