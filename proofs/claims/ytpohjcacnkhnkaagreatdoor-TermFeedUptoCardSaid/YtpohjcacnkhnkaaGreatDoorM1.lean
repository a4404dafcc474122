/- Parts of the proof, one behind the other. -/
import Derived.RangeFuncLeaves
import Derived.OrdersIn
import Derived.RecoverIn
import Derived.Laws.World
import Derived.Laws.Sem
import Derived.Lib.UnsafeStr
import Derived.Lib.MakeNoZero
import Derived.Laws.Externs
set_option linter.all false
set_option maxRecDepth 10000
set_option maxHeartbeats 16000000
open Option renaming some->ap,none->bi
open Bool renaming true->bv,false->gc
open Decidable renaming decide->ge
open Go renaming Value->gt,TypeId->ii,Program->io,World->ip,Operand->i4
open Option.some renaming injEq->i5
open Prod.mk renaming injEq->i6
open Go.Value renaming int->i7,pointer->i9,slice->jp,bool->kw
open Go.IntKind renaming i64->i8
theorem Go.ac{α:Sort _}(a:α):∃x,a=x:=⟨a,rfl⟩
theorem Go.li{p:Prop}(h:p:=by omega):p:=h
theorem Go.ls{p:Prop}(h:p:=by kernel_rfl):p:=h
theorem Go.lw{p:Prop}(h:p:=by simp):p:=h
theorem Go.mt{p:Prop}(h:p:=by decide):p:=h
theorem Go.nl{p:Prop}(h:p:=by simp[Rp.au]):p:=h
theorem Go.ol{p:Prop}(h:p:=by simp[ae]):p:=h
theorem Go.pi{p:Prop}(h:p:=by simp[Rq.au]):p:=h
theorem Go.pm{p:Prop}(h:p:=by simp only[aE]<;>rfl):p:=h
theorem Go.pp{p:Prop}(h:p:=by simp; omega):p:=h
theorem Go.pu{p:Prop}(h:p:=by simp[h]):p:=h
theorem Go.py{p:Prop}(h:p:=by simp only[zB2,zA3,zB0]; omega):p:=h
theorem Go.qr{p:Prop}(h:p:=by simp only[aE]; rfl):p:=h
theorem Go.rc{p:Prop}(h:p:=by simp only; omega):p:=h
theorem Go.rx{p:Prop}(h:p:=by simp only[zA3,zB0]; omega):p:=h
theorem Go.sm{p:Prop}(h:p:=by simp only[small,zA7,zE2]; omega):p:=h
theorem Go.t4{p:Prop}(h:p:=by simp only[aE,Nat.reduceLT]):p:=h
open And renaming intro -> zA0
open Option renaming bind_eq_bind -> zA1, bind_eq_some_iff -> zA2, bind_some -> zA4, map_some -> zB1, map_eq_some_iff -> zB5
open List renaming length_cons -> zA3, mem_singleton -> zA6, mem_cons -> zA9, length_nil -> zB0, length_append -> zB2, getElem?_eq_getElem -> zB3, mem_append -> zB4, mem_map -> zB6, nodup_cons -> zB8, map_cons -> zB9, mem_of_getElem? -> zC0, length_drop -> zC1, take_of_length_le -> zC3, mem_cons_of_mem -> zC4, getElem?_eq_none -> zC5, append_assoc -> zC9, nil_append -> zD0, drop_zero -> zD2, all_eq_true -> zD3, append_nil -> zD4, nodup_append -> zD5, mem_cons_self -> zD7, getElem?_eq_some_iff -> zE0, getElem?_map -> zE1, getD_eq_getElem?_getD -> zE3, map_nil -> zE6, eq_nil_of_length_eq_zero -> zE7, drop_eq_nil_of_le -> zE8, length_map -> zE9, length_take -> zF1, not_mem_nil -> zF2, getElem?_cons_zero -> zF3, getElem?_set -> zF4, mem_range -> zF5, cons_append -> zG1, length_replicate -> zG2, ext_getElem? -> zG4, getElem?_append_right -> zG5, getElem?_cons_succ -> zG6
open Nat renaming le_refl -> zA5, le_of_ble_eq_true -> zA8, zero_le -> zB7, lt_or_ge -> zC2, zero_add -> zC6, le_trans -> zC7, lt_of_lt_of_le -> zD1, add_zero -> zD6, lt_succ_self -> zD9, ble_eq -> zE2, mul_one -> zE5, min -> zF0, add_sub_cancel_left -> zF9, sub_self -> zG0
open Bool renaming and_eq_true -> zA7, false_eq_true -> zC8, and_self -> zD8, not_true -> zE4, or_false -> zF6, false_and -> zF7, or_true -> zF8, or_eq_true -> zG3
namespace Go.Ax
def bB{α:Sort _}(a:α):∃ x,a=x:=⟨a,rfl⟩
def fP{α:Type}(d:α):List α->Nat->α->List α
 |[],0,v=>[v]
 |[],i+1,v=>d::fP d [] i v
 |_::r,0,v=>v::r
 |x::r,i+1,v=>x::fP d r i v
structure RV where
 t:List (List gt)
 n:Nat
def RV.get(v:RV)(i:Nat):Value:=(v.t.getD (i / 16) []).getD (i % 16) undef
def RV.set(v:RV)(i:Nat)(x:gt):RV :=
 match v with
 |⟨t,n⟩=>⟨fP [] t (i / 16) (fP undef (t.getD (i / 16) []) (i % 16) x),n⟩
def RV.jJ(v:RV)(i:Nat):Nat->List gt
 |0=>[]
 |k+1=>v.get i::RV.jJ v (i+1) k
def RV.fk(v:RV)(i:Nat):List gt->RV
 |[]=>v
 |x::r=>RV.fk (v.set i x) (i+1) r
def Mk{α:Type}(n:Nat)(k:Nat->α):α :=
 match n+1 with
 |0=>k 0
 |m+1=>k m
def RV.ofList(l:List gt):RV:=Mk l.length fun n=>match RV.fk ⟨[],0⟩ 0 l with
 |⟨t,_⟩=>⟨t,n⟩
structure dw where
 obj:Obj
 opn:Bool
 rv:RV
structure aa where
 root:List (List (List (Option dw)))
 next:Nat
 base:Nat
 dirty:List Nat
def aa.get(h:aa)(n:Nat):Option dw :=
 ((h.root.getD (n / 256) []).getD (n / 16 % 16) []).getD (n % 16) bi
def ek(a:List (List (List (Option dw))))(n:Nat)(o:Option dw):List (List (List (Option dw))) :=
 fP [] a (n / 256) (fP [] (a.getD (n / 256) []) (n / 16 % 16) (fP bi ((a.getD (n / 256) []).getD (n / 16 % 16) []) (n % 16) o))
def aa.put(h:aa)(n:Nat)(o:Option dw):aa :=
 match h with
 |⟨r,k,b,d⟩=>⟨ek r n o,k,b,d⟩
def aa.cy(h:aa)(n:Nat)(o:Option dw):aa :=
 match h with
 |⟨r,k,b,d⟩=>⟨ek r n o,k,b,if Nat.blt n b then n::d else d⟩
theorem aa.eD(h:aa)(n:Nat)(o:Option dw):h.cy n o=⟨ek h.root n o,h.next,h.base,if Nat.blt n h.base then n::h.dirty else h.dirty⟩:=rfl
theorem aa.put_eq(h:aa)(n:Nat)(o:Option dw):h.put n o=⟨ek h.root n o,h.next,h.base,h.dirty⟩:=rfl
def aa.new(h:aa)(o:dw):aa :=
 match h with
 |⟨r,k,b,d⟩=>Mk (k+1) fun a=>⟨ek r k (ap o),a,b,d⟩
mutual
def af:gt->Bool
 |i9 (ap _)=>gc
 |jp (ap _) _ _=>gc
 |.map (ap _)=>gc
 |.chan (ap _)=>gc
 |.func (.yield _) _ _=>gc
 |.func _ a b=>KF a&&KF b
 |.iface _ v=>af v
 |.agg cs=>KF cs
 |.tuple cs=>KF cs
 |_=>bv
def KF:Array gt->Bool
 |⟨l⟩=>Cz l
def Cz:List gt->Bool
 |[]=>bv
 |v::r=>af v&&Cz r
end
mutual
def aV(N:Nat):gt->Bool
 |i9 (ap a)=>Nat.blt a.block N
 |jp (ap a) _ _=>Nat.blt a.block N
 |.map (ap r)=>Nat.blt r N
 |.chan (ap k)=>Nat.blt k N
 |.func (.yield l) a b=>Nat.blt l N&&eU N a&&eU N b
 |.func _ a b=>eU N a&&eU N b
 |.iface _ v=>aV N v
 |.agg cs=>eU N cs
 |.tuple cs=>eU N cs
 |_=>bv
def eU(N:Nat):Array gt->Bool
 |⟨l⟩=>aX N l
def aX(N:Nat):List gt->Bool
 |[]=>bv
 |v::r=>aV N v&&aX N r
end
def cN{α:Type}(P:io):Sem α->Option α
 |.pure a=>ap a
 |.program k=>cN P (k P)
 |.mark _ k=>cN P k
 |_=>bi
def oW{α:Type}(P:io):Sem α->Option gt
 |.halt (.panic v)=>ap v
 |.program k=>oW P (k P)
 |.mark _ k=>oW P k
 |_=>bi
theorem aa.o5(h:aa)(o:dw):h.new o=⟨ek h.root h.next (ap o),h.next+1,h.base,h.dirty⟩:=rfl
theorem RV.F9(v:RV)(i:Nat)(x:gt):v.set i x={v with t:=fP [] v.t (i / 16) (fP undef (v.t.getD (i / 16) []) (i % 16) x)}:=rfl
theorem RV.ofList_eq(l:List gt):RV.ofList l={RV.fk ⟨[],0⟩ 0 l with n:=l.length}:=rfl
structure ai where
 env:RV
 defers:List Deferred
def ai.put(a:ai)(dst:Option Tmp)(v:gt):ai :=
 match dst with
 |some d=>(match a with
  |⟨⟨t,n⟩,b⟩=>if Nat.blt d n then⟨RV.set ⟨t,n⟩ d v,b⟩ else⟨⟨t,n⟩,b⟩)
 |none=>a
def ai.put_eq(a:ai)(dst:Option Tmp)(v:gt):a.put dst v=match dst with
 |some d=>if Nat.blt d a.env.n then {a with env:=a.env.set d v} else a
 |none=>a:=by
 cases dst with
 |none=>rfl
 |some d=>rfl
def ai.tmp(a:ai)(t:Nat):Value:=if Nat.blt t a.env.n then a.env.get t else undef
def aP(P:io)(a:ai):i4->Option gt
 |.tmp t=>ap (a.tmp t)
 |.const v=>if af v then ap v else bi
 |.global g=>if Nat.blt g P.globals.size then ap (i9 (ap ⟨g,0,bi⟩)) else bi
 |.func f=>ap (.func (.func f) #[] #[])
def eR(P:io)(a:ai):List i4->Option (List gt)
 |[]=>ap []
 |x::r=>do
  let v <-aP P a x
  let vs <-eR P a r
  ap (v::vs)
def bg(P:io)(t:ii):Option Nat:=(P.info? t).map (·.size)
def bytesOf(P:io)(t:ii):Option Nat:=(P.info? t).map (·.bytes)
def zeroOf(P:io)(t:ii):Option gt :=
 match P.info? t with
 |some i=>(match i.zero with
  |some v=>if af v then ap v else bi
  |none=>bi)
 |none=>bi
def ey(P:io)(t:ii):Option Bool :=
 match P.underlying t with
 |some (.struct _)=>ap bv
 |some (.array _ _)=>ap bv
 |some _=>ap gc
 |none=>bi
def RY:gt->Bool
 |.agg _=>gc
 |.tuple _=>gc
 |.bool _=>gc
 |_=>bv
def one:gt->Bool
 |.agg _=>gc
 |.tuple _=>gc
 |_=>bv
def bI(H:aa)(n:Nat):Option (RV × ii × Bool) :=
 match H.get n with
 |some ⟨.cells _ e (0,_),o,v⟩=>ap (v,e,o)
 |_=>bi
def cM(H:aa)(n:Nat):Option (RV × ii × Bool) :=
 match H.get n with
 |some ⟨.cells _ e _,o,v⟩=>ap (v,e,o)
 |_=>bi
def fR(P:io)(H:aa)(t:ii)(v:gt):Option gt :=
 match v with
 |i9 (ap ⟨n,off,bi⟩)=>do
  let (c,_,_) <-cM H n
  match <-ey P t with
  |true=>do
   let sz <-bg P t
   if Nat.ble (off+sz) c.n then ap (.agg ⟨c.jJ off sz⟩) else bi
  |false=>if Nat.blt off c.n then ap (c.get off) else bi
 |_=>bi
def dX(H:aa)(n off:Nat)(vs:List gt):Option aa:=do
 let (c,e,o) <-bI H n
 if Nat.ble (off+vs.length) c.n&&vs.all one&&aX H.next vs then
  ap (H.cy n (ap ⟨.cells #[] e,o,c.fk off vs⟩))
 else bi
def fa(P:io)(H:aa)(t:ii)(a v:gt):Option aa :=
 match a with
 |i9 (ap ⟨n,off,bi⟩)=>do
  let sz <-bg P t
  if v.cells.toList.length=sz then dX H n off v.cells.toList else bi
 |_=>bi
def cH(H:aa)(e:ii)(c:List gt)(o:Bool):Option aa :=
 if aX H.next c then ap (H.new ⟨.cells #[] e,o,RV.ofList c⟩) else bi
def Bq(P:io)(t:ii)(cs:List gt)(off:Nat):Option Value:=do
 match <-ey P t with
 |true=>do
  let sz <-bg P t
  ap (.agg ⟨(cs.drop off).take sz⟩)
 |false=>cs[off]?
def tS(P:io)(t:ii)(x:gt)(f:Nat):Option gt :=
 match P.underlying t,x with
 |some (.struct a),.agg cs =>
  match a.toList[f]? with
  |some b=>Bq P b.type cs.toList b.offset
  |none=>bi
 |_,_=>bi
def aG(P:io)(t:ii)(x:gt)(f:Nat):Option gt :=
 match P.underlying t,x with
 |some (.struct b),i9 (ap a) =>
  match b.toList[f]? with
  |some c=>(match bg P c.type with
   |some 0=>bi
   |some _=>ap (i9 (ap (a.add c.offset)))
   |none=>bi)
  |none=>bi
 |_,_=>bi
def gJ(P:io)(t:ii)(x i:gt):Option gt :=
 match P.underlying t,x,i with
 |some (.array len elem),.agg cs,.int _ i=>do
  let sz <-bg P elem
  if 0<=i/\i<len then Bq P elem cs.toList (i.toNat*sz) else bi
 |some .string,.string s,.int _ i=>if 0<=i then (s.data.toList[i.toNat]?).map fun b=>.int .u8 b.toNat else bi
 |_,_,_=>bi
def aS(P:io)(t:ii)(x i:gt):Option gt :=
 match P.underlying t,x,i with
 |some (.array len elem),i9 (ap a),.int _ i=>do
  let sz <-bg P elem
  if 0<=i/\i<len then ap (i9 (ap (a.add (i.toNat*sz)))) else bi
 |some (.slice elem),jp (ap a) len _,.int _ i=>do
  let sz <-bg P elem
  if 0<=i/\i<len then ap (i9 (ap ⟨a.block,a.off+i.toNat*sz,bi⟩)) else bi
 |_,_,_=>bi
def bound(d:Nat)(v:Option gt):Option Nat :=
 match v with
 |none=>ap d
 |some (.int _ i)=>if 0<=i then ap i.toNat else bi
 |_=>bi
def il(H:aa)(n:Nat):Option Bool :=
 match H.get n with
 |some ⟨.cells _ _ _,o,_⟩=>ap o
 |_=>bi
def dW(H:aa)(a:Addr):Option Bool :=
 match a.spot with
 |some 0=>ap bv
 |some (_+1)=>bi
 |none=>(il H a.block).map (!·)
def wu(H:aa)(sz:Nat)(a:Option Addr)(len cap:Nat)(lo hi:Option gt)(m:Nat):Option (gt × aa):=do
 let l <-bound 0 lo
 let h <-bound len hi
 if m<=cap/\h<=m/\l<=h/\(∀ b∈a,b.spot.getD 0=0) then
  match a with
  |none=>ap (jp bi (h-l) (m-l),H)
  |some a=>ap (jp (ap ⟨a.block,if m=l then a.off else a.off+l*sz,ap 0⟩) (h-l) (m-l),H)
 else bi
def kh(H:aa)(sz:Nat)(a:Option Addr)(len cap:Nat)(lo hi:Option gt):Option (gt × aa):=do
 let l <-bound 0 lo
 let h <-bound len hi
 if h<=cap/\l<=h then
  match a with
  |none=>ap (jp bi (h-l) (cap-l),H)
  |some a =>
   match dW H a with
   |none=>if l=0/\h=len/\a.spot.getD 0≠0 then ap (jp (ap a) len cap,H) else bi
   |some bv=>ap (jp (ap ⟨a.block,if cap=l then a.off else a.off+l*sz,ap 0⟩) (h-l) (cap-l),H)
   |some gc =>
    if l=0 then ap (jp (ap ⟨a.block,a.off,bi⟩) h cap,H)
    else if l<cap then ap (jp (ap ⟨a.block,a.off+l*sz,bi⟩) (h-l) (cap-l),H)
    else if sz=0 then bi
    else ap (jp (ap ⟨a.block,a.off+l*sz,ap (a.off+1)⟩) 0 0,H)
 else bi
def cw(P:io)(H:aa)(t:ii)(x:gt)(lo hi b:Option gt):Option (gt × aa) :=
 match P.underlying t,x,b with
 |some (.string),.string s,bi=>do
  let l <-bound 0 lo
  let h <-bound s.size hi
  if h<=s.size/\l<=h then ap (.string (s.extract l h),H) else bi
 |some (.slice e),.slice a len cap,bi=>do kh H (<-bg P e) a len cap lo hi
 |some (.slice e),.slice a len cap,ap (.int _ m)=>do
  if 0<=m/\hi.isSome=bv then wu H (<-bg P e) a len cap lo hi m.toNat else bi
 |some (.array n e),i9 (ap a),bi=>do
  let l <-bound 0 lo
  let h <-bound n hi
  let sz <-bg P e
  if h<=n/\l<=h/\a.spot=bi then
   ap (jp (ap ⟨a.block,if n=l then a.off else a.off+l*sz,ap 0⟩) (h-l) (n-l),H)
  else bi
 |_,_,_=>bi
def aq(l:List UInt8):List Value:=l.map fun b=>.int .u8 b.toNat
def dj(H:aa)(sz n:Nat):gt->Option (List gt)
 |jp (ap a) _ _=>if n=0 then ap [] else do
  let (c,_,_) <-cM H a.block
  if Nat.ble (a.off+n*sz) c.n then ap (c.jJ a.off (n*sz)) else bi
 |jp bi _ _=>ap []
 |.string s=>ap (aq (s.data.toList.take n))
 |_=>bi
def kz:gt->Option Nat
 |.slice _ n _=>ap n
 |.string s=>ap s.size
 |_=>bi
def small(n b:Nat):Bool:=Nat.ble (n*b) 140737488351232&&Nat.ble n 140737488351232
def cg(z:List gt):Nat->List gt
 |0=>[]
 |n+1=>z++cg z n
def fK(H:aa)(a:Addr)(len cap:Nat):Option Bool :=
 match a.spot with
 |some (_+1)=>if Nat.beq (len+cap) 0 then (match il H a.block with
  |some bv=>ap gc
  |_=>bi) else bi
 |_=>dW H a
def dU(H:aa)(e:ii)(sz:Nat)(base:Option Addr)(len cap n:Nat)(new:List gt):Option (gt × aa) :=
 if len+n<=cap then
  match base with
  |none=>if n=0 then ap (jp bi len cap,H) else bi
  |some a=>do
   let g <-dX H a.block (a.off+len*sz) new
   ap (.slice base (len+n) cap,g)
 else do
  let old <-dj H sz len (.slice base len cap)
  if old.length=len*sz&&old.all one&&new.all one then
   match base with
   |none=>do
    let g <-cH H e (old++new) bv
    ap (jp (ap ⟨H.next,0,bi⟩) (len+n) (len+n),g)
   |some a=>do
    match <-fK H a len cap with
    |true=>do
     let g <-cH H e (old++new) bv
     ap (jp (ap ⟨H.next,0,bi⟩) (len+n) (len+n),g)
    |false=>do
     let (v,e',_) <-bI H a.block
     if e'=e/\Nat.ble (a.off+cap*sz) v.n=bv then do
      let g <-cH (H.cy a.block bi) e (old++new) bv
      ap (jp (ap ⟨H.next,0,bi⟩) (len+n) (len+n),g)
     else bi
  else bi
def fM(P:io)(t:ii):Option Bool :=
 match P.underlying t with
 |some (.int _)=>ap bv
 |some _=>ap gc
 |none=>bi
def fL(P:io)(H:aa)(ts:Array ii)(s x:gt):Option (gt × aa) :=
 match ts.toList,s with
 |st::xt::_,.slice base len cap=>do
  let .slice e <-P.underlying st|none
  let sz <-bg P e
  let by1 <-bytesOf P e
  let a <-zeroOf P e
  match <-fM P xt,x with
  |true,i7 i8 l =>
   if 0<=l/\small (len+l.toNat) by1=bv/\a.cells.toList.length=sz then
    dU H e sz base len cap l.toNat (cg a.cells.toList l.toNat)
   else bi
  |true,_=>bi
  |false,x=>do
   let n <-kz x
   let new <-dj H sz n x
   if new.length=n*sz/\small (len+n) by1=bv/\a.cells.toList.length=sz then dU H e sz base len cap n new else bi
 |_,_=>bi
def Aq(P:io)(H:aa)(ts:Array ii)(d s:gt):Option (gt × aa) :=
 match ts.toList,d with
 |dt::_,.slice base dl _=>do
  let .slice e <-P.underlying dt|none
  let sz <-bg P e
  let sl <-kz s
  let cs <-dj H sz (zF0 sl dl) s
  match base with
  |none=>ap (goInt (zF0 sl dl),H)
  |some a =>
   if a.spot.getD 0=0\/dl≠0 then do
    let g <-dX H a.block a.off cs
    ap (goInt (zF0 sl dl),g)
   else ap (goInt 0,H)
 |_,_=>bi
def zr(P:io)(H:aa)(t:ii)(x:gt):Option gt :=
 match P.underlying t,x with
 |some (.slice _),.slice _ n _=>ap (goInt n)
 |some (.string),.string s=>ap (goInt s.size)
 |some (.map _ _),.map bi=>ap (goInt 0)
 |some (.map _ _),.map (ap r)=>(match H.get r with
  |some ⟨.map a _,_,_⟩=>ap (goInt a.size)
  |_=>bi)
 |some (.array n _),_=>ap (goInt n)
 |_,_=>bi
def Pn(P:io)(H:aa)(t:ii)(x:gt):Option gt :=
 match P.underlying t,x with
 |some (.slice _),jp bi _ n=>ap (goInt n)
 |some (.slice _),jp (ap a) _ n=>(match dW H a with
  |some bv=>ap (goInt n)
  |_=>bi)
 |some (.array n _),_=>ap (goInt n)
 |_,_=>bi
def fG(a:Bool):List gt->Option gt
 |[.int k x,.int _ y]=>ap (.int k (if a then (if y>x then y else x) else (if y<x then y else x)))
 |_=>bi
def oC:gt->Bool
 |.int _ _=>bv
 |.string _=>bv
 |.bool _=>bv
 |_=>gc
def lj:TypeDesc->Bool
 |.int _=>bv
 |.string=>bv
 |.bool=>bv
 |_=>gc
def vW(P:io)(H:aa)(t:ii)(m k:gt):Option (gt × aa) :=
 match P.underlying t,m with
 |some (.map b _),.map (ap r)=>(match H.get r with
  |some ⟨.map c a,_,_⟩=>do
   let kd <-P.underlying b
   if oC k&&lj kd then
    match Instr.findNow kd k c.toList 0 with
    |some (ap (i,_))=>ap (.tuple #[],H.cy r (ap ⟨.map (c.eraseIdxIfInBounds i) a,gc,⟨[],0⟩⟩))
    |some bi=>ap (.tuple #[],H.cy r (ap ⟨.map c a,gc,⟨[],0⟩⟩))
    |none=>bi
   else bi
  |_=>bi)
 |_,_=>bi
def Ck(P:io)(H:aa)(t:ii)(x:gt):Option (gt × aa) :=
 match P.underlying t,x with
 |some (.slice _),jp bi _ _=>ap (.tuple #[],H)
 |some (.slice e),jp (ap a) n _=>(match n with
  |0=>ap (.tuple #[],H)
  |n+1=>do
   let z <-zeroOf P e
   let g <-dX H a.block a.off (cg z.cells.toList (n+1))
   ap (.tuple #[],g))
 |_,_=>bi
def nc(x:gt):Option gt :=
 match x with
 |jp bi _ _=>ap (i9 bi)
 |jp (ap ⟨n,off,_⟩) _ (_+1)=>ap (i9 (ap ⟨n,off,bi⟩))
 |_=>bi
def cC:List gt->Option (List UInt8)
 |[]=>ap []
 |.int .u8 n::r=>(cC r).map (UInt8.ofNat n.toNat::·)
 |_=>bi
def mO(P:io)(H:aa)(ts:Array ii)(p n:gt):Option (gt × aa) :=
 match ts.toList,p,n with
 |_::_,i9 bi,i7 i8 0=>ap (.string .empty,H)
 |pt::_,i9 (ap ⟨b,off,bi⟩),i7 i8 n=>do
  let .pointer a <-P.underlying pt|none
  let .int .u8 <-P.underlying a|none
  let 1 <-bg P a|none
  match H.get b with
  |some ⟨.cells z e (0,q),o,c⟩ =>
   if n=0 then ap (.string .empty,H)
   else if e=a/\0<n/\n<1000000000/\Nat.ble (off+n.toNat) c.n=bv then do
    let l <-cC (c.jJ off n.toNat)
    ap (.string ⟨l.toArray⟩,H.cy b (ap ⟨.cells z e (1,q),bv,c⟩))
   else bi
  |_=>bi
 |_,_,_=>bi
def aF(P:io)(H:aa)(b:Builtin)(ts:Array ii)(args:List gt):Option (gt × aa) :=
 match b,args with
 |.unsafeSliceData,[x]=>(nc x).map fun v=>(v,H)
 |.unsafeString,[p,n]=>mO P H ts p n
 |.append,[s,x]=>fL P H ts s x
 |.copy,[d,s]=>Aq P H ts d s
 |.len,[x]=>(match ts.toList with
  |t::_=>(zr P H t x).map fun v=>(v,H)
  |[]=>bi)
 |.cap,[x]=>(match ts.toList with
  |t::_=>(Pn P H t x).map fun v=>(v,H)
  |[]=>bi)
 |.delete,[m,k]=>(match ts.toList with
  |t::_=>vW P H t m k
  |[]=>bi)
 |.clear,[x]=>(match ts.toList with
  |t::_=>Ck P H t x
  |[]=>bi)
 |.max,args=>(fG bv args).map fun v=>(v,H)
 |.min,args=>(fG gc args).map fun v=>(v,H)
 |_,_=>bi
def OA(P:io)(H:aa):Nat->ii->gt->gt->Option Bool
 |0,_,_,_=>bi
 |d+1,t,x,y =>
  match P.underlying t,x,y with
  |some (.pointer _),i9 bi,.pointer b=>ap b.isNone
  |some (.pointer _),i9 (ap _),i9 bi=>ap gc
  |some (.pointer e),i9 (ap a),i9 (ap b) =>
   (match bg P e,il H a.block,il H b.block with
   |some (_+1),ap gc,ap gc=>ap (a == b)
   |_,_,_=>bi)
  |some (.slice _),jp bi _ _,.slice b _ _=>ap b.isNone
  |some (.slice _),jp (ap _) _ _,jp bi _ _=>ap gc
  |some (.map _ _),.map bi,.map b=>ap b.isNone
  |some (.map _ _),.map (ap _),.map bi=>ap gc
  |some (.func _ _ _),.nilFunc,.func _ _ _=>ap gc
  |some (.func _ _ _),.func _ _ _,.nilFunc=>ap gc
  |some (.interface _),.nilIface,.iface _ _=>ap gc
  |some (.interface _),.iface _ _,.nilIface=>ap gc
  |some (.interface _),.iface c f,.iface ty g =>
   if c≠ty then ap gc else
   (match P.info? c with
   |some i=>if i.comparable then OA P H d c f g else bi
   |none=>bi)
  |_,_,_=>bi
def dy(c:BinOp)(k:IntKind)(a b:Int):Option gt :=
 match c with
 |.add=>ap (.int k (k.wrap (a+b)))
 |.sub=>ap (.int k (k.wrap (a-b)))
 |.mul=>ap (.int k (k.wrap (a*b)))
 |.quo=>if b=0 then bi else ap (.int k (k.wrap (a.tdiv b)))
 |.rem=>if b=0 then bi else ap (.int k (a.tmod b))
 |.eql=>ap (kw (a == b))
 |.neq=>ap (kw (a != b))
 |.lss=>ap (kw (a<b))
 |.leq=>ap (kw (a<=b))
 |.gtr=>ap (kw (a>b))
 |.geq=>ap (kw (a ≥ b))
 |_=>bi
def sH(a:BinOp)(b:Bool):Option gt :=
 match a with
 |.eql=>ap (kw b)
 |.neq=>ap (.bool !b)
 |_=>bi
def rI(P:io)(H:aa)(a:BinOp)(t:ii)(x y:gt):Option gt :=
 match x,y with
 |.agg _,_=>bi
 |.nilIface,.nilIface=>bi
 |x,y=>(OA P H 100 t x y).bind (sH a)
def gi(P:io)(x:gt)(a:ii)(b:Bool):Option gt :=
 match P.underlying a,x with
 |some (.interface want),.iface t _ =>
  (match P.info? t with
  |some i=>(match Instr.missingMethod want i.methods with
   |none=>ap (if b then .tuple #[x,kw bv] else x)
   |some _=>if b then (zeroOf P a).map fun z=>.tuple #[z,kw gc] else bi)
  |none=>bi)
 |some _,.nilIface=>if b then (zeroOf P a).map fun z=>.tuple #[z,kw gc] else bi
 |some _,.iface t v =>
  if t=a then ap (if b then .tuple #[v,kw bv] else v)
  else if b then (zeroOf P a).map fun z=>.tuple #[z,kw gc] else bi
 |_,_=>bi
def Rr(P:io):Bool:=P.funcs.toList.all fun fn=>fn.name != "runtime.NumGoroutine"
def aB(P:io)(f:FuncId):Bool :=
 match P.funcs[f]? with
 |some fn=>fn.body.isSome&&Rr P
 |none=>gc
def y6(P:io)(H:aa)(t:ii)(v:gt)(b:Bool):Option gt :=
 match P.underlying t,b,v with
 |some (.pointer _),bv,v=>ap v
 |some (.pointer e),gc,i9 (ap a)=>fR P H e (i9 (ap a))
 |some (.pointer _),gc,_=>bi
 |some _,gc,v=>ap v
 |_,_,_=>bi
def CL(P:io)(t:ii)(name:String):Option (FuncId × Bool) :=
 match P.info? t with
 |some i =>
  (match i.methods.find? (·.name == name) with
  |some m=>if m.path.isEmpty then m.func else bi
  |none=>bi)
 |none=>bi
def nM:List Tmp->List gt->RV->RV
 |t::ts,v::vs,e=>nM ts vs (if Nat.blt t e.n then e.set t v else e)
 |_,_,e=>e
structure Round where
 l:Nat
 env:RV
 assign:Code
 body:Code
inductive cO where
 |value (v:gt)
 |skip
 |enter (f:FuncId) (args:List gt)
 |round (r:Round)
 |panic (v:gt)
def BR(H:aa)(l:Nat)(args:List gt):Option cO :=
 match H.get l with
 |some ⟨.loop r,_,e⟩ =>
  if args.length=r.params.toList.length then ap (.round ⟨l,nM r.params.toList args e,r.assign,r.body⟩) else bi
 |_=>bi
def jh(P:io)(f:FuncId)(args:List gt):Option cO :=
 if aB P f then ap (.enter f args) else bi
def fF(P:io)(H:aa)(fn:Fn)(args a:List gt):Option cO :=
 match fn,args with
 |.func f,args=>jh P f (args++a)
 |.yield l,args=>BR H l args
 |.method name,.iface t v::r=>do
  let (f,b) <-CL P t name
  let x <-y6 P H t v b
  jh P f (x::r)
 |.via t c f b,x::r=>do
  if c.isEmpty then do
   let y <-y6 P H t x b
   jh P f (y::r)
  else bi
 |_,_=>bi
abbrev dV:=Option (cO × aa)
def rv(H:aa)(x:Option gt):dV:=x.map fun y=>(.value y,H)
def tN(x:Option (gt × aa)):dV:=x.map fun y=>(.value y.1,y.2)
def Mi(x:Option aa):dV:=x.map fun y=>(.skip,y)
def zS(H:aa):Option Nat->Option (Array MapEntry)
 |none=>ap #[]
 |some r=>(match H.get r with
  |some ⟨.map a _,_,_⟩=>ap a
  |_=>bi)
def lr(P:io)(H:aa)(t:ii)(x k:gt)(ok:Bool):Option gt :=
 match P.underlying t,x with
 |some (.map a elem),.map r=>do
  let b <-zS H r
  let kd <-P.underlying a
  if oC k&&lj kd then
   match Instr.findNow kd k b.toList 0 with
   |some (ap (_,v))=>ap (if ok then .tuple #[v,kw bv] else v)
   |some bi=>(zeroOf P elem).map fun z=>if ok then .tuple #[z,kw gc] else z
   |none=>bi
  else bi
 |_,_=>bi
def bN(P:io)(H:aa)(t:ii)(x k v:gt):Option aa :=
 match P.underlying t,x with
 |some (.map key _),.map (ap r)=>(match H.get r with
  |some ⟨.map b a,_,_⟩=>do
   let kd <-P.underlying key
   if oC k&&lj kd&&aV H.next v then
    match Instr.findNow kd k b.toList 0 with
    |some (ap (i,_))=>ap (H.cy r (ap ⟨.map (b.modify i fun e=>{e with key:=k,val:=v}) a,gc,⟨[],0⟩⟩))
    |some bi=>ap (H.cy r (ap ⟨.map (b.push {key:=k,val:=v,born:=a}) (a+1),gc,⟨[],0⟩⟩))
    |none=>bi
   else bi
  |_=>bi)
 |_,_=>bi
def dR(P:io)(t:ii)(a:List (Nat × gt)):Option Value:=do
 let z <-zeroOf P t
 match P.underlying t with
 |some (.struct b)=>do
  let c <-cN P (b.mapM fun f=>do pure (f.offset,<-sizeOf f.type))
  (Instr.fill (c[·]?) z.cells a).map .agg
 |some (.array _ elem)=>do
  let sz <-bg P elem
  (Instr.fill (fun i=>ap (i*sz,sz)) z.cells a).map .agg
 |_=>bi
def bU(P:io)(H:aa)(t:ii)(len:Nat)(a:List (Nat × gt)):Option (gt × aa):=do
 let .slice e <-P.underlying t|none
 let sz <-bg P e
 let z <-zeroOf P e
 if len*sz<=1000000/\z.cells.toList.length=sz then do
  let cells <-Instr.fill (fun i=>ap (i*sz,sz)) (cg z.cells.toList len).toArray a
  let g <-cH H e cells.toList gc
  ap (jp (ap ⟨H.next,0,ap 0⟩) len len,g)
 else bi
def fc(P:io)(H:aa)(t:ii)(l c:gt):Option (gt × aa) :=
 match l,c with
 |i7 i8 l,i7 i8 c=>do
  let .slice e <-P.underlying t|none
  let by1 <-bytesOf P e
  let sz <-bg P e
  let z <-zeroOf P e
  if 0<=l/\l<=c/\small c.toNat by1=bv/\z.cells.toList.length=sz then do
   let g <-cH H e (cg z.cells.toList c.toNat) gc
   ap (jp (ap ⟨H.next,0,ap 0⟩) l.toNat c.toNat,g)
  else bi
 |_,_=>bi
def fp:List gt->Option (List UInt8)
 |[]=>ap []
 |.int .i32 n::r=>(fp r).map ((Utf8.encode n).data.toList++·)
 |_=>bi
def bM(P:io)(H:aa)(b dst:ii)(x:gt):Option (gt × aa) :=
 match P.underlying b,P.underlying dst,x with
 |some _,ap (.int k),.int _ n=>ap (.int k (k.wrap n),H)
 |some _,ap .string,.string s=>ap (.string s,H)
 |some _,ap .string,.int _ n=>ap (.string (Utf8.encode n),H)
 |some _,ap (.slice e),.string s=>(match P.underlying e with
  |some (.int .u8)=>do
   let 1 <-bg P e|none
   if Nat.ble s.size 1000000000 then do
    let g <-cH H e (aq s.data.toList) bv
    ap (jp (ap ⟨H.next,0,bi⟩) s.size s.size,g)
   else bi
  |some (.int .i32)=>do
   let 1 <-bg P e|none
   if Nat.ble (Conv.runesFrom s s.size 0 #[]).toList.length 1000000000 then do
    let g <-cH H e (Conv.runesFrom s s.size 0 #[]).toList bv
    ap (jp (ap ⟨H.next,0,bi⟩) (Conv.runesFrom s s.size 0 #[]).toList.length (Conv.runesFrom s s.size 0 #[]).toList.length,g)
   else bi
  |_=>bi)
 |some (.slice e),ap .string,.slice a len _=>do
  let cs <-dj H 1 len (.slice a len len)
  match P.underlying e with
  |some (.int .u8)=>(cC cs).map fun l=>(.string ⟨l.toArray⟩,H)
  |some (.int .i32)=>(fp cs).map fun l=>(.string ⟨l.toArray⟩,H)
  |_=>bi
 |some (.slice _),ap (.slice e),jp (ap a) len cap=>do
  let .int .u8 <-P.underlying e|none
  match H.get a.block with
  |some ⟨.cells z ty q,gc,c⟩ =>
   if Nat.beq b dst&&Nat.beq (a.spot.getD 0) 0 then ap (jp (ap a) len cap,H.cy a.block (ap ⟨.cells z ty q,bv,c⟩)) else bi
  |_=>bi
 |some (.pointer _),ap .unsafePointer,i9 bi=>ap (i9 bi,H)
 |some (.pointer t),ap .unsafePointer,i9 (ap ⟨n,off,bi⟩)=>do
  let sz <-bg P t
  let (c,_,_) <-cM H n
  if Nat.blt 0 sz&&Nat.blt off c.n then ap (i9 (ap ⟨n,off,bi⟩),H) else bi
 |some .unsafePointer,ap (.pointer _),i9 bi=>ap (i9 bi,H)
 |some .unsafePointer,ap (.pointer u),i9 (ap ⟨n,0,bi⟩)=>do
  let sz <-bg P u
  match H.get n with
  |some ⟨.cells _ e _,gc,c⟩=>if Nat.beq e u&&Nat.beq c.n sz&&Nat.blt 0 sz then ap (i9 (ap ⟨n,0,bi⟩),H) else bi
  |_=>bi
 |_,_,_=>bi
def qP(P:io)(H:aa)(t:ii)(x:gt):Option (gt × aa) :=
 match P.underlying t,x with
 |some .string,.string s=>ap (i9 (ap ⟨H.next,0,bi⟩),H.new ⟨.stringIter s 0,gc,⟨[],0⟩⟩)
 |_,_=>bi
def sa(H:aa)(c:gt)(a:Bool):Option (gt × aa) :=
 match c,a with
 |i9 (ap ⟨r,0,bi⟩),bv=>(match H.get r with
  |some ⟨.stringIter s b,_,_⟩ =>
   if b<s.size then
    ap (.tuple #[kw bv,goInt b,.int .i32 (Utf8.decode s b).1],H.cy r (ap ⟨.stringIter s (b+(Utf8.decode s b).2),gc,⟨[],0⟩⟩))
   else ap (.tuple #[kw gc],H)
  |_=>bi)
 |_,_=>bi
def gv(P:io)(a:ai):List (Nat × i4)->Option (List (Nat × gt))
 |[]=>ap []
 |(i,x)::r=>do
  let v <-aP P a x
  let vs <-gv P a r
  ap ((i,v)::vs)
def lG(P:io)(a:ai):Option i4->Option (Option gt)
 |none=>ap bi
 |some x=>(aP P a x).map ap
def jz(P:io):Value:=.iface P.rt.errorString (strVal "invalid memory address or nil pointer dereference")
def qo(x:i4)(P:io)(a:ai)(H:aa):dV:=rv H (aP P a x)
def Be(c x y:i4)(P:io)(a:ai)(H:aa):dV:=do
 match <-aP P a c with
 |.bool bv=>rv H (aP P a x)
 |.bool gc=>rv H (aP P a y)
 |_=>bi
def zu(t:ii)(v:gt)(H:aa):dV:=do
 let g <-cH H t v.cells.toList gc
 ap (.value (i9 (ap ⟨H.next,0,bi⟩)),g)
def xk(t:ii)(P:io)(_:ai)(H:aa):dV:=do zu t (<-zeroOf P t) H
def xB(t:ii)(x:i4)(P:io)(a:ai)(H:aa):dV:=do zu t (<-aP P a x) H
def tA(t:ii)(b:Array (Nat × i4))(P:io)(a:ai)(H:aa):dV:=do rv H (dR P t (<-gv P a b.toList))
def iA(t:ii)(n:Nat)(b:Array (Nat × i4))(P:io)(a:ai)(H:aa):dV:=do tN (bU P H t n (<-gv P a b.toList))
def Fb(t:ii)(x:i4)(P:io)(a:ai)(H:aa):dV:=do rv H (fR P H t (<-aP P a x))
def zj(t:ii)(x y:i4)(P:io)(a:ai)(H:aa):dV:=do Mi (fa P H t (<-aP P a x) (<-aP P a y))
def zA(P:io)(H:aa)(v:gt):dV :=
 match v with
 |i9 bi=>ap (.panic (jz P),H)
 |.nilIface=>ap (.panic (jz P),H)
 |.nilFunc=>ap (.panic (jz P),H)
 |.func (.method _) _ _=>bi
 |.chan _=>bi
 |y=>ap (.value y,H)
def JB(x:i4)(P:io)(a:ai)(H:aa):dV:=do zA P H (<-aP P a x)
def df(P:io)(H:aa)(c:BinOp)(t:ii)(x y:gt):Option gt :=
 match x,y with
 |.int k a,.int d b=>if k=d then dy c k a b else bi
 |.bool a,kw b=>(match P.underlying t with
  |some .bool=>sH c (a == b)
  |_=>bi)
 |x,y=>rI P H c t x y
def iZ(P:io)(s:Sem gt):Option cO :=
 match cN P s with
 |some v=>if af v then ap (.value v) else bi
 |none=>(match oW P s with
  |some v=>if af v then ap (.panic v) else bi
  |none=>bi)
def zo(P:io)(H:aa)(a:BinOp)(t:ii)(x y:i4)(p q:gt):dV :=
 match df P H a t p q with
 |some v=>ap (.value v,H)
 |none=>if af p&&af q then (iZ P (do eqGuard a t x y p q; binOp a t p q)).map fun r=>(r,H) else bi
def BM(b:BinOp)(t:ii)(x y:i4)(P:io)(a:ai)(H:aa):dV:=do
 let p <-aP P a x
 let q <-aP P a y
 zo P H b t x y p q
def QX(P:io)(H:aa)(op:UnOp)(v:gt):dV :=
 match op,v with
 |.not,kw b=>ap (.value (.bool !b),H)
 |.neg,.int k n=>ap (.value (.int k (k.wrap (0-n))),H)
 |op,v=>if af v then (iZ P (Op.unary op v)).map fun r=>(r,H) else bi
def QZ(b:UnOp)(x:i4)(P:io)(a:ai)(H:aa):dV:=do QX P H b (<-aP P a x)
def og(s d:ii)(x:i4)(P:io)(a:ai)(H:aa):dV:=do tN (bM P H s d (<-aP P a x))
def wP(P:io)(H:aa)(t:ii)(v:gt):dV :=
 match P.underlying t with
 |some (.interface _)=>bi
 |some _=>ap (.value (.iface t v),H)
 |none=>bi
def Ci(t:ii)(x:i4)(P:io)(a:ai)(H:aa):dV:=do wP P H t (<-aP P a x)
def A9(H:aa)(fn:Fn)(p q:List gt):dV :=
 match fn with
 |.yield _=>bi
 |fn=>ap (.value (.func fn ⟨p⟩ ⟨q⟩),H)
def Du(fn:Fn)(first b:Array i4)(P:io)(a:ai)(H:aa):dV:=do A9 H fn (<-eR P a first.toList) (<-eR P a b.toList)
def qY(H:aa):dV:=ap (.value (.map (ap H.next)),H.new ⟨.map #[] 0,gc,⟨[],0⟩⟩)
def rD(t:ii)(r:Option i4)(P:io)(a:ai)(H:aa):dV :=
 match r with
 |none=>qY H
 |some x=>do
  let .map _ _ <-P.underlying t|none
  let i7 i8 _ <-aP P a x|none
  qY H
def kA(t:ii)(l c:i4)(P:io)(a:ai)(H:aa):dV:=do tN (fc P H t (<-aP P a l) (<-aP P a c))
def wZ(t:ii)(x:i4)(lo hi b:Option i4)(P:io)(a:ai)(H:aa):dV:=do
 tN (cw P H t (<-aP P a x) (<-lG P a lo) (<-lG P a hi) (<-lG P a b))
def jo(t:ii)(x:i4)(f:Nat)(P:io)(a:ai)(H:aa):dV:=do rv H (aG P t (<-aP P a x) f)
def CC(t:ii)(x:i4)(f:Nat)(P:io)(a:ai)(H:aa):dV:=do rv H (tS P t (<-aP P a x) f)
def iY(t:ii)(x i:i4)(P:io)(a:ai)(H:aa):dV:=do rv H (aS P t (<-aP P a x) (<-aP P a i))
def o8(P:io)(H:aa)(t:ii)(p q:gt):dV :=
 match gJ P t p q with
 |some v=>ap (.value v,H)
 |none=>if af p&&af q then (iZ P (Instr.index t p q)).map fun r=>(r,H) else bi
def tJ(t:ii)(x i:i4)(P:io)(a:ai)(H:aa):dV:=do o8 P H t (<-aP P a x) (<-aP P a i)
def vO(t:ii)(x k:i4)(ok:Bool)(P:io)(a:ai)(H:aa):dV:=do rv H (lr P H t (<-aP P a x) (<-aP P a k) ok)
def ij(t:ii)(m k x:i4)(P:io)(a:ai)(H:aa):dV:=do Mi (bN P H t (<-aP P a m) (<-aP P a k) (<-aP P a x))
def BA(t:ii)(x:i4)(P:io)(a:ai)(H:aa):dV:=do tN (qP P H t (<-aP P a x))
def Iy(b:i4)(s:Bool)(P:io)(a:ai)(H:aa):dV:=do tN (sa H (<-aP P a b) s)
def lF(x:i4)(b:ii)(ok:Bool)(P:io)(a:ai)(H:aa):dV:=do rv H (gi P (<-aP P a x) b ok)
def ku(H:aa)(i:Nat)(v:gt):dV :=
 match v with
 |.tuple vs=>rv H (vs.toList[i]?)
 |_=>bi
def mq(x:i4)(i:Nat)(P:io)(a:ai)(H:aa):dV:=do ku H i (<-aP P a x)
def qw(P:io)(H:aa)(f:gt)(args:List gt):dV :=
 match f with
 |.func fn first a=>(fF P H fn (first.toList++args) a.toList).map fun r=>(r,H)
 |_=>bi
def Hq(P:io)(g:FuncId)(name:String):Bool :=
 match P.funcs[g]? with
 |some fn=>fn.body.isNone&&fn.name == name&&fn.origin == ""
 |none=>gc
def nH(P:io)(H:aa)(g:FuncId)(args:List gt):dV :=
 match args with
 |[i9 (ap a)]=>if Hq P g "internal/abi.NoEscape" then ap (.value (i9 (ap a)),H) else bi
 |[i7 i8 n]=>if Hq P g "internal/bytealg.MakeNoZero" && ge (0<=n)&&ge (n<1000000000) then
   (match P.funcs[g]? with
   |some fn=>(match fn.resultTypes.toList with
    |[t]=>(match P.underlying t with
     |some (.slice e)=>(match bg P e with
      |some 1=>ap (.value (jp (ap ⟨H.next,0,bi⟩) n.toNat 0),H.new ⟨.cells #[] e (0,0),bv,⟨[],0⟩⟩)
      |_=>bi)
     |_=>bi)
    |_=>bi)
   |none=>bi)
  else bi
 |_=>bi
def vK(P:io)(H:aa)(f:gt)(args:List gt):dV :=
 match f with
 |.func (.func g) ⟨[]⟩ ⟨[]⟩ =>
  if Cz args then
   match cN P (callFunc g ⟨args⟩) with
   |some (.value v)=>if af v then ap (.value v,H) else bi
   |_=>nH P H g args
  else nH P H g args
 |_=>bi
def lx(c:Call)(P:io)(a:ai)(H:aa):dV:=do
 let args <-eR P a c.args.toList
 match c.callee with
 |.builtin b=>tN (aF P H b c.argTypes args)
 |.invoke d name=>do
  let r <-aP P a d
  (fF P H (.method name) (r::args) []).map fun r=>(r,H)
 |.value f=>do
  let f <-aP P a f
  match qw P H f args with
  |some r=>ap r
  |none=>vK P H f args
def GV(H:aa)(v:gt):dV :=
 match v with
 |.iface t y=>ap (.panic (.iface t y),H)
 |_=>bi
def Fo(x:i4)(P:io)(a:ai)(H:aa):dV:=do GV H (<-aP P a x)
def Df(_:io)(_:ai)(_:aa):dV:=bi
def cj(e:Op):io->ai->aa->dV :=
 match e with
 |.move x=>qo x
 |.assign x=>qo x
 |.pick c x y=>Be c x y
 |.alloc t=>xk t
 |.box t x=>xB t x
 |.build t g=>tA t g
 |.buildSlice t n g=>iA t n g
 |.load t x=>Fb t x
 |.store t x y=>zj t x y
 |.nilCheck x=>JB x
 |.binOp e t x y _=>BM e t x y
 |.unOp e _ x=>QZ e x
 |.makeInterface t x=>Ci t x
 |.makeFunc fn first a=>Du fn first a
 |.makeSlice t l c=>kA t l c
 |.slice t x lo hi h=>wZ t x lo hi h
 |.fieldAddr t x f=>jo t x f
 |.field t x f=>CC t x f
 |.indexAddr t x i=>iY t x i
 |.index t x i=>tJ t x i
 |.typeAssert x _ b ok=>lF x b ok
 |.extract x i=>mq x i
 |.call c=>lx c
 |.panic x=>Fo x
 |.convert s d x=>og s d x
 |.makeMap t r=>rD t r
 |.lookup t x k ok=>vO t x k ok
 |.mapUpdate t m k x=>ij t m k x
 |.insert t m k x=>ij t m k x
 |.range t x=>BA t x
 |.next j s=>Iy j s
 |_=>Df
structure Rec where
 run:Option Nat->Code->ai->aa->Option (Exit × ai × aa)
 know:FuncId->List gt->aa->Option (gt × aa)
def dH(P:io)(H:aa)(a:ai):List ResultVar->Option (List gt)
 |[]=>ap []
 |.tmp t::r=>do
  let vs <-dH P H a r
  ap (a.tmp t::vs)
 |.cell x t::r=>do
  let v <-fR P H t (a.tmp x)
  let vs <-dH P H a r
  ap (v::vs)
def BS:List gt->gt
 |[v]=>v
 |vs=>.tuple ⟨vs⟩
abbrev Out:=Except (List PanicEntry) gt
def eN:FrameMode->gt × FrameMode
 |.panicking ({v,recovered:=false,goexit:=false}::older)=>(v,.panicking ({v,recovered:=true}::older))
 |u=>(.nilIface,u)
def isRec(o:Op):Bool :=
 match o with
 |.call ⟨.builtin .recover,⟨[]⟩,_⟩=>bv
 |_=>gc
def cG(ops:Array Oper)(a:ai)(o:Oper):Option Bool :=
 match o.guard with
 |none=>ap bv
 |some (j,want)=>(match ops[j]? with
  |some c=>(match c.dst with
   |some d=>(match a.tmp d with
    |.bool b=>ap (b == want)
    |_=>ap gc)
   |none=>ap gc)
  |none=>ap gc)
def j7(P:io)(ops:Array Oper):List Oper->ai->FrameMode->aa->Option (Exit × ai × FrameMode × aa)
 |[],a,u,H=>ap (.normal,a,u,H)
 |o::rest,a,u,H =>
  match cG ops a o with
  |some bv =>
   (match isRec o.op with
   |true=>j7 P ops rest (a.put o.dst (eN u).1) (eN u).2 H
   |false=>(match cj o.op P a H with
    |some (.value v,g)=>j7 P ops rest (a.put o.dst v) u g
    |some (.skip,g)=>j7 P ops rest (a.put o.dst undef) u g
    |some (.panic v,g)=>ap (.panic [{v,recovered:=false}],a,u,g)
    |_=>bi))
  |some gc=>j7 P ops rest (a.put o.dst undef) u H
  |none=>bi
def BV(P:io)(rec:Rec):Code->ai->FrameMode->aa->Option (Exit × ai × FrameMode × aa)
 |.seq x y,a,u,H =>
  match BV P rec x a u H with
  |some (.normal,b,d,H1)=>BV P rec y b d H1
  |r=>r
 |.cond c x y,a,u,H =>
  match aP P a c with
  |some (kw bv)=>BV P rec x a u H
  |some (kw gc)=>BV P rec y a u H
  |_=>bi
 |.region id ops gc,a,u,H =>
  match ops.toList.any fun o=>isRec o.op with
  |true=>j7 P ops ops.toList a u H
  |false=>(rec.run bi (.region id ops gc) a H).map fun r=>(r.1,r.2.1,u,r.2.2)
 |c,a,u,H=>(rec.run bi c a H).map fun r=>(r.1,r.2.1,u,r.2.2)
def Rd(P:io)(fn:Func)(r:Exit × ai × FrameMode × aa):Option (Out × FrameMode × aa) :=
 match r with
 |(.normal,⟨e,[]⟩,u,H)=>(dH P H ⟨e,[]⟩ fn.results.toList).map fun vs=>(.ok (BS vs),u,H)
 |(.ret,⟨e,[]⟩,u,H)=>(dH P H ⟨e,[]⟩ fn.results.toList).map fun vs=>(.ok (BS vs),u,H)
 |(.panic a,⟨_,[]⟩,u,H)=>ap (.error a,u,H)
 |_=>bi
def sP(P:io)(rec:Rec)(f:FuncId)(args:List gt)(u:FrameMode)(H:aa):Option (Out × FrameMode × aa):=do
 let fn <-P.funcs[f]?
 let c <-fn.body
 if Nat.ble args.length fn.ntmps then do
  let r <-BV P rec c ⟨{RV.ofList args with n:=fn.ntmps},[]⟩ u H
  Rd P fn r
 else bi
def dL(P:io)(rec:Rec)(fn:Func)(a:ai):List Deferred->FrameMode->aa->Option (Out × aa)
 |[],u,H=>(match u with
  |.returning=>(dH P H a fn.results.toList).map fun vs=>(.ok (BS vs),H)
  |.panicking b=>ap (.error b,H)
  |.run=>bi)
 |d::c,u,H=>(match u with
  |.run=>bi
  |u=>(match d with
   |⟨.collected r,_⟩=>(match H.get r with
    |some ⟨.deferred (ap []),_,_⟩=>dL P rec fn a c u (H.cy r (ap ⟨.deferred bi,gc,⟨[],0⟩⟩))
    |_=>bi)
   |⟨.fn (.func f) cap,e⟩ =>
    if aB P f then
     match sP P rec f (e.toList++cap.toList) u H with
     |some (.ok _,g,H1)=>dL P rec fn a c (settle g) H1
     |some (.error b,g,H1)=>dL P rec fn a c (raised g b) H1
     |none=>bi
    else bi
   |_=>bi))
def Km(P:io)(rec:Rec)(fn:Func)(r:Exit × ai × aa):Option (Out × aa) :=
 match r with
 |(.normal,a,H1)=>dL P rec fn a a.defers .returning H1
 |(.ret,a,H1)=>dL P rec fn a a.defers .returning H1
 |(.panic b,a,H1)=>dL P rec fn a a.defers (.panicking b) H1
 |_=>bi
def CS(P:io)(rec:Rec)(f:FuncId)(args:List gt)(H:aa):Option (Out × aa):=do
 let fn <-P.funcs[f]?
 let c <-fn.body
 if Nat.ble args.length fn.ntmps then do
  let r <-rec.run bi c ⟨{RV.ofList args with n:=fn.ntmps},[]⟩ H
  Km P rec fn r
 else bi
def IK(P:io)(rec:Rec)(f:FuncId)(args:List gt)(H:aa):Option (Out × aa) :=
 match rec.know f args H with
 |some (v,g)=>ap (.ok v,g)
 |none=>CS P rec f args H
def eK(H:aa)(l:Nat)(r:Loop)(e:RV):aa:=H.cy l (ap ⟨.loop r,gc,e⟩)
def getLoop(H:aa)(l:Nat):Option (Loop × RV) :=
 match H.get l with
 |some ⟨.loop r,_,e⟩=>ap (r,e)
 |_=>bi
def pD:Exit->Option (Option Code)
 |.normal=>ap bi
 |.ret=>ap (ap .ret)
 |.exit id=>ap (ap (.exit id))
 |.goto t=>ap (ap (.goto t))
 |_=>bi
def GH(rec:Rec)(r:Round)(H:aa):Option (Out × aa):=do
 let (e,a1,H1) <-rec.run (ap r.l) r.assign ⟨r.env,[]⟩ H
 match e with
 |.normal=>do
  let (b,le) <-getLoop H1 r.l
  match b.state with
  |.ready=>do
   let (c,_,H2) <-rec.run (ap r.l) r.body a1 (eK H1 r.l {b with state:=.busy} le)
   let j <-pD c
   let (a,le2) <-getLoop H2 r.l
   ap (.ok (kw j.isNone),eK H2 r.l {a with state:=if j.isNone then .ready else .done,pending:=j} le2)
  |_=>bi
 |_=>bi
def Q2(P:io)(rec:Rec)(x:cO × aa):Option (Out × aa) :=
 match x with
 |(.value v,g)=>ap (.ok v,g)
 |(.skip,g)=>ap (.ok undef,g)
 |(.enter f args,g)=>IK P rec f args g
 |(.round r,g)=>GH rec r g
 |(.panic v,g)=>ap (.error [{v,recovered:=false}],g)
def Qk(P:io)(rec:Rec)(a:ai)(H:aa)(o:Oper):Option (Out × aa):=(cj o.op P a H).bind (Q2 P rec)
def K4(f:gt)(args:List gt):Option Deferred :=
 match f with
 |.func (.func g) first a=>ap ⟨.fn (.func g) a,⟨first.toList++args⟩⟩
 |_=>bi
def qC(P:io)(a:ai)(o:Op):Option Deferred :=
 match o with
 |.defer c=>(match c.callee with
  |.value f=>do
   let args <-eR P a c.args.toList
   let f <-aP P a f
   K4 f args
  |_=>bi)
 |_=>bi
def qV(P:io)(rec:Rec)(b:Bool)(ops:Array Oper):List Oper->ai->aa->Option (Exit × ai × aa)
 |[],a,H=>ap (.normal,a,H)
 |o::rest,a,H =>
  match cG ops a o with
  |some bv =>
   (match Qk P rec a H o with
   |some (.ok v,g)=>qV P rec b ops rest (a.put o.dst v) g
   |some (.error c,g)=>ap (.panic c,a,g)
   |none=>(match b,qC P a o.op with
    |true,ap d=>qV P rec b ops rest (ai.put ⟨a.env,d::a.defers⟩ o.dst undef) H
    |_,_=>bi))
  |some gc=>qV P rec b ops rest (a.put o.dst undef) H
  |none=>bi
mutual
def ae:gt->List Nat
 |i9 (ap a)=>[a.block]
 |jp (ap a) _ _=>[a.block]
 |.map (ap r)=>[r]
 |.chan (ap k)=>[k]
 |.func (.yield l) a b=>l::(sI a++sI b)
 |.func _ a b=>sI a++sI b
 |.iface _ v=>ae v
 |.agg cs=>sI cs
 |.tuple cs=>sI cs
 |_=>[]
def sI:Array gt->List Nat
 |⟨l⟩=>gH l
def gH:List gt->List Nat
 |[]=>[]
 |v::r=>ae v++gH r
end
def p8(o:dw):List Nat :=
 match o.obj with
 |.cells _ _ _=>gH (o.rv.jJ 0 o.rv.n)
 |.map a _=>a.toList.flatMap fun e=>ae e.key++ae e.val
 |.loop r=>r.defers::gH (o.rv.jJ 0 o.rv.n)
 |_=>[]
def reach(H:aa):Nat->List Nat->Nat->List Nat->List Nat
 |0,_,_,a=>a
 |_+1,[],_,a=>a
 |f+1,n::r,seen,a =>
  if seen.testBit n then reach H f r seen a else
  match H.get n with
  |some o=>reach H f (p8 o++r) (seen ||| 1 <<< n) (n::a)
  |none=>reach H f r (seen ||| 1 <<< n) a
def EK(n:Nat):List Nat->Bool
 |[]=>gc
 |m::r=>Nat.beq m n||EK n r
def dedup(H:aa):List Nat->List Nat->List Nat
 |[],a=>a
 |n::r,a=>if EK n a then dedup H r a else
  match H.get n with
  |some _=>dedup H r (n::a)
  |none=>dedup H r a
def direct(P:io)(a:ai)(H:aa)(xs:List i4):List Nat :=
 match eR P a xs with
 |some vs=>dedup H (gH vs) []
 |none=>[]
def Cv(H:aa):Nat->List Nat
 |0=>[]
 |n+1=>match H.get n with
  |some _=>n::Cv H n
  |none=>Cv H n
def whole(P:io)(a:ai)(H:aa)(xs:List i4):List Nat :=
 match eR P a xs with
 |some vs=>Cv H P.globals.size++reach H 1000000 (gH vs) 0 []
 |none=>[]
def RC(P:io)(c:Call):ai->aa->List Nat :=
 match c.callee with
 |.builtin _=>fun a H=>direct P a H c.args.toList
 |_=>fun a H=>whole P a H c.operands.toList
def Eh(P:io)(b:Op):ai->aa->List Nat :=
 match b with
 |.load _ x=>fun a H=>direct P a H [x]
 |.store _ x _=>fun a H=>direct P a H [x]
 |.slice _ x _ _ _=>fun a H=>direct P a H [x]
 |.lookup _ x _ _=>fun a H=>direct P a H [x]
 |.mapUpdate _ x _ _=>fun a H=>direct P a H [x]
 |.insert _ x _ _=>fun a H=>direct P a H [x]
 |.next x _=>fun a H=>direct P a H [x]
 |.convert _ _ x=>fun a H=>direct P a H [x]
 |.binOp _ _ x y _=>fun a H=>direct P a H [x,y]
 |.call c=>RC P c
 |_=>fun _ _=>[]
def aa.none(next:Nat):aa:=⟨[],next,next,[]⟩
def aa.lay(g H:aa):List Nat->aa
 |[]=>g
 |n::r=>aa.lay (g.put n (H.get n)) H r
def aa.restrict(H:aa)(F:List Nat):aa:=aa.lay (aa.none H.next) H F
def aa.eA(H g:aa):List Nat->aa
 |[]=>H
 |n::r=>aa.eA (H.cy n (g.get n)) g r
def aa.cF(H g:aa)(n:Nat):Nat->aa
 |0=>H
 |k+1=>aa.cF (H.put n (g.get n)) g (n+1) k
def aa.merge(H g:aa):aa :=
 let h:=aa.cF (aa.eA H g g.dirty) g H.next (g.next-H.next)
 ⟨h.root,g.next,h.base,h.dirty⟩
structure Fp where
 i:Nat
 F:List Nat
 W:List Nat
 lo:Nat
 hi:Nat
def OE(a b:List Nat):Bool:=a.all fun n=>!EK n b
def oU(acc:List Nat):List Edge->Nat->Nat
 |[],s=>s
 |e::r,s=>oU acc r (if Region.binds .any e then s ||| 1 <<< e.on ||| acc.getD e.on 0 else s)
def jK:List Oper->List Nat->List Nat
 |[],a=>a
 |o::r,a=>jK r (a++[oU a o.after.toList 0])
def iU(ops:Array Oper):List Nat:=jK ops.toList []
def uq:List Nat->Nat
 |[]=>0
 |t::r=>1 <<< t ||| uq r
structure Mask where
 r:Nat
 w:Nat
def so(ops:Array Oper)(o:Oper):Mask:=⟨uq (o.looksAt ops),uq o.dst.toList⟩
def uJ(ops:Array Oper):List Oper->List Mask
 |[]=>[]
 |o::r=>so ops o::uJ ops r
def Cd(x y:Mask):Bool:=Nat.beq (x.w &&& (y.r ||| y.w)) 0&&Nat.beq (y.w &&& x.r) 0
def wv(y:Mask)(anc:Nat):List Mask->Nat->Bool
 |[],_=>bv
 |x::r,i=>(anc.testBit i||Cd x y)&&wv y anc r (i+1)
def wq(j:Nat):List Edge->Bool
 |[]=>bv
 |e::r=>(!Region.binds .any e||Nat.blt e.on j)&&wq j r
def nD(a:List Mask)(anc:List Nat):List Oper->Nat->Bool
 |[],_=>bv
 |oj::r,j=>wv (a.getD j ⟨0,0⟩) (anc.getD j 0) (a.take j) 0&&wq j oj.after.toList&&nD a anc r (j+1)
def gR(ops:Array Oper):Bool:=nD (uJ ops ops.toList) (iU ops) ops.toList 0
def c8(n:Nat):Nat->List Nat
 |0=>[]
 |k+1=>n::c8 (n+1) k
def eY(g:aa)(n:Nat):List Nat :=
 match g.get n with
 |some o=>p8 o
 |none=>[]
def fV(v:gt)(g:aa)(next:Nat):List Nat:=ae v++(g.dirty++c8 next (g.next-next)).flatMap (eY g)
def CF(lo hi:Nat)(l:List Nat):Bool:=l.all fun n=>Nat.blt n lo||Nat.ble hi n
def tR(anc:Nat)(F:List Nat)(v:gt)(g:aa)(next:Nat)(r:Fp):Bool :=
 anc.testBit r.i||(OE r.W F&&OE r.F g.dirty&&(Nat.ble r.hi r.lo||(CF r.lo r.hi F&&CF r.lo r.hi (fV v g next))))
def j0(P:io)(rec:Rec)(ops:Array Oper)(anc:List Nat):List Oper->Nat->List Fp->ai->aa->Option (ai × aa)
 |[],_,_,a,H=>ap (a,H)
 |o::rest,i,b,a,H =>
  match cG ops a o with
  |some bv =>
   (match Qk P rec a (H.restrict (Eh P o.op a H)) o with
   |some (.ok v,g) =>
    if (Eh P o.op a H).all (fun n=>(H.get n).isSome)&&g.dirty.all (fun n=>EK n (Eh P o.op a H)) &&
      b.all (tR (anc.getD i 0) (Eh P o.op a H) v g H.next) then
     j0 P rec ops anc rest (i+1) (⟨i,Eh P o.op a H,g.dirty,H.next,g.next⟩::b) (a.put o.dst v) (H.merge g)
    else bi
   |_=>bi)
  |some gc=>j0 P rec ops anc rest (i+1) b (a.put o.dst undef) H
  |none=>bi
def lh(a:ai)(params:Array Tmp)(assign body:Code)(d:Nat):dw :=
 ⟨.loop {state:=.ready,pending:=bi,fn:=0,tmps:=#[],params,assign,body,defers:=d},gc,a.env⟩
def enterLoop(ro:Option Nat)(a:ai)(b:Array Tmp)(c d:Code)(H:aa):Option (Nat × List Deferred × aa) :=
 match ro with
 |none=>ap (H.next+1,[{target:=.collected H.next,args:=#[]}],(H.new ⟨.deferred (ap []),gc,⟨[],0⟩⟩).new (lh a b c d H.next))
 |some e=>do
  let (r,_) <-getLoop H e
  if Nat.blt r.defers H.next then ap (H.next,[],H.new (lh a b c d r.defers)) else bi
def q9(rec:Rec)(ro:Option Nat)(d:ai)(l:Nat)(r:Out × aa):Option (Exit × ai × aa) :=
 match r with
 |(.ok _,a)=>do
  let (b,le) <-getLoop a l
  match b.state with
  |.busy=>bi
  |_ =>
   match b.pending with
   |none=>ap (.normal,d,eK a l {b with state:=.exhausted} le)
   |some c=>rec.run ro c d (eK a l {b with state:=.exhausted} le)
 |(.error e,a)=>ap (.panic e,d,a)
def Fu(P:io)(rec:Rec)(ro:Option Nat)(f:gt)(c:Array Tmp)(d e:Code)(a:ai)(H:aa):Option (Exit × ai × aa) :=
 match f with
 |.func fn first b=>do
  let (l,mark,H1) <-enterLoop ro a c d e H
  let h <-fF P H1 fn (first.toList++[.func (.yield l) #[] #[]]) b.toList
  match h with
  |.enter g args=>do
   let r <-IK P rec g args H1
   q9 rec ro {a with defers:=mark++a.defers} l r
  |_=>bi
 |_=>bi
abbrev qz:=io->Rec->Option Nat->ai->aa->Option (Exit × ai × aa)
def qm(e:Exit):qz:=fun _ _ _ a H=>ap (e,a,H)
def PN(x y:Code):qz:=fun _ rec ro a H =>
 match rec.run ro x a H with
 |some (.normal,b,H1)=>rec.run ro y b H1
 |r=>r
def K7(c:i4)(x y:Code):qz:=fun P rec ro a H =>
 match aP P a c with
 |some (kw bv)=>rec.run ro x a H
 |some (kw gc)=>rec.run ro y a H
 |_=>bi
def Hr(id:Nat)(b:Code):qz:=fun _ rec ro a H =>
 match rec.run ro b a H with
 |some (.exit k,c,H1)=>if k=id then ap (.normal,c,H1) else ap (.exit k,c,H1)
 |r=>r
def GY(b:Code):qz:=fun _ rec ro a H =>
 match rec.run ro b a H with
 |some (.goto _,_,_)=>bi
 |r=>r
def LS(b:Code):qz:=fun _ rec ro a H =>
 match rec.run ro b a H with
 |some (.normal,c,H1)=>rec.run ro (.loop b) c H1
 |r=>r
def tP(P:io)(rec:Rec)(ops:Array Oper)(a:ai)(H:aa):Option (Exit × ai × aa) :=
 match ops.toList.getLast?,j0 P rec ops (iU ops) ops.toList.dropLast 0 [] a H with
 |some o,ap (b,H1) =>
  if (List.range (ops.size-1)).all (fun j=>((iU ops).getD (ops.size-1) 0).testBit j) then
   (match cG ops b o,Qk P rec b H1 o with
   |some bv,ap (.error c,d)=>ap (.panic c,b,d)
   |_,_=>bi)
  else bi
 |_,_=>bi
def DC(ops:Array Oper)(b:Bool):qz:=fun P rec ro a H =>
 match b with
 |true =>
  if gR ops then
   (match j0 P rec ops (iU ops) ops.toList 0 [] a H with
   |some r=>ap (.normal,r.1,r.2)
   |none=>tP P rec ops a H)
  else bi
 |false=>qV P rec ro.isNone ops ops.toList a H
def HG(f:i4)(b:Array Tmp)(c d:Code):qz:=fun P rec ro a H=>do
 Fu P rec ro (<-aP P a f) b c d a H
def LL:qz:=fun _ _ _ _ _=>bi
def step(c:Code):qz :=
 match c with
 |.skip=>qm .normal
 |.label _=>qm .normal
 |.seq x y=>PN x y
 |.cond c x y=>K7 c x y
 |.block id b=>Hr id b
 |.loop b=>LS b
 |.scope b=>GY b
 |.exit id=>qm (.exit id)
 |.goto l=>qm (.goto l)
 |.ret=>qm .ret
 |.region _ ops e=>DC ops e
 |.rangeFunc f a d g=>HG f a d g
 |_=>LL
def xD(P:io)(K:FuncId->List gt->aa->Option (gt × aa)):Nat->Rec
 |0=>⟨fun _ _ _ _=>bi,K⟩
 |n+1=>⟨fun ro c a H=>step c P (xD P K n) ro a H,K⟩
def Mt(K:FuncId->List gt->aa->Option gt)(f:FuncId)(args:List gt)(H:aa):Option (gt × aa) :=
 match K f args H with
 |some v=>ap (v,H)
 |none=>bi
def exec(P:io)(K:FuncId->List gt->aa->Option gt)(n:Nat):Rec:=xD P (Mt K) n
def call(P:io)(K:FuncId->List gt->aa->Option gt)(a:Nat)(f:FuncId)(args:List gt)(H:aa):Option (Out × aa):=CS P (exec P K a) f args H
def Hw:gt->gt->Bool
 |.int k a,.int l b=>ge (k=l)&&ge (a=b)
 |.bool a,kw b=>a == b
 |_,_=>gc
def DA:List gt->List gt->Bool
 |[],[]=>bv
 |a::r,b::q=>Hw a b&&DA r q
 |_,_=>gc
def I3:gt->gt->Bool
 |.agg a,.agg b=>DA a.toList b.toList
 |.tuple a,.tuple b=>DA a.toList b.toList
 |a,b=>Hw a b
def PS:List gt->List gt->Bool
 |[],[]=>bv
 |a::r,b::q=>I3 a b&&PS r q
 |_,_=>gc
def MS:List (FuncId × List gt × gt)->FuncId->List gt->aa->Option gt
 |[],_,_,_=>bi
 |(g,a,v)::r,f,args,H=>if Nat.beq g f&&PS a args then ap v else MS r f args H
def eH{α:Type}(d:α):∀(l:List α)(i:Nat)(v:α)(j:Nat),(fP d l i v).getD j d=if j=i then v else l.getD j d
 |[],0,v,0=>rfl
 |[],0,v,j+1=>by simp[fP]
 |[],i+1,v,0=>by simp[fP]
 |[],i+1,v,j+1=>by have:=eH d [] i v j;simpa[fP]using this
 |x::r,0,v,0=>rfl
 |x::r,0,v,j+1=>by simp[fP]
 |x::r,i+1,v,0=>by simp[fP]
 |x::r,i+1,v,j+1=>by have:=eH d r i v j;simpa[fP]using this
def RV.rJ(v:RV)(i:Nat)(x:gt)(j:Nat):(v.set i x).get j=if j=i then x else v.get j:=by
 unfold RV.get RV.set;simp only[eH];by_cases h:j / 16=i / 16
 .rw[if_pos h,eH,h];by_cases a:j % 16=i % 16
  .have:j=i:=by omega
   simp[this]
  .have:j≠i:=fun e=>a (by rw[e]);simp[a,this]
 .have:j≠i:=fun e=>h (by rw[e]);simp[h,this]
@[simp] theorem RV.n_set (v:RV) (i:Nat) (x:gt):(v.set i x).n=v.n:=rfl
def RV.pA(l:List gt):∀(v:RV)(i:Nat),(v.fk i l).n=v.n:=by
 induction l with
 |nil=>intro v i; rfl
 |cons x r a=>intro v i; simp[RV.fk,a]
def RV.lR(l:List gt):∀(v:RV)(i j:Nat),(v.fk i l).get j=if i<=j/\j<i+l.length then l.getD (j-i) undef else v.get j:=by
 induction l with
 |nil=>intro v i j; simp[RV.fk]; omega
 |cons x r c =>
  intro v i j;simp only[RV.fk,c,RV.rJ,zA3];by_cases a:i+1<=j/\j<i+1+r.length
  .rw[if_pos a,if_pos li]
   obtain⟨k,rfl⟩:∃ k,j=i+1+k:=⟨j-(i+1),by omega⟩
   have d:i+1+k-(i+1)=k:=by omega
   have e:i+1+k-i=k+1:=by omega
   rw[d,e]; simp
  .rw[if_neg a];by_cases b:j=i
   .subst b; simp
   .rw[if_neg b,if_neg li]
def RV.cb(l:List gt)(j:Nat):(RV.ofList l).get j=l.getD j undef:=by
 have h:(RV.ofList l).get j=(RV.fk ⟨[],0⟩ 0 l).get j:=rfl;rw[h,RV.lR];by_cases a:j<l.length
 .rw[if_pos li]; simp
 .rw[if_neg li];simp only[RV.get,List.getD_nil];simp[List.getD,zC5 (Nat.not_lt.1 a)]
@[simp] theorem RV.n_ofList (l:List gt):(RV.ofList l).n=l.length:=rfl
def RV.gl(v:RV):∀(k i:Nat),v.jJ i k=(List.range k).map fun j=>v.get (i+j)
 |0,i=>rfl
 |k+1,i=>by rw[RV.jJ,RV.gl v k (i+1),List.range_succ_eq_map];simp only[zB9,List.map_map,zD6,List.cons.injEq,true_and];apply List.map_congr_left;intro j _;simp only[Function.comp];congr 1; omega
@[simp] theorem RV.length_gets (v:RV) (i k:Nat):(v.jJ i k).length=k:=by simp[RV.gl]
def RV.pX(v:RV)(i k j:Nat)(h:j<k):(v.jJ i k).getD j undef=v.get (i+j):=by simp[RV.gl,List.getD,h]
def lB(a:List (List (List (Option dw))))(n:Nat)(o:Option dw)(m:Nat) :
  (((ek a n o).getD (m / 256) []).getD (m / 16 % 16) []).getD (m % 16) bi =
   if m=n then o else ((a.getD (m / 256) []).getD (m / 16 % 16) []).getD (m % 16) none:=by
 unfold ek;rw[eH];by_cases h:m / 256=n / 256
 .rw[if_pos h,eH,h];by_cases b:m / 16 % 16=n / 16 % 16
  .rw[if_pos b,eH,b];by_cases c:m % 16=n % 16
   .have:m=n:=by omega
    simp[this]
   .have:m≠n:=fun e=>c (by rw[e]);simp[c,this]
  .have:m≠n:=fun e=>b (by rw[e]);simp[b,this]
 .have:m≠n:=fun e=>h (by rw[e]);simp[h,this]
def aa.pR(h:aa)(n:Nat)(o:Option dw)(m:Nat):(h.put n o).get m=if m=n then o else h.get m:=lB _ _ _ _
def aa.fg(h:aa)(n:Nat)(o:Option dw)(m:Nat):(h.cy n o).get m=if m=n then o else h.get m:=lB _ _ _ _
def aa.fN(h:aa)(o:dw)(m:Nat):(h.new o).get m=if m=h.next then ap o else h.get m:=lB _ _ _ _
def Hf{v:gt}(h:RY v=bv):one v=true:=by cases v<;>first|rfl|cases h
structure Ren where
 blk:Nat->Nat
 sh:Nat->Nat
 ex:Nat->Nat
 op:Nat->gt
 op1:∀ n,RY (op n)=bv
def Ren.fn(ρ:Ren):Fn->Fn
 |.yield l=>.yield (ρ.blk l)
 |f=>f
def Ren.ni(ρ:Ren)(a:Addr)(len cap:Nat):Nat:=match a.spot with
 |some (k+1)=>if len=0/\cap=0/\ρ.ex a.block=0 then k else a.off
 |_=>a.off
def Ren.oZ(ρ:Ren)(a:Addr)(len cap:Nat):Nat:=match a.spot with
 |none=>cap+ρ.ex a.block
 |some 0=>cap
 |some (_+1)=>if len=0/\cap=0 then ρ.ex a.block else cap
def Sw:gt->Option Nat
 |.int _ j=>ap j.toNat
 |_=>bi
def Ren.zl(ρ:Ren)(a:Addr)(len cap:Nat):Option Nat:=match a.spot with
 |some (k+1)=>if k=0/\a.off=0/\len=0/\cap=0/\ρ.ex a.block=0 then Sw (ρ.op a.block) else bi
 |_=>bi
@[simp] theorem Ren.spS_none (ρ:Ren) (b o len cap:Nat):ρ.zl ⟨b,o,bi⟩ len cap=none:=rfl
@[simp] theorem Ren.spS_zero (ρ:Ren) (b o len cap:Nat):ρ.zl ⟨b,o,ap 0⟩ len cap=none:=rfl
def Ren.oe{ρ:Ren}{a:Addr}{len cap:Nat}(h:a.spot.getD 0=0\/len≠0):ρ.zl a len cap=none:=by
 unfold Ren.zl;split
 .rename_i k b;rcases h with h|h
  .rw[b]at h; simp at h
  .rw[if_neg (fun c=>h c.2.2.1)]
 .rfl
def Ren.BQ{ρ:Ren}{a:Addr}{len cap:Nat}(h:cap≠0):ρ.zl a len cap=none:=by
 unfold Ren.zl;split
 .rw[if_neg (fun c=>h c.2.2.2.1)]
 .rfl
def Ren.NW{ρ:Ren}{a:Addr}{len cap:Nat}(h:a.off≠0):ρ.zl a len cap=none:=by
 unfold Ren.zl;split
 .rw[if_neg (fun c=>h c.2.1)]
 .rfl
def Ren.Qa{ρ:Ren}{a:Addr}{len cap:Nat}(h:ρ.ex a.block≠0):ρ.zl a len cap=none:=by
 unfold Ren.zl;split
 .rw[if_neg (fun c=>h c.2.2.2.2)]
 .rfl
@[simp] theorem Ren.offS_none (ρ:Ren) (b o len cap:Nat):ρ.ni ⟨b,o,bi⟩ len cap=o:=rfl
@[simp] theorem Ren.offS_zero (ρ:Ren) (b o len cap:Nat):ρ.ni ⟨b,o,ap 0⟩ len cap=o:=rfl
@[simp] theorem Ren.capS_none (ρ:Ren) (b o len cap:Nat):ρ.oZ ⟨b,o,bi⟩ len cap=cap+ρ.ex b:=rfl
@[simp] theorem Ren.capS_zero (ρ:Ren) (b o len cap:Nat):ρ.oZ ⟨b,o,ap 0⟩ len cap=cap:=rfl
def Ren.mT{ρ:Ren}{a:Addr}{len cap:Nat}(h:a.spot.getD 0=0\/len≠0):ρ.ni a len cap=a.off:=by
 unfold Ren.ni;split
 .rename_i k b;rcases h with h|h
  .rw[b]at h; simp at h
  .rw[if_neg (fun c=>h c.1)]
 .rfl
def Ren.yF{ρ:Ren}{a:Addr}{len cap:Nat}(h:cap≠0):ρ.ni a len cap=a.off:=by
 unfold Ren.ni;split
 .rw[if_neg (fun c=>h c.2.1)]
 .rfl
def Ren.M4{ρ:Ren}{a:Addr}{len len' cap:Nat}(h:cap≠0):ρ.oZ a len cap=ρ.oZ a len' cap:=by
 unfold Ren.oZ;split
 .rfl
 .rfl
 .rw[if_neg (fun c=>h c.2),if_neg (fun c=>h c.2)]
def Ren.CT{ρ:Ren}{a:Addr}{len cap:Nat}:cap<=ρ.oZ a len cap:=by
 unfold Ren.oZ;split
 .omega
 .omega
 .split<;>omega
mutual
def Ren.val(ρ:Ren):gt->gt
 |i9 (ap a)=>i9 (ap ⟨ρ.blk a.block,a.off+ρ.sh a.block,a.spot⟩)
 |jp (ap a) len cap=>jp (ap ⟨ρ.blk a.block,ρ.ni a len cap+ρ.sh a.block,ρ.zl a len cap⟩) len (ρ.oZ a len cap)
 |.map (ap r)=>.map (ap (ρ.blk r))
 |.func f a b=>.func (ρ.fn f) (ρ.eC a) (ρ.eC b)
 |.iface t v=>.iface t (ρ.val v)
 |.agg cs=>.agg (ρ.eC cs)
 |.tuple cs=>.tuple (ρ.eC cs)
 |.bool b=>.bool b
 |.int k n=>.int k n
 |.float k b=>.float k b
 |.complex k a b=>.complex k a b
 |.string s=>.string s
 |i9 bi=>i9 bi
 |jp bi len cap=>jp bi len cap
 |.map bi=>.map bi
 |.chan bi=>.chan bi
 |.chan (ap k)=>ρ.op k
 |.nilFunc=>.nilFunc
 |.nilIface=>.nilIface
def Ren.eC(ρ:Ren):Array gt->Array gt
 |⟨l⟩=>⟨ρ.gI l⟩
def Ren.gI(ρ:Ren):List gt->List gt
 |[]=>[]
 |v::r=>ρ.val v::ρ.gI r
end
def Ren.nj(ρ:Ren):∀ l,ρ.gI l=l.map ρ.val
 |[]=>rfl
 |v::r=>by rw[Ren.gI,Ren.nj ρ r]; rfl
def Ren.dO(ρ:Ren)(c:Array gt):ρ.eC c=c.map ρ.val:=by obtain⟨l⟩:=c;rw[Ren.eC,Ren.nj];simp
@[simp] theorem Ren.val_undef (ρ:Ren):ρ.val undef=undef:=by simp[undef,Ren.val,Ren.dO]
mutual
def di(ρ:Ren):∀ v,af v=bv->ρ.val v=v
 |.bool _,_=>by rw[Ren.val]
 |.int _ _,_=>by rw[Ren.val]
 |.float _ _,_=>by rw[Ren.val]
 |.complex _ _ _,_=>by rw[Ren.val]
 |.string _,_=>by rw[Ren.val]
 |i9 bi,_=>by rw[Ren.val]
 |i9 (ap _),h=>by simp[af]at h
 |jp bi _ _,_=>by rw[Ren.val]
 |jp (ap _) _ _,h=>by simp[af]at h
 |.map bi,_=>by rw[Ren.val]
 |.map (ap _),h=>by simp[af]at h
 |.chan bi,_=>by rw[Ren.val]
 |.chan (ap _),h=>by simp[af]at h
 |.func f a b,h=>by cases f<;>simp only[af,zA7,zC8]at h<;>simp only[Ren.val,Ren.fn,vN ρ a h.1,vN ρ b h.2]
 |.nilFunc,_=>by rw[Ren.val]
 |.iface t v,h=>by rw[Ren.val,di ρ v (by simpa[af]using h)]
 |.nilIface,_=>by rw[Ren.val]
 |.agg cs,h=>by rw[Ren.val,vN ρ cs (by simpa[af]using h)]
 |.tuple cs,h=>by rw[Ren.val,vN ρ cs (by simpa[af]using h)]
def vN(ρ:Ren):∀ c,KF c=bv->ρ.eC c=c
 |⟨l⟩,h=>by rw[Ren.eC,Cq ρ l (by simpa[KF]using h)]
def Cq(ρ:Ren):∀ l,Cz l=bv->ρ.gI l=l
 |[],_=>rfl
 |v::r,h=>by simp only[Cz,zA7]at h;rw[Ren.gI,di ρ v h.1,Cq ρ r h.2]
end
structure Ext (N:Nat) (ρ ρ':Ren):Prop where
 blk:∀ n,n<N->ρ'.blk n=ρ.blk n
 sh:∀ n,n<N->ρ'.sh n=ρ.sh n
 ex:∀ n,n<N->ρ'.ex n=ρ.ex n
 op:∀ n,n<N->ρ'.op n=ρ.op n
def Ext.refl(N:Nat)(ρ:Ren):Ext N ρ ρ:=⟨fun _ _=>rfl,fun _ _=>rfl,fun _ _=>rfl,fun _ _=>rfl⟩
def Ext.trans{N M:Nat}{ρ c a:Ren}(h:Ext N ρ c)(d:Ext M c a)(e:N<=M):Ext N ρ a :=
 ⟨fun n b=>(d.blk n li).trans (h.blk n b),fun n b=>(d.sh n li).trans (h.sh n b),fun n b=>(d.ex n li).trans (h.ex n b),fun n b=>(d.op n li).trans (h.op n b)⟩
def bO{a b:Nat}(h:Nat.blt a b=bv):a<b:=by simpa[Nat.blt_eq]using h
def bx{a b:Nat}(h:a<b):Nat.blt a b=true:=by simpa[Nat.blt_eq]using h
def iq{a b:Nat}(h:Nat.ble a b=bv):a<=b:=zA8 h
mutual
def fJ{N:Nat}{ρ d:Ren}(e:Ext N ρ d):∀ v,aV N v=bv->d.val v=ρ.val v
 |.bool _,_=>by rw[Ren.val,Ren.val]
 |.int _ _,_=>by rw[Ren.val,Ren.val]
 |.float _ _,_=>by rw[Ren.val,Ren.val]
 |.complex _ _ _,_=>by rw[Ren.val,Ren.val]
 |.string _,_=>by rw[Ren.val,Ren.val]
 |i9 bi,_=>by rw[Ren.val,Ren.val]
 |i9 (ap a),h=>by have c:=bO (by simpa[aV]using h);simp only[Ren.val,e.blk _ c,e.sh _ c]
 |jp bi _ _,_=>by rw[Ren.val,Ren.val]
 |jp (ap a) _ _,h=>by have c:=bO (by simpa[aV]using h);simp only[Ren.val,Ren.ni,Ren.oZ,Ren.zl,e.blk _ c,e.sh _ c,e.ex _ c,e.op _ c]
 |.map bi,_=>by rw[Ren.val,Ren.val]
 |.map (ap r),h=>by have c:=bO (by simpa[aV]using h);simp only[Ren.val,e.blk _ c]
 |.chan bi,_=>by rw[Ren.val,Ren.val]
 |.chan (ap k),h=>by have c:=bO (by simpa[aV]using h);simp only[Ren.val,e.op _ c]
 |.func f a b,h=>by
  cases f with
  |yield l =>simp only[aV,zA7]at h;simp only[Ren.val,Ren.fn,e.blk _ (bO h.1.1),jM e a h.1.2,jM e b h.2]
  |_ =>simp only[aV,zA7]at h;simp only[Ren.val,Ren.fn,jM e a h.1,jM e b h.2]
 |.nilFunc,_=>by rw[Ren.val,Ren.val]
 |.iface t v,h=>by rw[Ren.val,Ren.val,fJ e v (by simpa[aV]using h)]
 |.nilIface,_=>by rw[Ren.val,Ren.val]
 |.agg cs,h=>by rw[Ren.val,Ren.val,jM e cs (by simpa[aV]using h)]
 |.tuple cs,h=>by rw[Ren.val,Ren.val,jM e cs (by simpa[aV]using h)]
def jM{N:Nat}{ρ a:Ren}(e:Ext N ρ a):∀ c,eU N c=bv->a.eC c=ρ.eC c
 |⟨l⟩,h=>by rw[Ren.eC,Ren.eC,EU e l (by simpa[eU]using h)]
def EU{N:Nat}{ρ a:Ren}(e:Ext N ρ a):∀ l,aX N l=bv->a.gI l=ρ.gI l
 |[],_=>rfl
 |v::r,h=>by simp only[aX,zA7]at h;rw[Ren.gI,Ren.gI,fJ e v h.1,EU e r h.2]
end
mutual
def cS{N M:Nat}(c:N<=M):∀ v,aV N v=bv->aV M v=bv
 |.bool _,_=>by simp[aV]
 |.int _ _,_=>by simp[aV]
 |.float _ _,_=>by simp[aV]
 |.complex _ _ _,_=>by simp[aV]
 |.string _,_=>by simp[aV]
 |i9 bi,_=>by simp[aV]
 |i9 (ap a),h=>by have d:=bO (by simpa[aV]using h);simp only[aV]; exact bx li
 |jp bi _ _,_=>by simp[aV]
 |jp (ap a) _ _,h=>by have d:=bO (by simpa[aV]using h);simp only[aV]; exact bx li
 |.map bi,_=>by simp[aV]
 |.map (ap r),h=>by have d:=bO (by simpa[aV]using h);simp only[aV]; exact bx li
 |.chan bi,_=>by simp[aV]
 |.chan (ap r),h=>by have d:=bO (by simpa[aV]using h);simp only[aV]; exact bx li
 |.func f a b,h=>by
  cases f with
  |yield l =>simp only[aV,zA7]at h ⊢;have d:=bO h.1.1;exact⟨⟨bx li,iC c a h.1.2⟩,iC c b h.2⟩
  |_ =>simp only[aV,zA7]at h ⊢;exact⟨iC c a h.1,iC c b h.2⟩
 |.nilFunc,_=>by simp[aV]
 |.iface t v,h=>by rw[aV]; exact cS c v (by simpa[aV]using h)
 |.nilIface,_=>by simp[aV]
 |.agg cs,h=>by rw[aV]; exact iC c cs (by simpa[aV]using h)
 |.tuple cs,h=>by rw[aV]; exact iC c cs (by simpa[aV]using h)
def iC{N M:Nat}(a:N<=M):∀ c,eU N c=bv->eU M c=bv
 |⟨l⟩,h=>by rw[eU]; exact zP a l (by simpa[eU]using h)
def zP{N M:Nat}(a:N<=M):∀ l,aX N l=bv->aX M l=bv
 |[],_=>rfl
 |v::r,h=>by simp only[aX,zA7]at h ⊢;exact⟨cS a v h.1,zP a r h.2⟩
end
def cx{N:Nat}{l:List gt}:aX N l=bv ↔ ∀ v∈l,aV N v=true:=by
 induction l with
 |nil=>simp[aX]
 |cons v r a=>simp[aX,a]
def eG(N:Nat):aV N undef=true:=by simp[undef,aV,eU,aX]
mutual
def fB{N:Nat}:∀ v,af v=bv->aV N v=bv
 |.bool _,_=>by simp[aV]
 |.int _ _,_=>by simp[aV]
 |.float _ _,_=>by simp[aV]
 |.complex _ _ _,_=>by simp[aV]
 |.string _,_=>by simp[aV]
 |i9 bi,_=>by simp[aV]
 |i9 (ap a),h=>by simp[af]at h
 |jp bi _ _,_=>by simp[aV]
 |jp (ap a) _ _,h=>by simp[af]at h
 |.map bi,_=>by simp[aV]
 |.map (ap r),h=>by simp[af]at h
 |.chan bi,_=>by simp[aV]
 |.chan (ap _),h=>by simp[af]at h
 |.func f a b,h=>by cases f<;>simp only[af,zA7,zC8]at h<;>simp only[aV,zA7,mP a h.1,mP b h.2,and_self]
 |.nilFunc,_=>by simp[aV]
 |.iface t v,h=>by rw[aV]; exact fB v (by simpa[af]using h)
 |.nilIface,_=>by simp[aV]
 |.agg cs,h=>by rw[aV]; exact mP cs (by simpa[af]using h)
 |.tuple cs,h=>by rw[aV]; exact mP cs (by simpa[af]using h)
def mP{N:Nat}:∀ c,KF c=bv->eU N c=bv
 |⟨l⟩,h=>by rw[eU]; exact nt l (by simpa[KF]using h)
def nt{N:Nat}:∀ l,Cz l=bv->aX N l=bv
 |[],_=>rfl
 |v::r,h=>by simp only[Cz,zA7]at h;simp only[aX,zA7];exact⟨fB v h.1,nt r h.2⟩
end
def Ren.val_one(ρ:Ren)(v:gt):one (ρ.val v)=one v:=by
 cases v with
 |pointer a=>cases a<;>simp[Ren.val,one]
 |slice a _ _=>cases a<;>simp[Ren.val,one]
 |map a=>cases a<;>simp[Ren.val,one]
 |chan a =>
  cases a with
  |none=>simp[Ren.val,one]
  |some k=>rw[Ren.val,Hf (ρ.op1 k)]; rfl
 |_=>simp[Ren.val,one]
def JH{v:gt}(h:one v=bv)(a:∀ cs,v≠.agg cs):v.cells=#[v]:=by
 cases v with
 |agg cs=>exact absurd rfl (a cs)
 |_=>rfl
def Ren.mM(ρ:Ren)(v:gt):(ρ.val v).cells=v.cells.map ρ.val:=by
 cases v with
 |pointer a=>cases a<;>simp[Ren.val,Value.cells]
 |slice a _ _=>cases a<;>simp[Ren.val,Value.cells]
 |map a=>cases a<;>simp[Ren.val,Value.cells]
 |chan a =>
  cases a with
  |none=>simp[Ren.val,Value.cells]
  |some k =>have h:=Hf (ρ.op1 k);rw[Ren.val,JH h (fun cs e=>by rw[e]at h; cases h)];simp[Value.cells,Ren.val]
 |agg cs=>simp[Ren.val,Value.cells,Ren.dO]
 |_=>simp[Ren.val,Value.cells]
def Ren.entry(ρ:Ren)(e:MapEntry):MapEntry:={e with val:=ρ.val e.val}
def ki(N:Nat)(o:dw):Prop :=
 match o.obj with
 |.cells _ _ _=>∀ i,i<o.rv.n->aV N (o.rv.get i)=bv
 |.map a _=>∀ e∈a,oC e.key=bv/\aV N e.val=bv
 |.loop r=>r.defers<N/\∀ i,i<o.rv.n->aV N (o.rv.get i)=bv
 |_=>True
def Ren.tmps(ρ:Ren)(e:RV):Array Value:=Array.ofFn (n:=e.n) fun i=>ρ.val (e.get i)
def Fits(P:io)(ρ:Ren)(n:Nat)(o:dw)(o':Obj):Prop :=
 match o.obj with
 |.cells _ e f=>∃ (c:Array gt) (b:Nat × Nat),o'=.cells c e b/\(∀ i,i<o.rv.n->c[i+ρ.sh n]?=ap (ρ.val (o.rv.get i))) /\
   (o.opn=gc->c.size=o.rv.n/\ρ.sh n=0/\ρ.ex n=0/\b=(0,0)) /\
   (o.opn=bv->f.1=0->(ρ.sh n+o.rv.n+ρ.ex n*P.cellsOf e<=c.size/\(ρ.ex n≠0->o.rv.n+ρ.ex n*P.cellsOf e<=9223372036854775807*P.cellsOf e))/\∀ i,ρ.sh n<=i->i<ρ.sh n+o.rv.n+ρ.ex n*P.cellsOf e->¬(b.1<=i/\i<b.2))
 |.map g a=>o'=.map (g.map ρ.entry) a
 |.stringIter s d=>o'=.stringIter s d/\ρ.sh n=0
 |.loop r=>∃ fn,o'=.loop {r with fn:=fn,tmps:=ρ.tmps o.rv,defers:=ρ.blk r.defers}
 |.deferred (ap [])=>o'=.deferred (ap [])
 |.deferred bi=>o'=.deferred bi
 |_=>False
def PR:dw->Bool
 |⟨.cells _ _ (_+1,_),bv,_⟩=>bv
 |_=>gc
def Fz(x:Option dw):Prop:=∃ o,x=ap o/\PR o=bv
structure Rel (P:io) (ρ:Ren) (H:aa) (w:ip):Prop where
 base:H.base<=H.next
 glob:P.globals.size<=H.next/\∀ g,g<P.globals.size->ρ.blk g=g/\ρ.sh g=0
 inj:∀ m n,H.get m≠bi->H.get n≠bi->ρ.blk m=ρ.blk n->m=n\/Fz (H.get m)/\Fz (H.get n)
 dom:∀ n o,H.get n=ap o->n<H.next/\ki H.next o
 obj:∀ n o,H.get n=ap o->∃ o',w.heap[ρ.blk n]?=ap o'/\Fits P ρ n o o'
structure Le (H H1:aa):Prop where
 next:H.next<=H1.next
 base:H1.base=H.base
 dirty:∀ n,n∈H.dirty->n∈H1.dirty
 jZ:∀ n,n<H.base->n∉H1.dirty->H1.get n=H.get n
 gone:∀ n,n<H.next->H.get n=bi->H1.get n=bi
def Le.refl(H:aa):Le H H:=⟨zA5 _,rfl,fun _ h=>h,fun _ _ _=>rfl,fun _ _ h=>h⟩
def Le.trans{H H1 e:aa}(a:Le H H1)(b:Le H1 e):Le H e where
 next:=zC7 a.next b.next
 base:=b.base.trans a.base
 dirty:=fun n h=>b.dirty n (a.dirty n h)
 jZ:=fun n c d=>(b.jZ n (by rw[a.base]; exact c) d).trans (a.jZ n c (fun h=>d (b.dirty n h)))
 gone:=fun n c d=>b.gone n (zD1 c a.next) (a.gone n c d)
def Le.back{H H1:aa}(a:Le H H1){n:Nat}(h:n<H.next)(b:H1.get n≠bi):H.get n≠none:=fun e=>b (a.gone n h e)
structure St (P:io) (ρ:Ren) (H:aa) (w:ip) (ρ1:Ren) (H1:aa) (w1:ip):Prop where
 ext:Ext H.next ρ ρ1
 le:Le H H1
 rel:Rel P ρ1 H1 w1
 os:w1.os=w.os
 tape:w1.tape=w.tape
 output:w1.output=w.output
 size:w.heap.size<=w1.heap.size
 old:∀ b,b<w.heap.size->(∀ n,n<H.next->(H.base<=n\/n∈H1.dirty)->H.get n≠bi->ρ.blk n≠b)->w1.heap[b]?=w.heap[b]?
 fresh:∀ n,H.next<=n->H1.get n≠bi->w.heap.size<=ρ1.blk n\/∃ m,m<H.next/\H.get m≠bi/\(H.base<=m\/m∈H1.dirty)/\ρ1.blk n=ρ.blk m
 ro:∀ n,Fz (H.get n)->(n∈H1.dirty->n∈H.dirty)/\H1.get n=H.get n
def Rel.lt{P:io}{ρ:Ren}{H:aa}{w:ip}(r:Rel P ρ H w){n:Nat}(h:H.get n≠bi):n<H.next:=by
 cases e:H.get n with
 |none=>exact absurd e h
 |some o=>exact (r.dom n o e).1
def Rel.sT{P:io}{ρ:Ren}{H:aa}{w:ip}(r:Rel P ρ H w){n:Nat}(h:H.get n≠bi):ρ.blk n<w.heap.size:=by
 cases e:H.get n with
 |none=>exact absurd e h
 |some o =>
  obtain⟨o',a,_⟩:=r.obj n o e;rcases zC2 (ρ.blk n) w.heap.size with h1|h1
  .exact h1
  .simp[Array.getElem?_eq_none h1]at a
def St.refl{P:io}{ρ:Ren}{H:aa}{w:ip}(r:Rel P ρ H w):St P ρ H w ρ H w :=
 ⟨Ext.refl _ _,Le.refl _,r,rfl,rfl,rfl,zA5 _,fun _ _ _=>rfl,fun n b a=>absurd (r.lt a) li,fun _ _=>⟨id,rfl⟩⟩
def Fz.ne{x:Option dw}(h:Fz x):x≠none:=by obtain⟨o,rfl,_⟩:=h;simp
def St.trans{P:io}{ρ i j:Ren}{H H1 r:aa}{w w1 s:ip}(a:St P ρ H w i H1 w1)(b:St P i H1 w1 j r s):St P ρ H w j r s where
 ext:=a.ext.trans b.ext a.le.next
 le:=a.le.trans b.le
 rel:=b.rel
 os:=b.os.trans a.os
 tape:=b.tape.trans a.tape
 output:=b.output.trans a.output
 size:=zC7 a.size b.size
 old:=fun x hx q=>by
  have u:w1.heap[x]?=w.heap[x]?:=a.old x hx fun n o d c=>q n o (d.imp id (b.le.dirty n)) c;rw[<-u];refine b.old x (zD1 hx a.size) fun n o d c=>?_;rw[a.le.base]at d;rcases zC2 n H.next with h|h
  .rw[a.ext.blk n h];exact q n h d (a.le.back h c)
  .rcases a.fresh n h c with e|⟨m,p,f,g,l⟩
   .omega
   .rw[l];exact q m p (g.imp id (b.le.dirty m)) f
 fresh:=fun n o c=>by
  rcases zC2 n H1.next with h|h
  .rw[b.ext.blk n h]
   rcases a.fresh n o (b.le.back h c) with e|⟨m,p,f,g,l⟩
   .exact .inl e
   .exact .inr ⟨m,p,f,g.imp id (b.le.dirty m),l⟩
  .rcases b.fresh n h c with e|⟨m,p,f,g,l⟩
   .exact .inl (zC7 a.size e)
   .rw[l];rw[a.le.base]at g;rcases zC2 m H.next with hm|hm
    .exact .inr ⟨m,hm,a.le.back hm f,g,a.ext.blk m hm⟩
    .rcases a.fresh m hm f with e|⟨k,v,y,z,A⟩
     .exact .inl e
     .exact .inr ⟨k,v,y,z.imp id (b.le.dirty k),A⟩
 ro:=fun n h=>by obtain⟨B,t⟩:=a.ro n h;obtain⟨C,D⟩:=b.ro n (by rw[t]; exact h);exact⟨fun d=>B (C d),D.trans t⟩
def Ren.rq{N:Nat}{ρ a:Ren}(e:Ext N ρ a)(v:RV)(h:∀ i,i<v.n->aV N (v.get i)=bv):a.tmps v=ρ.tmps v:=by unfold Ren.tmps;congr 1;funext i;exact fJ e _ (h i i.2)
def Fits.ext{P:io}{ρ b:Ren}{N n:Nat}{o:dw}{o':Obj}(h:Fits P ρ n o o')(a:n<N)(d:ki N o)(e:Ext N ρ b):Fits P b n o o':=by
 obtain⟨g,z,v⟩:=o
 unfold Fits ki at *
 cases g with
 |cells A t B =>
  obtain⟨c,j,k,m,q,u⟩:=h;refine⟨c,j,k,fun i hi=>?_,?_,?_⟩
  .rw[e.sh n a,m i hi,fJ e _ (d i hi)]
  .rw[e.sh n a,e.ex n a]; exact q
  .rw[e.sh n a,e.ex n a]; exact u
 |map C f =>simp only at h d ⊢;rw[h];congr 1;apply Array.map_congr_left;intro x hx;simp only[Ren.entry,fJ e _ (d x hx).2]
 |loop r =>obtain⟨fn,h⟩:=h;refine⟨fn,?_⟩;rw[h,Ren.rq e v d.2,e.blk _ d.1]
 |stringIter s p=>exact⟨h.1,by rw[e.sh n a]; exact h.2⟩
 |deferred y =>
  cases y with
  |none=>exact h
  |some l=>cases l<;>exact h
 |_=>exact h
def ki.mono{N M:Nat}{o:dw}(h:ki N o)(a:N<=M):ki M o:=by
 obtain⟨d,f,v⟩:=o
 unfold ki at *
 cases d with
 |cells g t j=>exact fun i hi=>cS a _ (h i hi)
 |map k b=>exact fun e c=>⟨(h e c).1,cS a _ (h e c).2⟩
 |loop r=>exact⟨zD1 h.1 a,fun i hi=>cS a _ (h.2 i hi)⟩
 |_=>trivial
def St.world{P:io}{ρ:Ren}{H:aa}{w w1:ip}(r:Rel P ρ H w)(h:w1.heap=w.heap)(c:w1.os=w.os)(a:w1.tape=w.tape)(d:w1.output=w.output) :
  St P ρ H w ρ H w1 :=
 ⟨Ext.refl _ _,Le.refl _,⟨r.base,r.glob,r.inj,r.dom,fun n o e=>by rw[h]; exact r.obj n o e⟩,c,a,d,by rw[h]; exact zA5 _,fun b _ _=>by rw[h],
  fun n c a=>absurd (r.lt a) li,fun _ _=>⟨id,rfl⟩⟩
def Ren.at(ρ:Ren)(n b s e:Nat):Ren:=⟨fun m=>if m=n then b else ρ.blk m,fun m=>if m=n then s else ρ.sh m,fun m=>if m=n then e else ρ.ex m,ρ.op,ρ.op1⟩
@[simp] theorem Ren.at_blk (ρ:Ren) (n b s e:Nat):(ρ.at n b s e).blk n=b:=by simp[Ren.at]
@[simp] theorem Ren.at_sh (ρ:Ren) (n b s e:Nat):(ρ.at n b s e).sh n=s:=by simp[Ren.at]
@[simp] theorem Ren.at_ex (ρ:Ren) (n b s e:Nat):(ρ.at n b s e).ex n=e:=by simp[Ren.at]
def Ren.gB(ρ:Ren)(n b s e:Nat):Ext n ρ (ρ.at n b s e) :=
 ⟨fun m h=>by simp[Ren.at,Nat.ne_of_lt h],fun m h=>by simp[Ren.at,Nat.ne_of_lt h],fun m h=>by simp[Ren.at,Nat.ne_of_lt h],fun m _=>by simp[Ren.at]⟩
def bw{α:Type}{o:Option α}{x:α}(h:o=ap x):o≠none:=by rw[h]; simp
def St.new{P:io}{ρ:Ren}{H:aa}{w:ip}(r:Rel P ρ H w)(o:dw)(o':Obj)(s e:Nat)(v:ki H.next o)
  (z:Fits P (ρ.at H.next w.heap.size s e) H.next o o'):St P ρ H w (ρ.at H.next w.heap.size s e) (H.new o) (w.alloc o'):=by
 have f:=Ren.gB ρ H.next w.heap.size s e;have c:∀ n,n≠H.next->(H.new o).get n=H.get n:=fun n d=>by rw[aa.fN,if_neg d]
 have dK:∀ {n},H.get n≠bi->n≠H.next:=fun h e=>absurd (r.lt h) li;have k:(H.new o).get H.next=ap o:=by rw[aa.fN,if_pos rfl]
 refine⟨f,⟨Nat.le_succ _,rfl,fun _ h=>h,fun n A _=>c n (by have:=r.base; omega),fun n d h=>by rw[c n li]; exact h⟩,⟨Nat.le_succ_of_le r.base,⟨Nat.le_succ_of_le r.glob.1,fun g q=>?_⟩,?_,?_,?_⟩,rfl,rfl,rfl,by simp,fun b A _=>?_,?_,fun n h=>⟨id,c n (dK h.ne)⟩⟩
 .have:=r.glob.1;rw[f.blk g li,f.sh g li]; exact r.glob.2 g q
 .intro m n j d p;by_cases a:m=H.next<;>by_cases l:n=H.next
  .exact .inl (by rw[a,l])
  .rw[c n l]at d;subst a;rw[Ren.at_blk,f.blk n (r.lt d)]at p;have:=r.sT d;omega
  .rw[c m a]at j;subst l;rw[Ren.at_blk,f.blk m (r.lt j)]at p;have:=r.sT j;omega
  .rw[c m a]at j;rw[c n l]at d;rw[f.blk m (r.lt j),f.blk n (r.lt d)]at p;rw[c m a,c n l];exact r.inj m n j d p
 .intro n x hx;by_cases a:n=H.next
  .subst a;rw[k]at hx;cases hx;exact⟨zD9 _,v.mono (Nat.le_succ _)⟩
  .rw[c n a]at hx;have:=r.dom n x hx;exact⟨Nat.lt_succ_of_lt this.1,this.2.mono (Nat.le_succ _)⟩
 .intro n x hx;by_cases a:n=H.next
  .subst a;rw[k]at hx;cases hx;exact⟨o',by rw[Ren.at_blk]; show (w.heap.push o')[w.heap.size]?=ap o'; simp,z⟩
  .rw[c n a]at hx;obtain⟨y,B,t⟩:=r.obj n x hx;have u:=r.dom n x hx;refine⟨y,?_,t.ext u.1 u.2 f⟩;rw[f.blk n u.1];have:=r.sT (bw hx);simp only[World.alloc];rw[Array.getElem?_push,if_neg li]; exact B
 .simp only[World.alloc];rw[Array.getElem?_push,if_neg li]
 .intro n d i;by_cases a:n=H.next
  .subst a; exact .inl (by rw[Ren.at_blk]; exact zA5 _)
  .rw[c n a]at i;exact absurd (r.lt i) li
def St.cy{P:io}{ρ:Ren}{H:aa}{w w1:ip}(r:Rel P ρ H w){n:Nat}{o:dw}{o':Obj}(l:H.get n≠bi)(i:¬Fz (H.get n))(z:ki H.next o)
  (A:Fits P ρ n o o') (B:w1.heap[ρ.blk n]?=ap o') (J:w1.heap.size=w.heap.size) (d:∀ b,b≠ρ.blk n->w1.heap[b]?=w.heap[b]?)
  (C:w1.os=w.os) (D:w1.tape=w.tape) (E:w1.output=w.output):St P ρ H w ρ (H.cy n (ap o)) w1:=by
 have j:∀ m,m≠n->(H.cy n (ap o)).get m=H.get m:=fun m c=>by rw[aa.fg,if_neg c]
 have p:(H.cy n (ap o)).get n=ap o:=by rw[aa.fg,if_pos rfl]
 have f:∀ m,(H.cy n (ap o)).get m≠bi->H.get m≠none:=fun m c=>by
  by_cases h:m=n
  .rw[h]; exact l
  .rw[j m h]at c; exact c
 have g:n<H.base->n∈(H.cy n (ap o)).dirty:=fun s=>by simp[aa.eD,bx s]
 refine⟨Ext.refl _ _,⟨zA5 _,rfl,fun m c=>?_,fun m s c=>j m (fun e=>c (e▸g (e▸s))),fun m c h=>?_⟩,⟨r.base,r.glob,fun m k c F t=>(r.inj m k (f m c) (f k F) t).imp id fun⟨a,b⟩=>⟨by rw[j m (fun e=>i (e▸a))]; exact a,by rw[j k (fun e=>i (e▸b))]; exact b⟩,?_,?_⟩,C,D,E,by omega,fun b s G=>?_,fun m c u=>absurd (r.lt (f m u)) li,fun m c=>?_⟩
 .simp only[aa.eD]; split
  .exact zC4 _ c
  .exact c
 .by_cases e:m=n
  .subst e; exact absurd h l
  .rw[j m e]; exact h
 .intro m x hx;by_cases e:m=n
  .subst e;rw[p]at hx;cases hx;exact⟨r.lt l,z⟩
  .rw[j m e]at hx; exact r.dom m x hx
 .intro m x hx;by_cases e:m=n
  .subst e;rw[p]at hx;cases hx;exact⟨o',B,A⟩
  .rw[j m e]at hx;obtain⟨y,I,v⟩:=r.obj m x hx;refine⟨y,?_,v⟩;rw[d _ (fun t=>(r.inj m n (bw hx) l t).elim e fun h=>i h.2)]; exact I
 .by_cases e:b=ρ.blk n
  .exact absurd e.symm (G n (r.lt l) (by
    rcases zC2 n H.base with h|h
    .exact .inr (g h)
    .exact .inl h) l)
  .exact d b e
 .have q:m≠n:=fun e=>i (e▸c);refine⟨fun h=>?_,j m q⟩;simp only[aa.eD]at h;split at h
  .exact (zA9.1 h).resolve_left q
  .exact h
def St.del{P:io}{ρ:Ren}{H:aa}{w:ip}(r:Rel P ρ H w)(n:Nat)(g:¬Fz (H.get n)):St P ρ H w ρ (H.cy n bi) w:=by
 have j:∀ m,m≠n->(H.cy n bi).get m=H.get m:=fun m c=>by rw[aa.fg,if_neg c]
 have l:(H.cy n bi).get n=none:=by rw[aa.fg,if_pos rfl]
 have f:∀ m x,(H.cy n bi).get m=ap x->H.get m=ap x:=fun m x c=>by
  by_cases h:m=n
  .rw[h,l]at c; cases c
  .rw[j m h]at c; exact c
 have d:∀ m,(H.cy n bi).get m≠bi->H.get m≠none:=fun m c=>by
  cases e:(H.cy n bi).get m with
  |none=>exact absurd e c
  |some x=>exact bw (f m x e)
 have i:n<H.base->n∈(H.cy n bi).dirty:=fun p=>by simp[aa.eD,bx p]
 refine⟨Ext.refl _ _,⟨zA5 _,rfl,fun m c=>?_,fun m p c=>j m (fun e=>c (e▸i (e▸p))),fun m c h=>?_⟩,⟨r.base,r.glob,fun m k c s t=>(r.inj m k (d m c) (d k s) t).imp id fun⟨a,b⟩=>⟨by rw[j m (fun e=>g (e▸a))]; exact a,by rw[j k (fun e=>g (e▸b))]; exact b⟩,fun m x hx=>r.dom m x (f m x hx),fun m x hx=>r.obj m x (f m x hx)⟩,rfl,rfl,rfl,zA5 _,fun _ _ _=>rfl,fun m c q=>absurd (r.lt (d m q)) li,fun m c=>?_⟩
 .simp only[aa.eD]; split
  .exact zC4 _ c
  .exact c
 .by_cases e:m=n
  .subst e; exact l
  .rw[j m e]; exact h
 .have o:m≠n:=fun e=>g (e▸c);refine⟨fun h=>?_,j m o⟩;simp only[aa.eD]at h;split at h
  .exact (zA9.1 h).resolve_left o
  .exact h
def St.move{P:io}{ρ:Ren}{H:aa}{w w1:ip}(r:Rel P ρ H w){n:Nat}{o:dw}{o':Obj}(s e:Nat)(C:H.get n≠bi)(q:¬Fz (H.get n))(R:ki H.next o)
  (S:Fits P (ρ.at H.next (ρ.blk n) s e) H.next o o') (T:w1.heap[ρ.blk n]?=ap o') (hz:w1.heap.size=w.heap.size) (i:∀ b,b≠ρ.blk n->w1.heap[b]?=w.heap[b]?)
  (U:w1.os=w.os) (V:w1.tape=w.tape) (W:w1.output=w.output):St P ρ H w (ρ.at H.next (ρ.blk n) s e) ((H.cy n bi).new o) w1:=by
 have t:=Ren.gB ρ H.next (ρ.blk n) s e;have D:=r.lt C;have f:(H.cy n bi).next=H.next:=rfl;have E:((H.cy n bi).new o).get H.next=ap o:=by rw[aa.fN,f,if_pos rfl]
 have F:((H.cy n bi).new o).get n=none:=by rw[aa.fN,f,if_neg li,aa.fg,if_pos rfl]
 have v:∀ m,m≠n->m≠H.next->((H.cy n bi).new o).get m=H.get m:=fun m h X=>by rw[aa.fN,f,if_neg X,aa.fg,if_neg h]
 have j:n<H.base->n∈((H.cy n bi).new o).dirty:=fun I=>by simp[aa.o5,aa.eD,bx I]
 have z:H.base<=n\/n∈((H.cy n bi).new o).dirty:=by
  rcases zC2 n H.base with h|h
  .exact .inr (j h)
  .exact .inl h
 have a:∀ m,m≠H.next->((H.cy n bi).new o).get m≠bi->H.get m≠bi/\m≠n:=fun m h c=>by
  by_cases e:m=n
  .subst e; exact absurd F c
  .rw[v m e h]at c; exact⟨c,e⟩
 refine⟨t,⟨Nat.le_succ _,rfl,fun m c=>?_,fun m I c=>v m (fun e=>c (e▸j (e▸I))) (by have:=r.base; omega),fun m c h=>?_⟩,
  ⟨Nat.le_succ_of_le r.base,⟨Nat.le_succ_of_le r.glob.1,fun g K=>?_⟩,?_,?_,?_⟩,U,V,W,by omega,fun b I Y=>?_,?_,fun m c=>?_⟩
 .simp only[aa.o5,aa.eD]; split
  .exact zC4 _ c
  .exact c
 .by_cases e:m=n
  .subst e; exact F
  .rw[v m e li]; exact h
 .have:=r.glob.1;rw[t.blk g li,t.sh g li]; exact r.glob.2 g K
 .intro m k c Q A;by_cases d:m=H.next<;>by_cases G:k=H.next
  .exact .inl (by rw[d,G])
  .obtain⟨l,L⟩:=a k G Q;subst d;rw[Ren.at_blk,t.blk k (r.lt l)]at A;exact ((r.inj n k C l A).elim (fun e=>absurd e.symm L) fun h=>absurd h.1 q)
  .obtain⟨p,u⟩:=a m d c;subst G;rw[Ren.at_blk,t.blk m (r.lt p)]at A;exact ((r.inj m n p C A).elim (fun e=>absurd e u) fun h=>absurd h.2 q)
  .obtain⟨p,Z⟩:=a m d c;obtain⟨l,j2⟩:=a k G Q;rw[t.blk m (r.lt p),t.blk k (r.lt l)]at A;rw[v m Z d,v k j2 G];exact r.inj m k p l A
 .intro m x hx;by_cases d:m=H.next
  .subst d;rw[E]at hx;cases hx;exact⟨zD9 _,R.mono (Nat.le_succ _)⟩
  .have J:=a m d (bw hx);rw[v m J.2 d]at hx;have:=r.dom m x hx;exact⟨Nat.lt_succ_of_lt this.1,this.2.mono (Nat.le_succ _)⟩
 .intro m x hx;by_cases d:m=H.next
  .subst d;rw[E]at hx;cases hx;exact⟨o',by rw[Ren.at_blk]; exact T,S⟩
  .have J:=a m d (bw hx);rw[v m J.2 d]at hx;obtain⟨y,hy,M⟩:=r.obj m x hx;have B:=r.dom m x hx;refine⟨y,?_,M.ext B.1 B.2 t⟩;rw[t.blk m B.1,i _ (fun A=>(r.inj m n (bw hx) C A).elim J.2 fun h=>q h.2)]; exact hy
 .by_cases e:b=ρ.blk n
  .exact absurd e.symm (Y n D z C)
  .exact i b e
 .intro m c N;by_cases d:m=H.next
  .subst d; exact .inr ⟨n,D,C,z,by rw[Ren.at_blk]⟩
  .exact absurd (r.lt (a m d N).1) li
 .have u:m≠n:=fun e=>q (e▸c);have O:m≠H.next:=fun e=>absurd (r.lt c.ne) li;refine⟨fun h=>?_,v m u O⟩;simp only[aa.o5,aa.eD]at h;split at h
  .exact (zA9.1 h).resolve_left u
  .exact h
def ay{P:io}{w:ip}{t:ii}{d:TypeDesc}(h:P.underlying t=ap d):(underlying t).run P w=.ok d w:=by simp[underlying,h]
def b6{P:io}{w:ip}{t:ii}{n:Nat}(h:bg P t=ap n):(sizeOf t).run P w=.ok n w:=by
 unfold bg at h
 cases e:P.info? t with
 |none=>simp[e]at h
 |some i=>simp[e]at h; simp[sizeOf,typeInfo,e,h]
def aZ{P:io}{t:ii}{n:Nat}(h:bg P t=ap n):P.cellsOf t=n:=by unfold bg at h;simp[Program.cellsOf,h]
def jN{P:io}{w:ip}{t:ii}{i:TypeInfo}(h:P.info? t=ap i):(typeInfo t).run P w=.ok i w:=by simp[typeInfo,h]
def nq{P:io}{t:ii}{n:Nat}(h:bytesOf P t=ap n):∃ i,P.info? t=ap i/\i.bytes=n:=by
 unfold bytesOf at h
 cases e:P.info? t with
 |none=>simp[e]at h
 |some i=>simp[e]at h; exact⟨i,rfl,h⟩
def dS{P:io}{w:ip}{t:ii}{v:gt}(h:zeroOf P t=ap v):(zeroValue t).run P w=.ok v w/\af v=true:=by
 unfold zeroOf at h
 cases e:P.info? t with
 |none=>simp[e]at h
 |some i =>
  simp only[e]at h
  cases a:i.zero with
  |none=>simp[a]at h
  |some z =>
   simp only[a]at h;split at h
   .rename_i b;simp only[i5]at h;subst h;exact⟨by simp[zeroValue,typeInfo,e,a],b⟩
   .cases h
def rG{P:io}{w:ip}{t:ii}{b:Bool}(h:ey P t=ap b):(isAgg t).run P w=.ok b w:=by
 unfold ey at h;unfold isAgg
 cases e:P.underlying t with
 |none=>simp[e]at h
 |some d =>simp only[e]at h;simp only[Sem.run_bind,ay e,Result.andThen_ok];cases d<;>simp_all
def tv{α:Type}{P:io}(s:Sem α):∀ {a:α},cN P s=ap a->∀ w,s.run P w=.ok a w:=by
 induction s with
 |pure x=>intro a h w; simp[cN]at h; simp[h]
 |program k b=>intro a h w; simp only[cN]at h; simp only[Sem.run]; exact b P h w
 |mark m k b=>intro a h w; simp only[cN]at h; simp only[Sem.run]; exact b h w
 |load|store|new|shape|freeze|frozen|getObj|setObj|choose|sys|halt=>intro a h; simp[cN]at h
def F5{α:Type}{P:io}(s:Sem α):∀ {v:gt},oW P s=ap v->∀ w,s.run P w=.halt (.panic v) w:=by
 induction s with
 |halt h =>intro v c w;cases h<;>simp[oW]at c;simp[c]
 |program k b=>intro a h w; simp only[oW]at h; simp only[Sem.run]; exact b P h w
 |mark m k b=>intro a h w; simp only[oW]at h; simp only[Sem.run]; exact b h w
 |load|store|new|shape|freeze|frozen|getObj|setObj|choose|sys|pure=>intro a h; simp[oW]at h
structure px (P:io) (ρ:Ren) (n:Nat) (v:RV) (e:ii) (op:Bool) (w:ip) (c:Array gt) (fz:Nat × Nat):Prop where
 at_:w.heap[ρ.blk n]?=ap (.cells c e fz)
 cell:∀ i,i<v.n->c[i+ρ.sh n]?=ap (ρ.val (v.get i))
 shut:op=gc->c.size=v.n/\ρ.sh n=0/\ρ.ex n=0/\fz=(0,0)
structure Cells (P:io) (ρ:Ren) (n:Nat) (v:RV) (e:ii) (op:Bool) (w:ip) (c:Array gt) (fz:Nat × Nat):Prop extends px P ρ n v e op w c fz where
 room:op=bv->ρ.ex n≠0->v.n+ρ.ex n*P.cellsOf e<=9223372036854775807*P.cellsOf e
 open_:op=bv->ρ.sh n+v.n+ρ.ex n*P.cellsOf e<=c.size/\∀ i,ρ.sh n<=i->i<ρ.sh n+v.n+ρ.ex n*P.cellsOf e->¬(fz.1<=i/\i<fz.2)
def ed{H:aa}{n:Nat}{v:RV}{e:ii}{c:Bool}(h:bI H n=ap (v,e,c)):∃ a b,H.get n=ap ⟨.cells a e (0,b),c,v⟩:=by
 unfold bI at h;split at h
 .rename_i a f b o g d;simp only[i5,i6]at h;obtain⟨rfl,rfl,rfl⟩:=h;exact⟨a,b,d⟩
 .cases h
def yE{H:aa}{n:Nat}{v:RV}{e:ii}{c:Bool}(h:cM H n=ap (v,e,c)):∃ a b,H.get n=ap ⟨.cells a e b,c,v⟩:=by
 unfold cM at h;split at h
 .rename_i a f b o g d;simp only[i5,i6]at h;obtain⟨rfl,rfl,rfl⟩:=h;exact⟨a,b,d⟩
 .cases h
def Ke{H:aa}{n:Nat}{x:RV × ii × Bool}(h:bI H n=ap x):cM H n=ap x:=by obtain⟨v,e,b⟩:=x;obtain⟨c,d,a⟩:=ed h;simp[cM,a]
def Ng{o:Obj}{c:RV}:PR ⟨o,gc,c⟩=false:=by
 unfold PR;split
 .rename_i h; simp only[dw.mk.injEq]at h; exact absurd h.2.1 lw
 .rfl
def rr{H:aa}{n:Nat}{x:dw}(c:H.get n=ap x)(h:PR x=gc):¬Fz (H.get n):=by rintro⟨o,a,b⟩;rw[c]at a;cases a;rw[h]at b;cases b
def na{H:aa}{n:Nat}{x:RV × ii × Bool}(h:bI H n=ap x):¬Fz (H.get n):=by obtain⟨v,e,b⟩:=x;obtain⟨f,g,c⟩:=ed h;rintro⟨o,a,d⟩;rw[c]at a;cases a;cases b<;>simp[PR]at d
section
variable{P:io}{ρ:Ren}{H:aa}{w:ip}
def Rel.cells(r:Rel P ρ H w){n:Nat}{v:RV}{e:ii}{d:Bool}(h:bI H n=ap (v,e,d)) :
  ∃ c a,Cells P ρ n v e d w c a:=by
 obtain⟨l,m,g⟩:=ed h;obtain⟨o',i,f⟩:=r.obj n _ g;simp only[Fits]at f;obtain⟨c,a,rfl,j,k,b⟩:=f;exact⟨c,a,⟨i,j,k⟩,fun h=>(b h trivial).1.2,fun h=>⟨(b h trivial).1.1,(b h trivial).2⟩⟩
def Rel.CG(r:Rel P ρ H w){n:Nat}{v:RV}{e:ii}{b:Bool}(h:cM H n=ap (v,e,b)) :
  ∃ c a,px P ρ n v e b w c a:=by
 obtain⟨k,l,f⟩:=yE h;obtain⟨o',g,d⟩:=r.obj n _ f;simp only[Fits]at d;obtain⟨c,a,rfl,i,j,m⟩:=d;exact⟨c,a,g,i,j⟩
def Rel.zg(r:Rel P ρ H w){n:Nat}{v:RV}{e:ii}{a:Bool}(h:bI H n=ap (v,e,a)):∀ i,i<v.n->aV H.next (v.get i)=true:=by obtain⟨c,d,b⟩:=ed h;have:=(r.dom n _ b).2;simpa only[ki]using this
def px.lt{n:Nat}{v:RV}{e:ii}{a:Bool}{c:Array gt}{b:Nat × Nat}(h:px P ρ n v e a w c b){i:Nat}(hi:i<v.n):i+ρ.sh n<c.size:=by
 have:=h.cell i hi;rcases zC2 (i+ρ.sh n) c.size with h1|h1
 .exact h1
 .simp[Array.getElem?_eq_none h1]at this
def px.cell?{n:Nat}{v:RV}{e:ii}{a:Bool}{c:Array gt}{b:Nat × Nat}(h:px P ρ n v e a w c b){i:Nat}(hi:i<v.n) :
  w.cell? ⟨ρ.blk n,i+ρ.sh n,bi⟩=ap (ρ.val (v.get i)):=by
 simp[World.cell?,h.at_,h.cell i hi]
def Cells.Nn{n:Nat}{v:RV}{e:ii}{b:Bool}{c:Array gt}{a:Nat × Nat}(h:Cells P ρ n v e b w c a){i:Nat}(d:ρ.sh n<=i)(f:i<ρ.sh n+v.n+ρ.ex n*P.cellsOf e):¬(a.1<=i/\i<a.2):=by
 cases b with
 |false=>have:=(h.shut rfl).2.2.2; subst this; simp
 |true=>exact (h.open_ rfl).2 i d f
def dT(b off i:Nat):(Addr.mk b off bi).add i=⟨b,off+i,bi⟩:=by
 unfold Addr.add;split
 .subst_vars; rfl
 .rfl
def run_loadCellsFrom(b off:Nat)(f:Nat->gt):∀(n i:Nat)(a:Array gt),(∀ j,j<n->w.cell? ⟨b,off+(i+j),bi⟩=ap (f (i+j))) ->
  (loadCellsFrom ⟨b,off,bi⟩ i n a).run P w=.ok (a++((List.range n).map fun j=>f (i+j)).toArray) w:=by
 intro n
 induction n with
 |zero=>intro i a _; simp[loadCellsFrom]
 |succ n d =>intro i a h;have c:=h 0 (Nat.succ_pos _);rw[zD6]at c;simp only[loadCellsFrom,Sem.run_bind,dT,run_load,c,Result.andThen_ok];rw[d (i+1) _ (fun j e=>by have:=h (j+1) li; rw[show i+1+j=i+(j+1) from by omega]; exact this)];congr 1;rw[List.range_succ_eq_map,zB9,List.map_map];apply Array.ext';simp only[Array.toList_append,Array.toList_push,zC9,List.singleton_append,zD6];congr 2;apply List.map_congr_left;intro j _;simp only[Function.comp];rw[show i+1+j=i+j.succ from by omega]
def Nq(ρ:Ren)(v:RV)(i k:Nat):(v.jJ i k).map ρ.val=(List.range k).map fun j=>ρ.val (v.get (i+j)):=by rw[RV.gl,List.map_map]; rfl
def px.load{n:Nat}{v:RV}{e:ii}{a:Bool}{c:Array gt}{b:Nat × Nat}(h:px P ρ n v e a w c b){off k:Nat}(d:off+k<=v.n) :
  (loadCells ⟨ρ.blk n,off+ρ.sh n,bi⟩ k).run P w=.ok ((v.jJ off k).map ρ.val).toArray w:=by
 unfold loadCells
 rw[run_loadCellsFrom (ρ.blk n) (off+ρ.sh n) (fun j=>ρ.val (v.get (off+j))) k 0 #[] (fun j f=>by
  have:=h.cell? (i:=off+j) li
  rw[show off+ρ.sh n+(0+j)=off+j+ρ.sh n from by omega,show 0+j=j from by omega]; exact this)]
 simp[Nq]
def th(r:Rel P ρ H w){t:ii}{n off:Nat}{x:gt}(h:fR P H t (i9 (ap ⟨n,off,bi⟩))=ap x) :
  (loadVar t ⟨ρ.blk n,off+ρ.sh n,bi⟩).run P w=.ok (ρ.val x) w:=by
 simp only[fR,zA1,zA2]at h;obtain⟨⟨v,e,i⟩,hc,b,hb,h⟩:=h;obtain⟨c,j,g⟩:=r.CG hc
 cases b with
 |true =>
  simp only[zA2]at h;obtain⟨sz,a,h⟩:=h;split at h
  .rename_i d;simp only[i5]at h;subst h;simp only[loadVar,Sem.run_bind,rG hb,Result.andThen_ok,if_true,b6 a,g.load (iq d),Sem.run_pure,Ren.val,Ren.eC,Ren.nj]
  .cases h
 |false =>
  simp only at h;split at h
  .rename_i f;simp only[i5]at h;subst h;simp only[loadVar,Sem.run_bind,rG hb,Result.andThen_ok,zC8,if_false,run_load,g.cell? (bO f)]
  .cases h
def sG{t:ii}{p x:gt}(h:fR P H t p=ap x):∃ n off,p=i9 (ap ⟨n,off,bi⟩):=by
 unfold fR at h;split at h
 .rename_i n off; exact⟨n,off,rfl⟩
 .cases h
def pM(ρ:Ren)(n off:Nat):ρ.val (i9 (ap ⟨n,off,bi⟩))=i9 (ap ⟨ρ.blk n,off+ρ.sh n,bi⟩):=by simp[Ren.val]
def JV(r:Rel P ρ H w){t:ii}{p x:gt}(h:fR P H t p=ap x):(Instr.loadAt t (ρ.val p)).run P w=.ok (ρ.val x) w:=by obtain⟨n,off,rfl⟩:=sG h;rw[pM];simp[Instr.loadAt,Instr.sureAddr,th r h]
def OH(c:Array gt)(i:Nat):List gt->Array gt
 |[]=>c
 |v::r=>OH (c.setIfInBounds i v) (i+1) r
def wX(l:List gt):∀(c:Array gt)(i:Nat),(OH c i l).size=c.size:=by
 induction l with
 |nil=>intro c i; rfl
 |cons v r a=>intro c i; simp[OH,a]
def Hj(l:List gt):∀(c:Array gt)(i j:Nat),i+l.length<=c.size->(OH c i l)[j]?=if i<=j/\j<i+l.length then l[j-i]? else c[j]?:=by
 induction l with
 |nil=>intro c i j _; simp[OH]; omega
 |cons v r d =>
  intro c i j h;simp only[zA3]at h ⊢;rw[OH,d _ _ _ pp];by_cases a:i+1<=j/\j<i+1+r.length
  .rw[if_pos a,if_pos li]
   obtain⟨k,rfl⟩:∃ k,j=i+1+k:=⟨j-(i+1),by omega⟩
   rw[show i+1+k-(i+1)=k from by omega,show i+1+k-i=k+1 from by omega];simp
  .rw[if_neg a,Array.getElem?_setIfInBounds];by_cases b:i=j
   .subst b;rw[if_pos rfl,if_pos li,if_pos li];simp
   .rw[if_neg b,if_neg li]
def Nf{v:gt}(h:one v=bv):v.oneCell'=true:=by cases v<;>simp_all [one,Value.oneCell']
def pz(b off:Nat)(e:ii)(f:Nat × Nat):∀(vs:List gt)(i:Nat)(w:ip)(c:Array gt),w.heap[b]?=ap (.cells c e f)->off+i+vs.length<=c.size ->
  (∀ v∈vs,one v=bv)->(∀ j,off+i<=j->j<off+i+vs.length->¬(f.1<=j/\j<f.2)) ->
  ∃ w',(storeCells ⟨b,off,bi⟩ vs i).run P w=.ok () w'/\w'.heap[b]?=ap (.cells (OH c (off+i) vs) e f)/\w'.heap.size=w.heap.size /\
   (∀ k,k≠b->w'.heap[k]?=w.heap[k]?)/\w'.os=w.os/\w'.tape=w.tape/\w'.output=w.output:=by
 intro vs
 induction vs with
 |nil=>intro i w c g _ _ _; exact⟨w,by simp[storeCells],by simpa[OH]using g,rfl,fun _ _=>rfl,rfl,rfl,rfl⟩
 |cons v r t =>
  intro i w c g m a h;simp only[zA3]at m;have n:off+i<c.size:=by omega
  have d:w.cell? ⟨b,off+i,bi⟩=ap c[off+i]:=by simp[World.cell?,g,n]
  have o:w.frozen? ⟨b,off+i,bi⟩=false:=by have:=h (off+i) (zA5 _) (by simp only[zA3]; omega);simp only[World.frozen?,g];simpa using this
  have l:(w.setCell ⟨b,off+i,bi⟩ v).heap[b]?=ap (.cells (c.setIfInBounds (off+i) v) e f):=by simp[World.setCell,Array.getElem?_modify,g]
  obtain⟨w',p,q,u,y,z,A,B⟩:=t (i+1) (w.setCell ⟨b,off+i,bi⟩ v) (c.setIfInBounds (off+i) v) l pp (fun x hx=>a x (zC4 _ hx))
   (fun j p q=>h j li (by simp only[zA3]; omega))
  refine⟨w',?_,?_,?_,?_,z,A,B⟩
  .simp only[storeCells,Sem.run_bind,dT,run_store P w _ v _ (Nf (a v (zD7 ..))),d,o,zC8,if_false,Result.andThen_ok];exact p
  .rw[q]; simp only[OH]; rfl
  .rw[u]; simp
  .intro k s;rw[y k s];simp only[World.setCell,Array.getElem?_modify];rw[if_neg (fun e=>s e.symm)]
def nJ(r:Rel P ρ H w){n off:Nat}{vs:List gt}{H1:aa}(h:dX H n off vs=ap H1) :
  ∃ w1,St P ρ H w ρ H1 w1/\(storeCells ⟨ρ.blk n,off+ρ.sh n,bi⟩ (vs.map ρ.val)).run P w=.ok () w1:=by
 simp only[dX,zA1,zA2]at h;obtain⟨⟨v,e,s⟩,hc,h⟩:=h;simp only at h;split at h
 .rename_i a;simp only[zA7]at a;obtain⟨⟨g,k⟩,hsc⟩:=a;have g:=iq g;simp only[i5]at h;subst h;obtain⟨c,p,b⟩:=r.cells hc;obtain⟨F,G,t⟩:=ed hc
  have m:ρ.sh n+v.n<=c.size:=by
   rcases Nat.eq_zero_or_pos v.n with I|hp
   .cases s with
    |false=>have:=b.shut rfl; omega
    |true=>have:=(b.open_ rfl).1; omega
   .have:=b.lt (i:=v.n-1) li; omega
  obtain⟨w1,q,o,u,z,A,B,C⟩:=pz (P:=P) (ρ.blk n) (off+ρ.sh n) e p (vs.map ρ.val) 0 w c b.at_ pp
   (fun x hx=>by
    obtain⟨y,D,rfl⟩:=zB6.1 hx
    rw[Ren.val_one]; exact zD3.1 k y D)
   (fun j q o=>b.Nn li (by simp only[zE9]at o; omega))
  refine⟨w1,?_,q⟩;refine St.cy r (bw t) (na hc) ?_ ?_ o u z A B C
  .simp only[ki];intro i hi;rw[RV.pA]at hi;rw[RV.lR];split
   .rename_i d;have f:i-off<vs.length:=by omega
    have E:vs.getD (i-off) undef∈vs:=by simp[List.getD,f]
    exact cx.1 hsc _ E
   .exact r.zg hc i hi
  .simp only[Fits];refine⟨_,p,rfl,fun i hi=>?_,fun l=>?_,fun l=>?_⟩
   .rw[RV.pA]at hi;rw[Hj _ _ _ _ pp,RV.lR];simp only[zD6,zE9];by_cases d:off<=i/\i<off+vs.length
    .rw[if_pos li,if_pos d];have f:i-off<vs.length:=by omega
     rw[show i+ρ.sh n-(off+ρ.sh n)=i-off from by omega];simp[List.getD,f]
    .rw[if_neg li,if_neg d]; exact b.cell i hi
   .rw[wX,RV.pA]; exact b.shut l
   .intro _; rw[wX,RV.pA]; exact⟨⟨(b.open_ l).1,b.room l⟩,(b.open_ l).2⟩
 .cases h
def GI(r:Rel P ρ H w){t:ii}{p x:gt}{H1:aa}(h:fa P H t p x=ap H1) :
  ∃ w1,St P ρ H w ρ H1 w1/\(Instr.storeAt t (ρ.val p) (ρ.val x)).run P w=.ok () w1:=by
 unfold fa at h;split at h
 .rename_i n off;simp only[zA1,zA2]at h;obtain⟨sz,b,h⟩:=h;split at h
  .rename_i a;obtain⟨w1,d,e⟩:=nJ r h;refine⟨w1,d,?_⟩;have c:(ρ.val x).cells.size=sz:=by rw[Ren.mM]; simpa using a
   rw[pM];simp only[Instr.storeAt,Instr.sureAddr,storeVar,Sem.run_bind,Sem.run_pure,Result.andThen_ok,b6 b,c,ne_eq,not_true,if_false];rw[Ren.mM];simpa using e
  .cases h
 .cases h
def pE(r:Rel P ρ H w){e:ii}{c:List gt}{H1:aa}(h:cH H e c gc=ap H1) :
  St P ρ H w (ρ.at H.next w.heap.size 0 0) H1 (w.alloc (.cells (c.map ρ.val).toArray e)):=by
 unfold cH at h;split at h
 .rename_i a;simp only[i5]at h;subst h;refine St.new r _ _ 0 0 ?_ ?_
  .simp only[ki,RV.n_ofList,RV.cb];intro i hi;exact cx.1 a _ (by simp[List.getD,hi])
  .simp only[Fits];refine⟨_,(0,0),rfl,fun i hi=>?_,fun _=>?_,fun h=>by cases h⟩
   .simp only[RV.n_ofList]at hi;rw[RV.cb,Ren.at_sh,fJ (Ren.gB ρ H.next w.heap.size 0 0) _ (cx.1 a _ (by simp[List.getD,hi]))];simp[List.getD,hi]
   .simp
 .cases h
def AM(r:Rel P ρ H w){e:ii}{c:List gt}{H1:aa}(h:cH H e c bv=ap H1)(a:Array gt)(b:Nat)(f:a.size=b*P.cellsOf e)(g:c.length+b*P.cellsOf e<=9223372036854775807*P.cellsOf e) :
  St P ρ H w (ρ.at H.next w.heap.size 0 b) H1 (w.alloc (.cells ((c.map ρ.val).toArray++a) e)):=by
 unfold cH at h;split at h
 .rename_i d;simp only[i5]at h;subst h;refine St.new r _ _ 0 b ?_ ?_
  .simp only[ki,RV.n_ofList,RV.cb];intro i hi;exact cx.1 d _ (by simp[List.getD,hi])
  .simp only[Fits];refine⟨_,(0,0),rfl,fun i hi=>?_,fun h=>(by cases h),fun _=>?_⟩
   .simp only[RV.n_ofList]at hi;rw[RV.cb,Ren.at_sh,fJ (Ren.gB ρ H.next w.heap.size 0 b) _ (cx.1 d _ (by simp[List.getD,hi]))];rw[Array.getElem?_append_left (by simpa using hi)];simp[List.getD,hi]
   .simp[f];exact fun _=>g
 .cases h
end
def Ren.sd(ρ:Ren)(d:Deferred):Deferred :=
 match d.target with
 |.collected r=>⟨.collected (ρ.blk r),d.args⟩
 |.fn f cap=>⟨.fn (ρ.fn f) (ρ.eC cap),ρ.eC d.args⟩
 |_=>d
def Ren.act(ρ:Ren)(a:ai):Act:=⟨ρ.tmps a.env,a.defers.map ρ.sd⟩
def jc(ρ:Ren)(e:RV)(t:Nat):(ρ.tmps e)[t]?=if t<e.n then ap (ρ.val (e.get t)) else none:=by
 unfold Ren.tmps;by_cases h:t<e.n
 .simp[h]
 .simp[h]
def Kv(ρ:Ren)(e:RV)(t:Nat):(ρ.tmps e).getD t undef=if t<e.n then ρ.val (e.get t) else undef:=by rw[Array.getD_eq_getD_getElem?,jc];split<;>rfl
@[simp] theorem tmps_size (ρ:Ren) (e:RV):(ρ.tmps e).size=e.n:=by simp[Ren.tmps]
def mc{a b:Nat}(h:¬a<b):Nat.blt a b=false:=by
 cases e:Nat.blt a b with
 |false=>rfl
 |true=>exact absurd (bO e) h
def sC(ρ:Ren)(a:ai)(t:Nat):(ρ.act a).tmps.getD t undef=ρ.val (a.tmp t):=by
 simp only[Ren.act,Kv,ai.tmp];by_cases h:t<a.env.n
 .simp[h,bx h]
 .simp[h,mc h]
def Eu(ρ:Ren)(e:RV)(d:Nat)(v:gt):(ρ.tmps e).setIfInBounds d (ρ.val v)=ρ.tmps (if Nat.blt d e.n then e.set d v else e):=by
 apply Array.ext_getElem?;intro i;rw[Array.getElem?_setIfInBounds,jc,jc,tmps_size];by_cases h:d<e.n
 .rw[bx h,if_pos rfl,RV.n_set,RV.rJ];by_cases a:d=i
  .subst a; simp[h]
  .have b:¬i=d:=fun h=>a h.symm;simp[a,b]
 .rw[mc h];by_cases a:d=i
  .subst a; simp[h]
  .rw[if_neg a]; simp
def jy(ρ:Ren)(a:ai)(dst:Option Tmp)(v:gt):(ρ.act a).put dst (ρ.val v)=ρ.act (a.put dst v):=by
 cases dst with
 |none=>rfl
 |some d =>simp only[Act.put,ai.put_eq,Ren.act,Eu];split<;>rfl
section
variable{P:io}{ρ:Ren}{H:aa}{w:ip}
def aJ(r:Rel P ρ H w){a:ai}{x:i4}{v:gt}(h:aP P a x=ap v):(ρ.act a).eval x=ρ.val v:=by
 cases x with
 |tmp t=>simp only[aP,i5]at h; subst h; exact sC ρ a t
 |const c =>
  simp only[aP]at h;split at h
  .rename_i b;simp only[i5]at h;subst h;rw[di ρ _ b]; rfl
  .cases h
 |global g =>
  simp only[aP]at h;split at h
  .rename_i d;simp only[i5]at h;subst h;obtain⟨e,i⟩:=r.glob.2 g (bO d);simp[Act.eval,Ren.val,e,i]
  .cases h
 |func f=>simp only[aP,i5]at h; subst h; simp[Act.eval,Ren.val,Ren.fn,Ren.eC,Ren.gI]
def kH(r:Rel P ρ H w){a:ai}:∀ {xs:List i4} {vs:List gt},eR P a xs=ap vs->xs.map (ρ.act a).eval=vs.map ρ.val
 |[],vs,h=>by simp only[eR,i5]at h; subst h; rfl
 |x::xs,vs,h=>by simp only[eR,zA1,zA2,i5]at h;obtain⟨v,b,d,c,rfl⟩:=h;simp[aJ r b,kH r c]
def tO(r:Rel P ρ H w){a:ai}:∀ {xs:List (Nat × i4)} {vs:List (Nat × gt)},gv P a xs=ap vs->xs.map (fun p=>(p.1,(ρ.act a).eval p.2))=vs.map (fun p=>(p.1,ρ.val p.2))
 |[],vs,h=>by simp only[gv,i5]at h; subst h; rfl
 |(i,x)::xs,vs,h=>by simp only[gv,zA1,zA2,i5]at h;obtain⟨v,b,d,c,rfl⟩:=h;simp[aJ r b,tO r c]
def o7(r:Rel P ρ H w){a:ai}{x:Option i4}{v:Option gt}(h:lG P a x=ap v):x.map (ρ.act a).eval=v.map ρ.val:=by
 cases x with
 |none=>simp only[lG,i5]at h; subst h; rfl
 |some x =>simp only[lG,zB5]at h;obtain⟨u,b,rfl⟩:=h;simp[aJ r b]
def AK{t:ii}{cs:List gt}{off:Nat}{x:gt}(h:Bq P t cs off=ap x):(part t (cs.map ρ.val).toArray off).run P w=.ok (ρ.val x) w:=by
 simp only[Bq,zA1,zA2]at h;obtain⟨b,c,h⟩:=h
 cases b with
 |true =>simp only[zA2,i5]at h;obtain⟨sz,a,rfl⟩:=h;simp only[part,Sem.run_bind,rG c,Result.andThen_ok,if_true,b6 a,Sem.run_pure,Ren.val,Ren.eC,Ren.nj];congr 2;apply Array.ext';simp only[Array.toList_extract,List.extract_eq_take_drop,List.map_take,List.map_drop];congr 1; omega
 |false =>simp only at h;simp[part,rG c,h]
def Fm{t:ii}{x v:gt}{f:Nat}(h:tS P t x f=ap v):(Instr.field t (ρ.val x) f).run P w=.ok (ρ.val v) w:=by
 unfold tS at h;split at h
 .rename_i a cs e;split at h
  .rename_i g c;have b:a[f]?=ap g:=by simpa using c
   have i:=AK (w:=w) (ρ:=ρ) h;have d:ρ.val (.agg cs)=.agg (cs.toList.map ρ.val).toArray:=by rw[Ren.val,Ren.dO]; congr 1; apply Array.ext'; simp
   rw[d];simp[Instr.field,ay e,b,asAgg,i]
  .cases h
 .cases h
def HT(ρ:Ren)(a:Addr)(k:Nat):ρ.val (i9 (ap (a.add k)))=i9 (ap ((Addr.mk (ρ.blk a.block) (a.off+ρ.sh a.block) a.spot).add k)):=by
 unfold Addr.add;by_cases h:k=0
 .simp[h,Ren.val]
 .simp only[h,if_false,Ren.val];congr 3; omega
def yx{t:ii}{x v:gt}{f:Nat}(h:aG P t x f=ap v):(Instr.fieldAt t (ρ.val x) f).run P w=.ok (ρ.val v) w:=by
 unfold aG at h;split at h
 .rename_i b a i;split at h
  .rename_i j d;have c:b[f]?=ap j:=by simpa using d
   split at h
   .cases h
   .rename_i k dK l;simp only[i5]at h;subst h;have g:k≠0:=fun e=>dK e;rw[HT];simp only[Ren.val,Instr.fieldAt,Sem.run_bind,ay i,Result.andThen_ok,c,Instr.sureAddr,Sem.run_pure,fieldPlace,b6 l,g,if_false]
   .cases h
  .cases h
 .cases h
def Qy(s:ByteArray)(n:Nat):s[n]?=s.data.toList[n]?:=by
 by_cases h:n<s.size
 .rw[getElem?_pos s n h,Array.getElem?_toList];exact (Array.getElem?_eq_getElem h).symm
 .rw[getElem?_neg s n h,Array.getElem?_toList];exact (Array.getElem?_eq_none (Nat.not_lt.1 h)).symm
def FM{t:ii}{x i v:gt}(h:gJ P t x i=ap v):(Instr.index t (ρ.val x) (ρ.val i)).run P w=.ok (ρ.val v) w:=by
 unfold gJ at h;split at h
 .rename_i len elem cs k n a;simp only[zA1,zA2]at h;obtain⟨sz,c,h⟩:=h;split at h
  .rename_i d;have g:=AK (w:=w) (ρ:=ρ) h;have e:ρ.val (.agg cs)=.agg (cs.toList.map ρ.val).toArray:=by rw[Ren.val,Ren.dO]; congr 1; apply Array.ext'; simp
   rw[e];simp[Instr.index,asIntOf,Ren.val,ay a,d,b6 c,g]
  .cases h
 .rename_i s k n a;split at h
  .rename_i j;simp only[zB5]at h;obtain⟨b,l,rfl⟩:=h;have f:s[n.toNat]?=ap b:=by rw[Qy]; exact l
   simp[Instr.index,asIntOf,Ren.val,ay a,j,f]
  .cases h
 .cases h
def xN{t:ii}{x i v:gt}(h:aS P t x i=ap v):(Instr.indexAt t (ρ.val x) (ρ.val i)).run P w=.ok (ρ.val v) w:=by
 unfold aS at h;split at h
 .rename_i len elem a k n d;simp only[zA1,zA2]at h;obtain⟨sz,b,h⟩:=h;split at h
  .rename_i c;simp only[i5]at h;subst h;rw[HT];simp[Instr.indexAt,asIntOf,Ren.val,ay d,c,b6 b,Instr.sureAddr]
  .cases h
 .rename_i elem a len cap k n d;simp only[zA1,zA2]at h;obtain⟨sz,b,h⟩:=h;split at h
  .rename_i c;simp only[i5]at h;subst h;have f:ρ.ni a len cap=a.off:=Ren.mT (.inr li);have e:ρ.zl a len cap=none:=Ren.oe (.inr li);simp[Instr.indexAt,asIntOf,Ren.val,f,e,ay d,c,b6 b,dT];omega
  .cases h
 .cases h
def mS{d k:Nat}(h:bound d bi=ap k):k=d:=by simpa[bound]using h.symm
def kx{d k:Nat}{v:gt}(h:bound d (ap v)=ap k):∃ kd,v=.int kd (k:Int):=by
 unfold bound at h;split at h
 .rename_i a; cases a
 .rename_i kd i a;split at h
  .rename_i b;cases a;simp only[i5]at h;exact⟨kd,by rw[<-h,Int.toNat_of_nonneg b]⟩
  .cases h
 .cases h
def run_sliceBound{kd:IntKind}{k y:Nat}(a:BoundsCode)(h:k<=y):(Instr.sliceBound (.int kd k) y a).run P w=.ok k w:=by simp[Instr.sliceBound,asIntOf,h]
def eE(b:Bool){len cap l h:Nat}{lo hi:Option gt}(a:bound 0 lo=ap l)(c:bound len hi=ap h)(f:hi=bi\/h<=cap)(d:l<=h) :
  (Instr.sliceBounds b len cap (lo.map ρ.val) (hi.map ρ.val) bi).run P w=.ok (l,h,cap) w:=by
 cases hi with
 |none =>
  have:=mS c;subst this
  cases lo with
  |none=>have:=mS a; subst this; simp[Instr.sliceBounds]
  |some v=>obtain⟨kd,rfl⟩:=kx a; simp[Instr.sliceBounds,Ren.val,run_sliceBound _ d]
 |some u =>
  obtain⟨kd,rfl⟩:=kx c;have e:h<=cap:=by simpa using f
  cases lo with
  |none=>have:=mS a; subst this; simp[Instr.sliceBounds,Ren.val,run_sliceBound _ e]
  |some v=>obtain⟨kd,rfl⟩:=kx a; simp[Instr.sliceBounds,Ren.val,run_sliceBound _ d,run_sliceBound _ e]
def mv{len cap l h m:Nat}{kd:IntKind}{lo hi:Option gt}(b:bound 0 lo=ap l)(e:bound len hi=ap h)(a:hi≠bi)(c:m<=cap)(d:h<=m)(f:l<=h) :
  (Instr.sliceBounds bv len cap (lo.map ρ.val) (hi.map ρ.val) (ap (.int kd m))).run P w=.ok (l,h,m) w:=by
 cases hi with
 |none=>exact absurd rfl a
 |some u =>
  obtain⟨kd,rfl⟩:=kx e
  cases lo with
  |none=>have:=mS b; subst this; simp[Instr.sliceBounds,Ren.val,run_sliceBound _ c,run_sliceBound _ d]
  |some v=>obtain⟨kd,rfl⟩:=kx b; simp[Instr.sliceBounds,Ren.val,run_sliceBound _ c,run_sliceBound _ d,run_sliceBound _ f]
def kg(P:io)(ρ:Ren)(H:aa)(w:ip)(s:Sem gt)(v:gt)(H1:aa):Prop :=
 ∃ a w1,St P ρ H w a H1 w1/\s.run P w=.ok (a.val v) w1
def kg.same(r:Rel P ρ H w){s:Sem gt}{v:gt}(h:s.run P w=.ok (ρ.val v) w):kg P ρ H w s v H:=⟨ρ,w,St.refl r,h⟩
def nF{n:Nat}{b:Bool}(h:il H n=ap b):∃ v e,cM H n=ap (v,e,b):=by
 unfold il at h;split at h
 .rename_i c e f o v a;simp only[i5]at h;subst h;exact⟨v,e,by simp[cM,a]⟩
 .cases h
def tp(r:Rel P ρ H w){a:Addr}{len cap:Nat}(h:dW H a=ap bv):ρ.val (jp (ap a) len cap)=jp (ap ⟨ρ.blk a.block,a.off+ρ.sh a.block,bi⟩) len cap:=by
 unfold dW at h;split at h
 .rename_i d; obtain⟨i,j,f⟩:=a; simp only at d; subst d; simp[Ren.val]
 .cases h
 .rename_i d;simp only[zB5]at h;obtain⟨b,k,l⟩:=h;have g:b=false:=by cases b<;>simp_all
  subst g;obtain⟨v,e,m⟩:=nF k;obtain⟨c,o,n⟩:=r.CG m;obtain⟨i,j,f⟩:=a; simp only at d; subst d;have:=(n.shut rfl).2.2.1;simp only at this;simp[Ren.val,this]
def BK{a:Addr}{len cap:Nat}(h:fK H a len cap=ap bv):dW H a=ap true:=by
 unfold fK at h;split at h
 .split at h
  .split at h<;>cases h
  .cases h
 .exact h
def inexact{a:Addr}(h:dW H a=ap gc):a.spot=bi/\il H a.block=ap true:=by
 unfold dW at h;split at h
 .cases h
 .cases h
 .rename_i c;simp only[zB5]at h;obtain⟨b,d,e⟩:=h;have:b=true:=by cases b<;>simp_all
  subst this;exact⟨c,d⟩
def JW{a:Addr}{len cap:Nat}(h:fK H a len cap=ap gc):il H a.block=ap bv/\(a.spot=bi\/∃ k,a.spot=ap (k+1)/\len=0/\cap=0):=by
 unfold fK at h;split at h
 .rename_i k c;split at h
  .rename_i b;have b:len+cap=0:=Nat.eq_of_beq_eq_true b;split at h
   .rename_i d;exact⟨d,.inr ⟨k,c,by omega,by omega⟩⟩
   .cases h
  .cases h
 .exact⟨(inexact h).2,.inl (inexact h).1⟩
def FC(b o m l sz:Nat):(if m=l then ap (Addr.mk b o bi) else (ap (Addr.mk b o bi)).map (·.add (l*sz)))=ap ⟨b,if m=l then o else o+l*sz,bi⟩:=by
 by_cases h:m=l
 .simp[h]
 .simp[h,dT]
def H5(c:Prop)[Decidable c](a b s:Nat):(if c then a+s else a+s+b)=(if c then a else a+b)+s:=by split<;>omega
def E7(r:Rel P ρ H w){t e:ii}{sz:Nat}{a:Option Addr}{len cap m:Nat}{kd:IntKind}{lo hi:Option gt}{v:gt}{H1:aa}
  (g:P.underlying t=ap (.slice e)) (b:bg P e=ap sz) (c:hi≠bi) (h:wu H sz a len cap lo hi m=ap (v,H1)) :
  kg P ρ H w (Instr.slice t (ρ.val (.slice a len cap)) (lo.map ρ.val) (hi.map ρ.val) (ap (.int kd m))) v H1:=by
 simp only[wu,zA1,zA2]at h;obtain⟨l,i,q,d,h⟩:=h;split at h
 .rename_i p;obtain⟨j,k,n,o⟩:=p
  cases a with
  |none =>simp only[i5,i6]at h;obtain⟨rfl,rfl⟩:=h;refine kg.same r ?_;simp only[Ren.val,Instr.slice,Sem.run_bind,ay g,Result.andThen_ok,mv i d c j k n,b6 b,Sem.run_pure,Option.map_none,ite_self]
  |some a =>simp only[i5,i6]at h;obtain⟨rfl,rfl⟩:=h;refine kg.same r ?_;have f:m<=ρ.oZ a len cap:=zC7 j Ren.CT;simp only[Ren.val,Instr.slice,Sem.run_bind,ay g,Result.andThen_ok,mv i d c f k n,b6 b,Sem.run_pure];simp only[Ren.mT (.inl (o a rfl)),Ren.oe (.inl (o a rfl)),Ren.spS_zero,Ren.offS_zero,Ren.capS_zero,FC,H5]
 .cases h
def C0(r:Rel P ρ H w){t e:ii}{sz:Nat}{a:Option Addr}{len cap:Nat}{lo hi:Option gt}{v:gt}{H1:aa}
  (m:P.underlying t=ap (.slice e)) (d:bg P e=ap sz) (h:kh H sz a len cap lo hi=ap (v,H1)) :
  kg P ρ H w (Instr.slice t (ρ.val (.slice a len cap)) (lo.map ρ.val) (hi.map ρ.val) bi) v H1:=by
 simp only[kh,zA1,zA2]at h;obtain⟨l,n,i,f,h⟩:=h;split at h
 .rename_i p;obtain⟨z,o⟩:=p
  cases a with
  |none =>simp only[i5,i6]at h;obtain⟨rfl,rfl⟩:=h;refine kg.same r ?_;simp only[Ren.val,Instr.slice,Sem.run_bind,ay m,Result.andThen_ok,eE bv n f (.inr z) o,b6 d,Sem.run_pure,Option.map_none,ite_self]
  |some a =>
   obtain⟨D,q⟩:=ac (dW H a);simp only[q]at h
   cases D with
   |none =>
    simp only at h;split at h
    .rename_i p;obtain⟨rfl,rfl,_⟩:=p;simp only[i5,i6]at h;obtain⟨rfl,rfl⟩:=h;refine kg.same r ?_;have A:=Ren.CT (ρ:=ρ) (a:=a) (len:=i) (cap:=cap);simp only[Ren.val,Instr.slice,Sem.run_bind,ay m,Result.andThen_ok,eE (cap:=ρ.oZ a i cap) bv n f (.inr li) o,b6 d,Sem.run_pure];simp[Addr.add]
    .cases h
   |some b =>
    cases b with
    |true =>
    simp only[i5,i6]at h;obtain⟨rfl,rfl⟩:=h;refine kg.same r ?_;rw[tp r q];simp only[Instr.slice,Sem.run_bind,ay m,Result.andThen_ok,eE bv n f (.inr z) o,b6 d,Sem.run_pure,FC,Ren.val,Ren.spS_zero,Ren.offS_zero,Ren.capS_zero,H5]
    |false =>
    obtain⟨B,F⟩:=inexact q;have j:ρ.val (jp (ap a) len cap)=jp (ap ⟨ρ.blk a.block,a.off+ρ.sh a.block,bi⟩) len (cap+ρ.ex a.block):=by obtain⟨G,I,E⟩:=a; simp only at B; subst B; simp[Ren.val]
    have c:(Instr.slice t (ρ.val (jp (ap a) len cap)) (lo.map ρ.val) (hi.map ρ.val) bi).run P w =
      .ok (jp (ap ⟨ρ.blk a.block,if cap+ρ.ex a.block=l then a.off+ρ.sh a.block else a.off+ρ.sh a.block+l*sz,bi⟩) (i-l) (cap+ρ.ex a.block-l)) w:=by
     rw[j];simp only[Instr.slice,Sem.run_bind,ay m,Result.andThen_ok,eE (cap:=cap+ρ.ex a.block) bv n f (.inr li) o,b6 d,Sem.run_pure,FC]
    simp only at h;split at h
    .rename_i g;simp only[i5,i6]at h;obtain⟨rfl,rfl⟩:=h;refine kg.same r ?_;rw[c];subst g;simp[Ren.val]
    .split at h
     .rename_i g s;simp only[i5,i6]at h;obtain⟨rfl,rfl⟩:=h;refine kg.same r ?_;rw[c,if_neg li];simp only[Ren.val,Ren.offS_none,Ren.spS_none,Ren.capS_none];rw[show a.off+ρ.sh a.block+l*sz=a.off+l*sz+ρ.sh a.block from by omega,show cap+ρ.ex a.block-l=cap-l+ρ.ex a.block from by omega]
     .rename_i g s;have u:l=cap:=by omega
      have x:i=l:=by omega
      split at h
      .cases h
      rename_i k;simp only[i5,i6]at h;obtain⟨rfl,rfl⟩:=h
      have y:ρ.zl ⟨a.block,a.off+l*sz,ap (a.off+1)⟩ 0 0=none:=Ren.NW (by
       have:=Nat.mul_pos (Nat.pos_of_ne_zero g) (Nat.pos_of_ne_zero k);show a.off+l*sz≠0
       omega)
      refine kg.same r ?_;rw[c];subst x;subst u;simp only[Ren.val,y,Ren.ni,Ren.oZ,true_and,if_true,zG0,and_self];by_cases C:ρ.ex a.block=0
      .simp[C]
      .simp only[C,if_false];rw[if_neg li];rw[show i+ρ.ex a.block-i=ρ.ex a.block from by omega,show a.off+ρ.sh a.block+i*sz=a.off+i*sz+ρ.sh a.block from by omega]
 .cases h
end
section
variable{P:io}{ρ:Ren}{H:aa}{w:ip}
def FH(r:Rel P ρ H w){t:ii}{x:gt}{lo hi y:Option gt}{v:gt}{H1:aa}(h:cw P H t x lo hi y=ap (v,H1)) :
  kg P ρ H w (Instr.sliceAt t (ρ.val x) (lo.map ρ.val) (hi.map ρ.val) (y.map ρ.val)) v H1:=by
 unfold cw at h;split at h
 .rename_i s d;simp only[zA1,zA2]at h;obtain⟨l,k,A,f,h⟩:=h;split at h
  .rename_i j;simp only[i5,i6]at h;obtain⟨rfl,rfl⟩:=h;refine kg.same r ?_;simp only[Instr.sliceAt,Instr.slice,Sem.run_bind,ay d,Result.andThen_ok,Ren.val,Option.map_none,Option.isSome_none,zC8,if_false,eE gc k f (.inr j.1) j.2,Sem.run_pure]
  .cases h
 .rename_i e a len cap d;simp only[zA1,zA2]at h;obtain⟨sz,c,h⟩:=h;obtain⟨g,w1,i,p⟩:=C0 r d c h;refine⟨g,w1,i,?_⟩;rw[<-p];simp only[Instr.sliceAt,Sem.run_bind,ay d,Result.andThen_ok,Option.map_none]
 .rename_i e a len cap kd m d;simp only[zA1]at h;split at h
  .rename_i q;simp only[zA2]at h;obtain⟨sz,c,h⟩:=h;have u:hi≠none:=by intro e; rw[e]at q; simp at q
   obtain⟨g,w1,i,p⟩:=E7 (kd:=kd) r d c u h;refine⟨g,w1,i,?_⟩;rw[<-p];simp only[Instr.sliceAt,Sem.run_bind,ay d,Result.andThen_ok,zB1,Ren.val,Int.toNat_of_nonneg q.1]
  .cases h
 .rename_i n e a d;simp only[zA1,zA2]at h;obtain⟨l,k,A,f,sz,c,h⟩:=h;split at h
  .rename_i j;obtain⟨B,C,z⟩:=j;simp only[i5,i6]at h;obtain⟨rfl,rfl⟩:=h;refine kg.same r ?_;obtain⟨b,o,s⟩:=a;simp only at z;subst z;simp only[Instr.sliceAt,Sem.run_bind,ay d,Result.andThen_ok,Ren.val,Instr.sureAddr,Sem.run_pure,Option.map_none,eE gc k f (.inr B) C,b6 c,dT];congr 4;split<;>simp<;>omega
  .cases h
 .cases h
def nQ(ρ:Ren)(off:Nat):∀(l:List gt)(k:Nat)(cells:Array gt),
  ((l.map ρ.val).zipIdx k).foldl (fun cs (x:gt × Nat)=>cs.setIfInBounds (off+x.2) x.1) (cells.map ρ.val) =
   ((l.zipIdx k).foldl (fun cs (x:gt × Nat)=>cs.setIfInBounds (off+x.2) x.1) cells).map ρ.val
 |[],k,cells=>by simp
 |v::l,k,cells=>by
  simp only[zB9,List.zipIdx_cons,List.foldl_cons];have:(cells.map ρ.val).setIfInBounds (off+k) (ρ.val v)=(cells.setIfInBounds (off+k) v).map ρ.val:=by simp
  rw[this,nQ ρ off l (k+1)]
def rE(ρ:Ren)(a:Nat->Option (Nat × Nat)):∀(b:List (Nat × gt))(cells:Array gt),
  Instr.fill a (cells.map ρ.val) (b.map fun p=>(p.1,ρ.val p.2))=(Instr.fill a cells b).map fun c=>c.map ρ.val
 |[],cells=>by simp[Instr.fill]
 |(i,v)::b,cells=>by
  simp only[zB9,Instr.fill]
  cases j:a i with
  |none=>rfl
  |some f =>
   obtain⟨off,d⟩:=f;simp only[Ren.mM,Array.size_map];split
   .rfl
   .have g:=nQ ρ off v.cells.toList 0 cells
    have h:(v.cells.map ρ.val).zipIdx.foldl (fun cs (x:gt × Nat)=>cs.setIfInBounds (off+x.2) x.1) (cells.map ρ.val) =
      (v.cells.zipIdx.foldl (fun cs (x:gt × Nat)=>cs.setIfInBounds (off+x.2) x.1) cells).map ρ.val:=by
     rw[<-Array.foldl_toList,<-Array.foldl_toList];simpa using g
    have e:=rE ρ a b (v.cells.zipIdx.foldl (fun cs (x:gt × Nat)=>cs.setIfInBounds (off+x.2) x.1) cells);rw[<-h]at e;exact e
def wG(ρ:Ren){z:gt}(h:af z=bv):z.cells.map ρ.val=z.cells:=by rw[<-Ren.mM,di ρ z h]
def F4{t:ii}{a:List (Nat × gt)}{v:gt}(h:dR P t a=ap v) :
  (Instr.build t (a.map fun p=>(p.1,ρ.val p.2)).toArray).run P w=.ok (ρ.val v) w:=by
 simp only[dR,zA1,zA2]at h;obtain⟨z,l,h⟩:=h;obtain⟨c,d⟩:=dS (w:=w) l;split at h
 .rename_i f g;simp only[zA2,zB5]at h;obtain⟨b,m,cells,j,rfl⟩:=h;have e:=rE ρ (b[·]?) a z.cells;rw[wG ρ d,j]at e;simp only[Instr.build,Sem.run_bind,c,Result.andThen_ok,ay g,tv _ m,e,zB1,Sem.run_pure,Ren.val,Ren.dO]
 .rename_i len elem g;simp only[zA2,zB5]at h;obtain⟨sz,k,cells,j,rfl⟩:=h;have e:=rE ρ (fun i=>ap (i*sz,sz)) a z.cells;rw[wG ρ d,j]at e;simp only[Instr.build,Sem.run_bind,c,Result.andThen_ok,ay g,b6 k,e,zB1,Sem.run_pure,Ren.val,Ren.dO]
 .cases h
def jm(z:List gt)(n:Nat):(cg z n).length=n*z.length:=by
 induction n with
 |zero=>simp[cg]
 |succ n a=>simp[cg,a,Nat.succ_mul]; omega
def xW(z:List gt):∀(n i:Nat),i<n*z.length->(cg z n)[i]?=z[i % z.length]?
 |0,i,h=>by simp at h
 |n+1,i,h=>by
  have a:0<z.length:=by
   rcases Nat.eq_zero_or_pos z.length with h0|h0
   .rw[h0]at h; simp at h
   .exact h0
  by_cases hi:i<z.length
  .rw[cg,List.getElem?_append_left hi,Nat.mod_eq_of_lt hi]
  .rw[cg,zG5 li,xW z n (i-z.length) (by rw[Nat.succ_mul]at h; omega)];rw[<-Nat.mod_eq_sub_mod li]
def jF(z:Array gt)(n:Nat):(Array.range (n*z.size)).map (fun i=>z[i % z.size]!)=(cg z.toList n).toArray:=by
 apply Array.ext_getElem?;intro i;by_cases h:i<n*z.size
 .have a:0<z.size:=by
   rcases Nat.eq_zero_or_pos z.size with h0|h0
   .rw[h0]at h; simp at h
   .exact h0
  have b:i % z.size<z.size:=Nat.mod_lt _ a;have:=xW z.toList n i (by simpa using h);simp only[List.getElem?_toArray,this];simp[h,b]
 .rw[Array.getElem?_eq_none (by simpa using h),Array.getElem?_eq_none (by simpa[jm]using h)]
def nu(ρ:Ren)(z:List gt)(h:z.map ρ.val=z)(n:Nat):(cg z n).map ρ.val=cg z n:=by
 induction n with
 |zero=>rfl
 |succ n a=>simp[cg,a,h]
def sD(ρ:Ren){z:gt}(h:af z=bv):z.cells.toList.map ρ.val=z.cells.toList:=by have:=congrArg Array.toList (wG ρ h);simpa using this
def IE(ρ:Ren)(n b s e:Nat):(ρ.at n b s e).val (i9 (ap ⟨n,0,bi⟩))=i9 (ap ⟨b,s,bi⟩):=by simp[pM]
def vG(r:Rel P ρ H w){t:ii}{len:Nat}{a:List (Nat × gt)}{v:gt}{H1:aa}(h:bU P H t len a=ap (v,H1)) :
  kg P ρ H w (Instr.buildSlice t len (a.map fun p=>(p.1,ρ.val p.2)).toArray) v H1:=by
 simp only[bU,zA1,zA2]at h;obtain⟨d,u,h⟩:=h;split at h
 .rename_i e;simp only[zA2]at h;obtain⟨sz,b,z,A,h⟩:=h;split at h
  .rename_i B;obtain⟨D,x⟩:=B;simp only[zA2,i5,i6]at h;obtain⟨cells,k,g,C,rfl,rfl⟩:=h;obtain⟨l,m⟩:=dS (w:=w) A;have c:=rE ρ (fun i=>ap (i*sz,sz)) a (cg z.cells.toList len).toArray;rw[k]at c;have n:(cg z.cells.toList len).toArray.map ρ.val=(cg z.cells.toList len).toArray:=by simp[nu ρ _ (sD ρ m) len]
   rw[n]at c;refine⟨_,_,pE r C,?_⟩;have f:¬(len*sz>2 ^ 24):=by omega
   have y:Array.map ρ.val cells=(cells.toList.map ρ.val).toArray:=by apply Array.ext'; simp
   have o:Array.range 0=#[]:=rfl;by_cases q:len*sz=0
   .have j:(cg z.cells.toList len)=[]:=zE7 (by rw[jm,x]; exact q);rw[j]at c;simp only[Instr.buildSlice,Sem.run_bind,ay u,Result.andThen_ok,b6 b,q,if_true];simp[c,newRow,Ren.val,o,y]
   .have s:(Array.range (len*sz)).map (fun i=>z.cells[i % z.cells.size]!)=(cg z.cells.toList len).toArray:=by
     have:sz=z.cells.size:=by simpa using x.symm
     rw[this]; exact jF _ _
    simp only[Instr.buildSlice,Sem.run_bind,ay u,Result.andThen_ok,b6 b,f,if_false,Sem.run_pure,q,l,s,c,zB1];simp[newRow,Ren.val,y]
  .cases h
 .cases h
end
section
variable{P:io}{ρ:Ren}{H:aa}{w:ip}
def wrap_small{n:Int}(c:0<=n)(d:n<=140737488351232):IntKind.i64.wrap n=n:=by
 have:n % (2 ^ IntKind.i64.bits:Int)=n:=by
  have e:(2 ^ IntKind.i64.bits:Int)=18446744073709551616:=by decide
  rw[e]; omega
 have a:(2 ^ (IntKind.i64.bits-1):Int)=9223372036854775808:=by decide
 simp only[IntKind.wrap,this,a];split
 .rename_i b;simp only[zA7,decide_eq_true_eq]at b;omega
 .rfl
def yN{n b:Nat}(h:small n b=bv):n*b<=140737488351232/\n<=140737488351232:=by simp only[small,zA7]at h;exact⟨iq h.1,iq h.2⟩
def xq(r:Rel P ρ H w){t:ii}{l c v:gt}{H1:aa}(h:fc P H t l c=ap (v,H1)) :
  kg P ρ H w (Instr.makeSlice t (ρ.val l) (ρ.val c)) v H1:=by
 unfold fc at h;split at h
 .rename_i l c;simp only[zA1,zA2]at h;obtain⟨d,q,h⟩:=h;split at h
  .rename_i e;simp only[zA2]at h;obtain⟨by1,k,sz,b,z,B,h⟩:=h;split at h
   .rename_i C;obtain⟨D,J,E,s⟩:=C;simp only[zA2,i5,i6]at h;obtain⟨g,F,rfl,rfl⟩:=h;obtain⟨m,n⟩:=dS (w:=w) B;obtain⟨G,a,f⟩:=nq k;obtain⟨K,s2⟩:=yN E;have u:IntKind.i64.wrap l=l:=wrap_small D li;have x:IntKind.i64.wrap c=c:=wrap_small li li
    have y:¬((by1:Int)*c>2 ^ 48):=by
     have:((by1:Int)*c)=((c.toNat*by1:Nat):Int):=by rw[Int.natCast_mul,Int.toNat_of_nonneg li,Int.mul_comm]
     rw[this]; omega
    refine⟨_,_,pE r F,?_⟩;have I:(ge (c<0)||ge ((by1:Int)*c>2 ^ 48))=false:=by simp; omega
    have A:¬(((ge (c<0)||ge ((by1:Int)*c>2 ^ 48))||ge (l<0)||ge (l>c))=bv):=by rw[I]; simp; omega
    by_cases o:c.toNat*sz=0
    .have j:(cg z.cells.toList c.toNat)=[]:=zE7 (by rw[jm,s]; exact o);simp only[Ren.val,Instr.makeSlice,Sem.run_bind,ay q,Result.andThen_ok,asInt,asIntOf,Sem.run_pure,jN a,f,u,x,A,j];simp[newRow,b6 b,o,show Array.range 0=#[] from rfl]
    .have p:(Array.range (c.toNat*sz)).map (fun i=>z.cells[i % z.cells.size]!)=(cg z.cells.toList c.toNat).toArray:=by
      have:sz=z.cells.size:=by simpa using s.symm
      rw[this]; exact jF _ _
     simp only[Ren.val,Instr.makeSlice,Sem.run_bind,ay q,Result.andThen_ok,asInt,asIntOf,Sem.run_pure,jN a,f,u,x,A,nu ρ _ (sD ρ n)];simp[newRow,b6 b,o,m,p]
   .cases h
  .cases h
 .cases h
def vH{x v:gt}{xt t:ii}{ok:Bool}(h:gi P x t ok=ap v):(Instr.typeAssert (ρ.val x) xt t ok).run P w=.ok (ρ.val v) w:=by
 unfold gi at h;split at h
 .rename_i want u y f;split at h
  .rename_i i hi;split at h
   .rename_i j;simp only[i5]at h;subst h;cases ok<;>simp[Instr.typeAssert,Ren.val,ay f,jN hi,j,Ren.dO]
   .rename_i m j;split at h
    .rename_i a;simp only[zB5]at h;obtain⟨z,g,rfl⟩:=h;obtain⟨b,c⟩:=dS (w:=w) g;simp[Instr.typeAssert,Ren.val,ay f,jN hi,j,Ren.dO,a,b,di ρ z c]
    .cases h
  .cases h
 .rename_i d f;split at h
  .rename_i a;simp only[zB5]at h;obtain⟨z,g,rfl⟩:=h;obtain⟨b,c⟩:=dS (w:=w) g;cases d<;>simp[Instr.typeAssert,Ren.val,ay f,Ren.dO,a,b,di ρ z c]
  .cases h
 .rename_i d u y e f;split at h
  .rename_i k;simp only[i5]at h;subst h
   cases d<;>cases ok<;>first
    |(exact absurd rfl (e _)) 
    |simp[Instr.typeAssert,Ren.val,ay f,Ren.dO,k]
  .rename_i dK;split at h
   .rename_i a;simp only[zB5]at h;obtain⟨z,g,rfl⟩:=h;obtain⟨b,c⟩:=dS (w:=w) g
    cases d<;>first
     |(exact absurd rfl (e _))
     |simp[Instr.typeAssert,Ren.val,ay f,Ren.dO,a,dK,b,di ρ z c]
   .cases h
 .cases h
end
section
variable{P:io}{ρ:Ren}{H:aa}{w:ip}
def Fi(P:io)(ρ:Ren)(H:aa)(w:ip)(s:Sem gt)(x:cO)(H1:aa):Prop :=
 ∃ a w1,St P ρ H w a H1 w1/\match x with
  |.value v=>s.run P w=.ok (a.val v) w1
  |.panic v=>s.run P w=.halt (.panic (a.val v)) w1
  |_=>False
def Fi.val(r:Rel P ρ H w){s:Sem gt}{v:gt}(h:s.run P w=.ok (ρ.val v) w):Fi P ρ H w s (.value v) H:=⟨ρ,w,St.refl r,h⟩
def Fi.of{s:Sem gt}{v:gt}{H1:aa}(h:kg P ρ H w s v H1):Fi P ρ H w s (.value v) H1:=h
def xH(r:Rel P ρ H w){n:Nat}(h:il H n=ap gc) :
  H.get n≠bi/\¬Fz (H.get n)/\ρ.sh n=0/\(∀ o,w.frozen? ⟨ρ.blk n,o,bi⟩=gc)/\(∀ o s,w.frozen? ⟨ρ.blk n,o,s⟩=gc)/\∃ e k,w.shape? (ρ.blk n)=ap (e,k):=by
 obtain⟨v,e,b⟩:=nF h;obtain⟨c,l,a⟩:=r.CG b;obtain⟨m,p,d⟩:=yE b;obtain⟨q,g,t,i⟩:=a.shut rfl;subst i;refine⟨bw d,(fun⟨o,f,j⟩=>by rw[d]at f; cases f; simp[PR]at j),g,fun o=>by simp[World.frozen?,a.at_],fun o s=>by simp[World.frozen?,a.at_],e,c.size,by simp[World.shape?,a.at_]⟩
def B0(r:Rel P ρ H w){a b:Addr}(d:il H a.block=ap gc)(f:il H b.block=ap gc) :
  (sameAddr ⟨ρ.blk a.block,a.off+ρ.sh a.block,a.spot⟩ ⟨ρ.blk b.block,b.off+ρ.sh b.block,b.spot⟩).run P w=.ok (a == b) w:=by
 obtain⟨g,i,q,s,j,t,u,k⟩:=xH r d;obtain⟨l,v,x,y,m,z,A,n⟩:=xH r f;by_cases h:a.block=b.block
 .have o:(ρ.blk a.block == ρ.blk b.block)=true:=by simp[h]
  simp only[sameAddr,o,if_true,Sem.run_pure];congr 1;rw[Bool.eq_iff_iff];simp only[beq_iff_eq];obtain⟨B,C,p⟩:=a;obtain⟨D,E,F⟩:=b;simp only at h ⊢;subst h;simp
 .have dK:(ρ.blk a.block == ρ.blk b.block)=false:=by
   simp only[beq_eq_false_iff_ne];exact fun e=>(r.inj _ _ g l e).elim h fun e=>i e.1
  have c:(a == b)=false:=by simp only[beq_eq_false_iff_ne];exact fun e=>h (by rw[e])
  simp[sameAddr,dK,j,m,noView,viewAt,k,n,mayBeOne,stringish,c]
def I0(r:Rel P ρ H w):∀(d:Nat){t:ii}{x y:gt}{b:Bool},OA P H d t x y=ap b->∀ k,d<=k->(Op.equalIn k t (ρ.val x) (ρ.val y)).run P w=.ok b w
 |0,t,x,y,b,h,k,m=>by simp[OA]at h
 |d+1,t,x,y,b,h,0,m=>by omega
 |d+1,t,x,y,b,h,k+1,m=>by
  unfold OA at h;split at h
  .rename_i e q a;simp only[i5]at h;subst h;cases q<;>simp[Op.equalIn,ay a,Ren.val]
  .rename_i e q a;simp only[i5]at h;subst h;simp[Op.equalIn,ay a,Ren.val]
  .rename_i e p q a;split at h
   .rename_i sz g o s;simp only[i5]at h;subst h;simp only[Op.equalIn,Ren.val,Sem.run_bind,ay a,Result.andThen_ok,b6 g];simp[B0 r o s]
   .cases h
  .rename_i e u v q z A a;simp only[i5]at h;subst h;cases q<;>simp[Op.equalIn,ay a,Ren.val]
  .rename_i e q u v z A a;simp only[i5]at h;subst h;simp[Op.equalIn,ay a,Ren.val]
  .rename_i j l q a;simp only[i5]at h;subst h;cases q<;>simp[Op.equalIn,ay a,Ren.val]
  .rename_i j l q a;simp only[i5]at h;subst h;simp[Op.equalIn,ay a,Ren.val]
  .rename_i j l B C D E a;simp only[i5]at h;subst h;simp[Op.equalIn,ay a,Ren.val]
  .rename_i j l B C D E a;simp only[i5]at h;subst h;simp[Op.equalIn,ay a,Ren.val]
  .rename_i n F G a;simp only[i5]at h;subst h;simp[Op.equalIn,ay a,Ren.val]
  .rename_i n F G a;simp only[i5]at h;subst h;simp[Op.equalIn,ay a,Ren.val]
  .rename_i n I J ty K a;split at h
   .rename_i dK;simp only[i5]at h;subst h;simp[Op.equalIn,ay a,Ren.val,dK]
   .rename_i c;have c:I=ty:=by simpa using c
    subst c;split at h
    .rename_i i hi;split at h
     .rename_i f;have:=I0 r d h k li;simp[Op.equalIn,ay a,Ren.val,jN hi,f,this]
     .cases h
    .cases h
  .cases h
def dN:gt->Bool
 |.pointer _=>bv
 |.slice _ _ _=>bv
 |.map _=>bv
 |.func _ _ _=>bv
 |.nilFunc=>bv
 |.iface _ _=>bv
 |.nilIface=>bv
 |_=>gc
def Dv{d:Nat}{t:ii}{x y:gt}{b:Bool}(h:OA P H d t x y=ap b):dN x=bv/\dN y=true:=by
 cases d with
 |zero=>simp[OA]at h
 |succ d =>
  unfold OA at h
  split at h<;>first
   |exact⟨rfl,rfl⟩
   |cases h
def uA(ρ:Ren){x:gt}(h:dN x=bv):dN (ρ.val x)=true:=by
 cases x with
 |pointer a=>cases a<;>simp[Ren.val,dN]
 |slice a _ _=>cases a<;>simp[Ren.val,dN]
 |map a=>cases a<;>simp[Ren.val,dN]
 |func f a b=>simp[Ren.val,dN]
 |nilFunc=>simp[Ren.val,dN]
 |iface t v=>simp[Ren.val,dN]
 |nilIface=>simp[Ren.val,dN]
 |_=>simp[dN]at h
def binOp_eql{t:ii}{x y:gt}(h:dN x=bv):binOp .eql t x y=(do pure (kw (<-Op.equal t x y))):=by
 cases x<;>first
  |rfl
  |(simp[dN]at h; done)
def binOp_neq{t:ii}{x y:gt}(h:dN x=bv):binOp .neq t x y=(do pure (kw (!(<-Op.equal t x y)))):=by
 cases x<;>first
  |rfl
  |(simp[dN]at h; done)
def fH(a b:gt):Bool :=
 match a,b with
 |.nilIface,.nilIface=>gc
 |.agg _,.agg _=>gc
 |_,_=>bv
def PX{c:Prop}[Decidable c]{A B:Sem Unit}(a:c->A.run P w=.ok () w)(b:¬c->B.run P w=.ok () w):(if c then A else B).run P w=.ok () w:=by
 by_cases h:c
 .rw[if_pos h]; exact a h
 .rw[if_neg h]; exact b h
def oG{c:BinOp}{t:ii}{x y:i4}{a b:gt}(h:fH a b=bv):(eqGuard c t x y a b).run P w=.ok () w:=by
 unfold eqGuard;refine PX (fun _=>rfl) (fun _=>?_);split
 .simp[fH]at h
 .simp[fH]at h
 .rfl
def CH(ρ:Ren){x y:gt}(hx:dN x=bv)(c:dN y=bv)(h:¬(x=.nilIface/\y=.nilIface)):fH (ρ.val x) (ρ.val y)=true:=by
 cases x with
 |pointer a=>cases a<;>simp[Ren.val,fH]
 |slice a _ _=>cases a<;>simp[Ren.val,fH]
 |map a=>cases a<;>simp[Ren.val,fH]
 |func f a b=>simp[Ren.val,fH]
 |nilFunc=>simp[Ren.val,fH]
 |iface t v=>simp[Ren.val,fH]
 |nilIface =>
  cases y with
  |nilIface=>exact absurd ⟨rfl,rfl⟩ h
  |pointer a=>cases a<;>simp[Ren.val,fH]
  |slice a _ _=>cases a<;>simp[Ren.val,fH]
  |map a=>cases a<;>simp[Ren.val,fH]
  |chan a=>simp[dN]at c
  |_=>simp[Ren.val,fH]
 |_=>simp[dN]at hx
def Bu(r:Rel P ρ H w){a:BinOp}{t:ii}{x y:i4}{p q v:gt}(h:rI P H a t p q=ap v) :
  (do eqGuard a t x y (ρ.val p) (ρ.val q); binOp a t (ρ.val p) (ρ.val q):Sem gt).run P w=.ok (ρ.val v) w:=by
 have c:∀ b,OA P H 100 t p q=ap b->sH a b=ap v->¬(p=.nilIface/\q=.nilIface) ->
   (do eqGuard a t x y (ρ.val p) (ρ.val q); binOp a t (ρ.val p) (ρ.val q):Sem gt).run P w=.ok (ρ.val v) w:=by
  intro b f d j;obtain⟨hx,k⟩:=Dv f;have i:=I0 r 100 f Op.maxDepth mt;simp only[Sem.run_bind,oG (CH ρ hx k j),Result.andThen_ok];cases a<;>simp[sH]at d
  .subst d;rw[binOp_eql (uA ρ hx)];simp[Op.equal,i,Ren.val]
  .subst d;rw[binOp_neq (uA ρ hx)];simp[Op.equal,i,Ren.val]
 unfold rI at h;split at h
 .cases h
 .cases h
 .rename_i l g;simp only[zA2]at h;obtain⟨b,f,d⟩:=h;exact c b f d (fun e=>g e.1 e.2)
def KO(r:Rel P ρ H w){c:BinOp}{t:ii}{x y:i4}{p q v:gt}(h:df P H c t p q=ap v) :
  (do eqGuard c t x y (ρ.val p) (ρ.val q); binOp c t (ρ.val p) (ρ.val q):Sem gt).run P w=.ok (ρ.val v) w:=by
 unfold df at h;split at h
 .rename_i k a m b;split at h
  .rename_i f;subst f;have d:(eqGuard c t x y (.int k a) (.int k b)).run P w=.ok () w:=oG rfl;simp only[Ren.val,Sem.run_bind,d,Result.andThen_ok]
   cases c<;>simp only[dy,i5]at h<;>first
    |(subst h; simp[binOp,Op.intArith,Op.intCmp,Ren.val]; done)
    | (split at h
       .cases h
       .rename_i g;simp only[i5]at h;subst h
        simp[binOp,Op.intDiv,g,Ren.val])
    |cases h
  .cases h
 .rename_i a b;split at h
  .rename_i i;have d:(eqGuard c t x y (kw a) (kw b)).run P w=.ok () w:=oG rfl;simp only[Ren.val,Sem.run_bind,d,Result.andThen_ok]
   have e:(Op.equal t (kw a) (kw b)).run P w=.ok (a == b) w:=by
    have:∀ k,(Op.equalIn (k+1) t (kw a) (kw b)).run P w=.ok (a == b) w:=fun k=>by simp[Op.equalIn,ay i]
    exact this 9999
   have j:binOp .eql t (kw a) (kw b)=(do pure (kw (<-Op.equal t (kw a) (kw b)))):=rfl;have l:binOp .neq t (kw a) (kw b)=(do pure (kw (!(<-Op.equal t (kw a) (kw b))))):=rfl
   cases c<;>simp only[sH,i5]at h<;>first
    |(subst h; rw[j]; simp only[Sem.run_bind,e,Result.andThen_ok,Sem.run_pure,Ren.val]; done)
    |(subst h; rw[l]; simp only[Sem.run_bind,e,Result.andThen_ok,Sem.run_pure,Ren.val]; done)
    |cases h
  .cases h
 .exact Bu r h
def qD(r:Rel P ρ H w){s:Sem gt}{x:cO}(h:iZ P s=ap x):Fi P ρ H w s x H:=by
 unfold iZ at h;split at h
 .rename_i v a;split at h
  .rename_i b;simp only[i5]at h;subst h;exact Fi.val r (by rw[tv s a w,di ρ v b])
  .cases h
 .split at h
  .rename_i v a;split at h
   .rename_i b;simp only[i5]at h;subst h;exact⟨ρ,w,St.refl r,by show s.run P w=.halt (.panic (ρ.val v)) w; rw[F5 s a w,di ρ v b]⟩
   .cases h
  .cases h
def KV(r:Rel P ρ H w){a:BinOp}{t:ii}{x y:i4}{p q:gt}{c:cO}{H1:aa}(h:zo P H a t x y p q=ap (c,H1)) :
  Fi P ρ H w (do eqGuard a t x y (ρ.val p) (ρ.val q); binOp a t (ρ.val p) (ρ.val q)) c H1:=by
 unfold zo at h;split at h
 .rename_i v d;simp only[i5,i6]at h;obtain⟨rfl,rfl⟩:=h;exact Fi.val r (KO r d)
 .split at h
  .rename_i b;simp only[zA7]at b;simp only[zB5,i6]at h;obtain⟨z,e,rfl,rfl⟩:=h;rw[di ρ p b.1,di ρ q b.2];exact qD r e
  .cases h
def O8(r:Rel P ρ H w){a:UnOp}{p:gt}{b:cO}{H1:aa}(h:QX P H a p=ap (b,H1)) :
  Fi P ρ H w (Op.unary a (ρ.val p)) b H1:=by
 unfold QX at h;split at h
 .simp only[i5,i6]at h;obtain⟨rfl,rfl⟩:=h;exact Fi.val r (by simp[Op.unary,Ren.val])
 .simp only[i5,i6]at h;obtain⟨rfl,rfl⟩:=h;exact Fi.val r (by simp[Op.unary,Op.intArith,Ren.val])
 .split at h
  .rename_i c;simp only[zB5,i6]at h;obtain⟨z,d,rfl,rfl⟩:=h;rw[di ρ _ c];exact qD r d
  .cases h
def Gu(r:Rel P ρ H w){t:ii}{p q:gt}{b:cO}{H1:aa}(h:o8 P H t p q=ap (b,H1)) :
  Fi P ρ H w (Instr.index t (ρ.val p) (ρ.val q)) b H1:=by
 unfold o8 at h;split at h
 .rename_i v c;simp only[i5,i6]at h;obtain⟨rfl,rfl⟩:=h;exact Fi.val r (FM c)
 .split at h
  .rename_i a;simp only[zA7]at a;simp only[zB5,i6]at h;obtain⟨z,d,rfl,rfl⟩:=h;rw[di ρ p a.1,di ρ q a.2];exact qD r d
  .cases h
end
section
variable{P:io}{ρ:Ren}{H:aa}{w:ip}
def Ge(ρ:Ren)(l:List UInt8):(aq l).map ρ.val=aq l:=by simp only[aq,List.map_map];apply List.map_congr_left;intro b _;simp[Ren.val]
def ie(r:Rel P ρ H w){sz n:Nat}{x:gt}{l:List gt}(h:dj H sz n x=ap l)(f:∀ k,kz x=ap k->n<=k) :
  (Builtin.firstCells sz n (ρ.val x)).run P w=.ok (l.map ρ.val).toArray w:=by
 unfold dj at h;split at h
 .rename_i a len cap;have f:=f len rfl
  cases n with
  |zero =>rw[if_pos rfl]at h;simp only[i5]at h;subst h;simp only[Ren.val,Builtin.firstCells,Nat.zero_mul];rfl
  |succ n =>
   rw[if_neg (Nat.succ_ne_zero n)]at h;simp only[zA1,zA2]at h;obtain⟨⟨v,e,j⟩,hc,h⟩:=h;obtain⟨c,m,g⟩:=r.CG hc;simp only at h;split at h
   .rename_i b;simp only[i5]at h;subst h;have i:ρ.ni a len cap=a.off:=Ren.mT (.inr li);have d:ρ.zl a len cap=none:=Ren.oe (.inr li);simp only[Ren.val,i,d,Builtin.firstCells,g.load (iq b)]
   .cases h
 .simp only[i5]at h;subst h;simp[Ren.val,Builtin.firstCells]
 .rename_i s;simp only[i5]at h;subst h;simp only[Ren.val,Builtin.firstCells,Sem.run_pure,Ge];congr 1;apply Array.ext';simp[aq,ByteArray.data_extract]
 .cases h
def sf{x:gt}{n:Nat}(h:kz x=ap n):(Builtin.lenOf (ρ.val x)).run P w=.ok n w:=by
 unfold kz at h;split at h
 .rename_i a b c;simp only[i5]at h;subst h;cases a<;>simp[Ren.val,Builtin.lenOf]
 .simp only[i5]at h;subst h;simp[Ren.val,Builtin.lenOf]
 .cases h
theorem DW(n k c:Nat):Builtin.growBy n (k+1) c=if c ≥ n then c else Builtin.growBy n k (c+(c+768) / 4):=rfl
def Kq{n c B:Nat}(k:Nat)(e:n<=B)(a:c<=B)(b:∀ x,x<n->x+(x+768) / 4<=B):Builtin.growBy n k c<=B:=by
 induction k generalizing c with
 |zero=>exact a
 |succ k d =>
  rw[DW];split
  .exact a
  .exact d (b c li)
def FE{n c:Nat}(h:c<n):Builtin.nextslicecap n c<=2*n:=by
 unfold Builtin.nextslicecap;split
 .omega
 .split
  .omega
  .exact Kq _ li li (fun x hx=>by omega)
def lN(a old:Nat)(e:ii)(t:Nat)(h:a<=9000000000000000000):(Question.appendCap a old e).cut t<=9223372036854775807:=by have b:=Nat.mod_lt t (show 0<2 ^ 63-a by omega);simp only[Question.cut];omega
def qI(a old:Nat)(e:ii)(t:Nat):a<=(Question.appendCap a old e).cut t:=by simp[Question.cut]
def gZ(e:ii)(sz:Nat)(base:Option Addr)(len cap n:Nat)(zeros:Bool)(x:gt)(c:Sem (Array gt)):Sem Value:=do
 let b:=len+n
 if b<=cap then
  let new <-c
  if let ap a:=base then storeCells (a.add (len*sz)) new.toList
  pure (.slice base b cap)
 else
  if (b:Int)>IntKind.i64.max/\(zeros\/(<-typeInfo e).bytes=0) then runtimePanic (.error "growslice: len out of range")
  if Builtin.nextslicecap b cap*(<-typeInfo e).bytes>2 ^ 48 then (if zeros then runtimePanic (.error "growslice: len out of range") else do
   if !(<-Builtin.mayShare sz len n base x) then mark .noRoom
   unsupported (.resourceLimit "append: a slice or a string whose bytes no memory bears"))
  let d <-choose (.appendCap b cap e)
  askRoom (d*(<-typeInfo e).bytes)
  let old <-Builtin.firstCells sz len (.slice base len cap)
  let new <-c
  let rest:=Builtin.zeroCells (<-zeroValue e).cells (d-b)
  pure (jp (ap (<-newRow e (old++new++rest))) b d)
def append_eq{ts:Array ii}{ty st xt e:ii}{rest:List ii}{sz:Nat}{s x:gt}{base:Option Addr}{len cap n:Nat}{d:TypeDesc}(a:ts.toList=st::xt::rest)(c:P.underlying st=ap (.slice e))(b:bg P e=ap sz)
  (hx:P.underlying xt=ap d) (f:∀ k,d≠.int k) (g:s=.slice base len cap) (h:(Builtin.lenOf x).run P w=.ok n w) :
  (Builtin.append_ ts ty #[s,x]).run P w=(gZ e sz base len cap n gc x (Builtin.firstCells sz n x)).run P w:=by
 obtain⟨l⟩:=ts;simp only at a;subst a g;unfold Builtin.append_ gZ;simp only[List.getElem?_toArray,zF3,zG6,Sem.run_bind,ay c,Result.andThen_ok,b6 b,ay hx,Sem.run_pure];have:(match d with|.int _=>bv|_=>gc)=false:=by cases d<;>first|rfl|exact absurd rfl (f _)
 simp only[zC8,if_false,Bool.not_false,if_true];rw[Sem.run_bind,h];rfl
def GD{ts:Array ii}{ty st xt e:ii}{rest:List ii}{sz by1:Nat}{s:gt}{base:Option Addr}{len cap:Nat}{k:IntKind}{l:Int}(a:ts.toList=st::xt::rest)(h:P.underlying st=ap (.slice e))(c:bg P e=ap sz)
  (hx:P.underlying xt=ap (.int k)) (i:s=.slice base len cap) (j:0<=l) (d:l<=140737488351232) (m:bytesOf P e=ap by1) (n:l*by1<=140737488351232) :
  (Builtin.append_ ts ty #[s,i7 i8 l]).run P w=(gZ e sz base len cap l.toNat bv (i7 i8 l) (if l.toNat*sz=0 then pure #[] else do pure (Builtin.zeroCells (<-zeroValue e).cells l.toNat))).run P w:=by
 obtain⟨q⟩:=ts;simp only at a;subst a i;obtain⟨f,b,g⟩:=nq m;have o:¬(l<0):=by omega
 have p:¬(l*(f.bytes:Int)>2 ^ 48):=by rw[g]; omega
 unfold Builtin.append_ gZ;simp only[List.getElem?_toArray,zF3,zG6,Sem.run_bind,ay h,Result.andThen_ok,b6 c,ay hx,Sem.run_pure,if_true,asInt,asIntOf,wrap_small j d,o,if_false,jN b,p,zE4,zC8];rfl
def qH{e:ii}{sz len cap n:Nat}{zeros:Bool}{x:gt}{a:Addr}{b:Sem (Array gt)}{new:List gt}{w1:ip}(c:len+n<=cap)(d:b.run P w=.ok new.toArray w)
  (f:(storeCells (a.add (len*sz)) new).run P w=.ok () w1):(gZ e sz (ap a) len cap n zeros x b).run P w=.ok (jp (ap a) (len+n) cap) w1:=by
 unfold gZ;simp only[c,if_true,Sem.run_bind,d,Result.andThen_ok,f,Sem.run_pure]
def E6{e:ii}{sz len cap:Nat}{zeros:Bool}{x:gt}{a:Sem (Array gt)}{new:Array gt}(c:len+0<=cap)(d:a.run P w=.ok new w) :
  (gZ e sz bi len cap 0 zeros x a).run P w=.ok (jp bi len cap) w:=by
 have b:len<=cap:=by omega
 unfold gZ;simp only[zD6,b,if_true,Sem.run_bind,d,Result.andThen_ok,Sem.run_pure]
def EL{e:ii}{sz len cap n by1:Nat}{zeros:Bool}{x:gt}{base:Option Addr}{f:Sem (Array gt)}{old new:List gt}{z:gt}(j:¬len+n<=cap)(k:small (len+n) by1=bv)(q:bytesOf P e=ap by1)
  (r:zeroOf P e=ap z) (s:z.cells.toList.length=sz) (t:(Builtin.firstCells sz len (.slice base len cap)).run P w.drew=.ok old.toArray w.drew) (u:f.run P w.drew=.ok new.toArray w.drew) :
  ∃ b,len+n+b<=9223372036854775807/\(gZ e sz base len cap n zeros x f).run P w=.ok (jp (ap ⟨w.heap.size,0,bi⟩) (len+n) (len+n+b)) (w.drew.alloc (.cells ((old++new).toArray++(cg z.cells.toList b).toArray) e)):=by
 obtain⟨a,g,l⟩:=nq q;obtain⟨C,s2⟩:=yN k;obtain⟨m,v⟩:=dS (w:=w.drew) r
 have y:¬(((len+n:Nat):Int)>IntKind.i64.max/\(zeros=bv\/a.bytes=0)):=by
  have:IntKind.i64.max=9223372036854775807:=by decide
  rw[this]; omega
 have A:¬(Builtin.nextslicecap (len+n) cap*a.bytes>2 ^ 48):=by
  have B:=FE (n:=len+n) (c:=cap) li;have D:Builtin.nextslicecap (len+n) cap*a.bytes<=(2*(len+n))*a.bytes:=Nat.mul_le_mul_right _ B;have E:(2*(len+n))*a.bytes=2*((len+n)*by1):=by rw[l,Nat.mul_assoc]
  omega
 have h:=qI (len+n) cap e (w.tape w.drawn (.appendCap (len+n) cap e))
 obtain⟨b,i⟩:∃ b,(Question.appendCap (len+n) cap e).cut (w.tape w.drawn (.appendCap (len+n) cap e))=len+n+b:=⟨_,(Nat.add_sub_cancel' h).symm⟩
 refine⟨b,i▸lN _ _ _ _ li,?_⟩;have o:Builtin.zeroCells z.cells b=(cg z.cells.toList b).toArray:=by unfold Builtin.zeroCells;exact jF _ _
 have p:(Question.appendCap (len+n) cap e).forced=false:=rfl;unfold gZ;simp only[j,if_false,Sem.run_bind,jN g,Result.andThen_ok,Sem.run_ite,y,A,run_choose,p,zC8,i];have d:({w with drawn:=w.drawn+1}:ip)=w.drew:=rfl;simp only[d,Result.andThen_ok,run_askRoom,t,u,m,zF9,o,newRow,Sem.run_bind,run_newObj,Sem.run_pure];simp;rfl
def Rel.heap{w':ip}(r:Rel P ρ H w)(h:w'.heap=w.heap):Rel P ρ H w':=⟨r.base,r.glob,r.inj,r.dom,fun n o a=>by rw[h]; exact r.obj n o a⟩
def se(r:Rel P ρ H w):St P ρ H w ρ H w.drew:=St.world r rfl rfl rfl rfl
def mb(ρ:Ren)(n b s e len cap:Nat):(ρ.at n b s e).val (jp (ap ⟨n,0,bi⟩) len cap)=jp (ap ⟨b,s,bi⟩) len (cap+e):=by simp[Ren.val]
def qQ(r:Rel P ρ H w){e:ii}{sz len cap n by1:Nat}{zeros:Bool}{x:gt}{a:Option Addr}{b:Sem (Array gt)}{old new:List gt}{z:gt}{g:aa}
  (j:¬len+n<=cap) (k:small (len+n) by1=bv) (o:bytesOf P e=ap by1) (c:bg P e=ap sz)
  (p:zeroOf P e=ap z) (d:z.cells.toList.length=sz) (q:(Builtin.firstCells sz len (.slice a len cap)).run P w.drew=.ok (old.map ρ.val).toArray w.drew)
  (s:b.run P w.drew=.ok (new.map ρ.val).toArray w.drew) (t:cH H e (old++new) bv=ap g) (f:(old++new).length=(len+n)*sz) :
  kg P ρ H w (gZ e sz a len cap n zeros x b) (jp (ap ⟨H.next,0,bi⟩) (len+n) (len+n)) g:=by
 obtain⟨m,h,i⟩:=EL (x:=x) (zeros:=zeros) j k o p d q s
 have l:=AM (r.heap (w':=w.drew) rfl) t (cg z.cells.toList m).toArray m (by simp[jm,d,aZ c]) (by
  rw[f,aZ c,<-Nat.add_mul]
  exact Nat.mul_le_mul_right _ h)
 refine⟨_,_,(se r).trans l,?_⟩;rw[i,mb];simp
def sB(r:Rel P ρ H w){e:ii}{sz len cap n by1 l:Nat}{zeros:Bool}{x:gt}{base q:Option Addr}{Y:Sem (Array gt)}{new:List gt}{z v:gt}{H1:aa}
  (u:ρ.val (.slice base len cap)=.slice q len l) (J:small (len+n) by1=bv) (hb:bytesOf P e=ap by1) (s:bg P e=ap sz)
  (hz:zeroOf P e=ap z) (K:z.cells.toList.length=sz) (d:new.length=n*sz) (m:∀ w',w'.heap=w.heap->Y.run P w'=.ok (new.map ρ.val).toArray w')
  (h:dU H e sz base len cap n new=ap (v,H1)):kg P ρ H w (gZ e sz q len l n zeros x Y) v H1:=by
 unfold dU at h;split at h
 .rename_i L;split at h
  .split at h
   .rename_i M;subst M;simp only[i5,i6]at h;obtain⟨rfl,rfl⟩:=h;simp only[Ren.val,Value.slice.injEq,true_and]at u;obtain⟨rfl,rfl⟩:=u;refine kg.same r ?_;rw[E6 L (m w rfl)];simp[Ren.val]
   .cases h
  .rename_i a;simp only[zA1,zA2,i5,i6]at h;obtain⟨g,A,rfl,rfl⟩:=h;obtain⟨w1,N,t⟩:=nJ r A;simp only[Ren.val,Value.slice.injEq,true_and]at u;obtain⟨rfl,rfl⟩:=u;refine⟨ρ,w1,N,?_⟩;have D:len+n<=ρ.oZ a len cap:=zC7 L Ren.CT;by_cases hz0:len+n=0
   .have M:n=0:=by omega
    have O:len=0:=by omega
    subst M;subst O;have Z:new=[]:=zE7 (by simpa using d);subst Z;have hw:w1=w:=by have:(storeCells (Addr.mk (ρ.blk a.block) (a.off+0*sz+ρ.sh a.block) bi) ([].map ρ.val)).run P w=.ok () w:=rfl;rw[this]at t;exact (Result.ok.inj t).2.symm
    subst hw;rw[qH D (m _ rfl) (w1:=w1) rfl];simp[Ren.val]
   have o:cap≠0:=by omega
   have ho:ρ.ni a len cap=a.off:=Ren.yF o;have hos:ρ.zl a len cap=none:=Ren.BQ o;have Q:(storeCells (Addr.add ⟨ρ.blk a.block,ρ.ni a len cap+ρ.sh a.block,ρ.zl a len cap⟩ (len*sz)) (new.map ρ.val)).run P w=.ok () w1:=by rw[hos,dT,ho,show a.off+ρ.sh a.block+len*sz=a.off+len*sz+ρ.sh a.block from by omega]; exact t
   rw[qH D (m w rfl) (w1:=w1) Q];simp[Ren.val,Ren.BQ o,Ren.yF o,Ren.M4 (len:=len) (len':=len+n) o]
 .rename_i hgt;simp only[zA1,zA2]at h;obtain⟨old,f,h⟩:=h;split at h
  .rename_i hc;simp only[zA7,decide_eq_true_eq]at hc;obtain⟨⟨B,hone1⟩,hone2⟩:=hc;have R:(old++new).length=(len+n)*sz:=by rw[zB2,B,d,Nat.add_mul]
   have S:(Builtin.firstCells sz len (.slice q len l)).run P w.drew=.ok (old.map ρ.val).toArray w.drew:=by rw[<-u]; exact ie (w:=w.drew) (r.heap rfl) f (fun k hk=>by simp only[kz,i5]at hk; omega)
   split at h
   .simp only[zA2,i5,i6]at h;obtain⟨g,A,rfl,rfl⟩:=h;have p:l=cap:=by simpa[Ren.val]using (congrArg (fun v=>match v with|.slice _ _ c=>c|_=>0) u).symm
    subst p;exact qQ r hgt J hb s hz K S (m _ rfl) A R
   .rename_i a;simp only[zA2]at h;obtain⟨b,hb',h⟩:=h
    cases b with
    |true =>
     simp only[zA2,i5,i6]at h;obtain⟨g,A,rfl,rfl⟩:=h;rw[tp r (BK hb')]at u;have p:l=cap:=by simpa using (congrArg (fun v=>match v with|.slice _ _ c=>c|_=>0) u).symm
     subst p;exact qQ r hgt J hb s hz K S (m _ rfl) A R
    |false =>
     simp only[zA2]at h;obtain⟨⟨v0,e0,o0⟩,o,h⟩:=h;obtain⟨ho,hs⟩:=JW hb';obtain⟨v1,e1,T⟩:=nF ho;have:(v0,e0,o0)=(v1,e1,bv):=by rw[Ke o]at T; simpa using T
     cases this;simp only at h;split at h
     .rename_i U;obtain⟨rfl,E⟩:=U;have E:=iq E;simp only[zA2,i5,i6]at h;obtain⟨g,A,rfl,rfl⟩:=h
      have p:l=cap+ρ.ex a.block/\(len+n<=l->q=ap ⟨ρ.blk a.block,a.off+ρ.sh a.block,bi⟩):=by
       obtain⟨ab,ao,asp⟩:=a; simp only at hs
       rcases hs with rfl|⟨k,rfl,rfl,rfl⟩
       .simp only[Ren.val,Ren.offS_none,Ren.spS_none,Ren.capS_none,Value.slice.injEq,true_and]at u;exact⟨u.2.symm,fun _=>u.1.symm⟩
       .simp only[Ren.val,Ren.ni,Ren.oZ,and_self,true_and,if_true,Value.slice.injEq]at u;refine⟨by rw[<-u.2,zC6],fun L=>?_⟩;rw[<-u.1];have dK:ρ.ex ab≠0:=by rw[u.2]; omega
        rw[if_neg dK,Ren.Qa dK]
      obtain⟨p,V⟩:=p;by_cases W:len+n<=l
      .obtain⟨c,fz,hC⟩:=r.cells o;obtain⟨cc,ff,hg0⟩:=ed o;obtain⟨X,hfz⟩:=hC.open_ rfl;rw[aZ s]at X;have har:(len+n)*sz<=(cap+ρ.ex a.block)*sz:=Nat.mul_le_mul_right _ li;have hadd:(len+n)*sz=len*sz+n*sz:=Nat.add_mul _ _ _;have hadd2:(cap+ρ.ex a.block)*sz=cap*sz+ρ.ex a.block*sz:=Nat.add_mul _ _ _;have hsub:(cap+ρ.ex a.block-(len+n))*sz=(cap+ρ.ex a.block)*sz-(len+n)*sz:=Nat.sub_mul _ _ _
       obtain⟨w1,h1,h2,h3,h4,h5,h6,h7⟩:=pz (P:=P) (ρ.blk a.block) (a.off+ρ.sh a.block+len*sz) e0 fz (new.map ρ.val) 0 w c hC.at_ (by simp[d]; omega)
        (fun y hy=>by
         obtain⟨y0,hy0,rfl⟩:=zB6.1 hy
         rw[Ren.val_one]; exact zD3.1 hone2 y0 hy0)
        (fun j h1 h2=>hC.Nn li (by rw[aZ s]; simp only[zE9,d]at h2; omega))
       unfold cH at A;split at A
       .rename_i hsc;simp only[i5]at A;subst A;have F:∀ y∈old++new,aV H.next y=true:=cx.1 hsc;have hext:=Ren.gB ρ H.next (ρ.blk a.block) (a.off+ρ.sh a.block) (cap+ρ.ex a.block-(len+n));refine⟨ρ.at H.next (ρ.blk a.block) (a.off+ρ.sh a.block) (cap+ρ.ex a.block-(len+n)),w1,St.move r _ _ (bw hg0) (na o) ?_ ?_ h2 h3 h4 h5 h6 h7,?_⟩
        .simp only[ki,RV.n_ofList,RV.cb];intro i hi;exact F _ (by simp only[List.getD,zB3 hi,Option.getD_some]; exact List.getElem_mem _)
        .simp only[Fits];refine⟨_,fz,rfl,fun i hi=>?_,fun h=>(by cases h),fun _ _=>⟨?_,?_⟩⟩
         .simp only[RV.n_ofList]at hi;have hi':=hi;simp only[zB2,B,d]at hi';rw[RV.cb,Ren.at_sh,fJ hext _ (F _ (by simp only[List.getD,zB3 hi,Option.getD_some]; exact List.getElem_mem _))];rw[Hj _ _ _ _ (by simp[d]; omega)];simp only[zD6,zE9,d];by_cases C:i<len*sz
          .rw[if_neg li];have O:len≠0:=by rintro rfl; rw[Nat.zero_mul]at C; exact absurd C (Nat.not_lt_zero _)
           simp only[dj,if_neg O,zA1,zA2]at f;obtain⟨⟨v2,e2,o2⟩,hc2,f⟩:=f;rw[T]at hc2;cases hc2;simp only at f;split at f
           .rename_i G;have G:=iq G;simp only[i5]at f;subst f;have hcc:=hC.cell (a.off+i) li;rw[show i+(a.off+ρ.sh a.block)=a.off+i+ρ.sh a.block from by omega,hcc];rw[List.getD,List.getElem?_append_left (by simpa using C)];have:=RV.pX v0 a.off (len*sz) i C;rw[List.getD]at this;rw[this]
           .cases f
          .rw[if_pos li];rw[List.getD,zG5 li,B];rw[show i+(a.off+ρ.sh a.block)-(a.off+ρ.sh a.block+len*sz)=i-len*sz from by omega];have hlt:i-len*sz<new.length:=by omega
           simp[hlt]
         .simp only[Ren.at_sh,Ren.at_ex,RV.n_ofList,zB2,B,d,wX,aZ s];refine⟨by omega,fun hex=>?_⟩;have hrm:=hC.room rfl li;rw[aZ s]at hrm;omega
         .intro i h1 h2;simp only[Ren.at_sh,Ren.at_ex,RV.n_ofList,zB2,B,d,aZ s]at h1 h2;exact hfz i li (by rw[aZ s]; omega)
        .rw[mb,V W,qH (new:=new.map ρ.val) W (m w rfl) (w1:=w1) (by rw[dT]; exact h1)];rw[p,show len+n+(cap+ρ.ex a.block-(len+n))=cap+ρ.ex a.block from by omega]
       .cases A
      .have I:=St.del r a.block (na o);have hn:=qQ (x:=x) (zeros:=zeros) I.rel W J hb s hz K S (m _ rfl) A R;obtain⟨ρ1,w1,N,t⟩:=hn;exact⟨ρ1,w1,I.trans N,t⟩
     .cases h
  .cases h
end
section
variable{P:io}{ρ:Ren}{H:aa}{w:ip}
def Ak(ρ:Ren)(base:Option Addr)(len cap:Nat):∃ b c,ρ.val (.slice base len cap)=.slice b len c:=by
 cases base with
 |none=>exact⟨bi,cap,by simp[Ren.val]⟩
 |some a=>exact⟨_,_,by rw[Ren.val]⟩
def Es(r:Rel P ρ H w){ts:Array ii}{ty:ii}{s x v:gt}{H1:aa}(h:fL P H ts s x=ap (v,H1)) :
  kg P ρ H w (Builtin.append_ ts ty #[ρ.val s,ρ.val x]) v H1:=by
 unfold fL at h;split at h
 .rename_i st xt rest base len cap o;simp only[zA1,zA2]at h;obtain⟨d,M,h⟩:=h;split at h
  .rename_i e;simp only[zA2]at h;obtain⟨sz,g,by1,i,z,u,b,a,h⟩:=h;obtain⟨Q,D⟩:=dS (w:=w) u;obtain⟨E,N,y⟩:=Ak ρ base len cap;split at h
   .rename_i l;split at h
    .rename_i F;obtain⟨A,B,p⟩:=F;obtain⟨S,s2⟩:=yN B
     have c:∃ k,P.underlying xt=ap (.int k):=by
      unfold fM at a;split at a
      .rename_i k C; exact⟨k,C⟩
      .cases a
      .cases a
     obtain⟨k,c⟩:=c
     have G:l*(by1:Int)<=140737488351232:=by
      have T:l.toNat*by1<=(len+l.toNat)*by1:=Nat.mul_le_mul_right _ li;have R:l*(by1:Int)=((l.toNat*by1:Nat):Int):=by rw[Int.natCast_mul,Int.toNat_of_nonneg A]
      rw[R]; omega
     have q:∀ w':ip,w'.heap=w.heap->(if l.toNat*sz=0 then (pure #[]:Sem (Array gt)) else do pure (Builtin.zeroCells (<-zeroValue e).cells l.toNat)).run P w'=.ok ((cg z.cells.toList l.toNat).map ρ.val).toArray w':=by
      intro w' _;rw[nu ρ _ (sD ρ D)];by_cases I:l.toNat*sz=0
      .have:(cg z.cells.toList l.toNat)=[]:=zE7 (by rw[jm,p]; exact I);simp[I,this]
      .have J:Builtin.zeroCells z.cells l.toNat=(cg z.cells.toList l.toNat).toArray:=by
        unfold Builtin.zeroCells;exact jF _ _
       simp[I,(dS (w:=w') u).1,J]
     obtain⟨j,w1,m,f⟩:=sB (x:=i7 i8 l) (zeros:=true) r y B i g u p (by rw[jm,p]) q h;refine⟨j,w1,m,?_⟩;rw[<-f,y,Ren.val];exact GD o M g c rfl A li i G
    .cases h
   .cases h
   .simp only[zA2]at h;obtain⟨n,O,new,t,h⟩:=h;split at h
    .rename_i F;obtain⟨A,B,p⟩:=F
     have c:∃ d,P.underlying xt=ap d/\∀ k,d≠.int k:=by
      unfold fM at a;split at a
      .cases a
      .rename_i d dK K; exact⟨d,K,fun k e=>dK k e⟩
      .cases a
     obtain⟨d,c,K⟩:=c;obtain⟨j,w1,m,f⟩:=sB (x:=ρ.val x) (zeros:=false) r y B i g u p A (fun w' L=>ie (w:=w') (r.heap L) t (fun k C=>by rw[O]at C; cases C; exact zA5 _)) h;refine⟨j,w1,m,?_⟩;rw[<-f];exact append_eq o M g c K y (sf O)
    .cases h
  .cases h
 .cases h
def Fg{H:aa}{sz:Nat}{v:gt}{l:List gt}(h:dj H sz 0 v=ap l):l=[]:=by
 unfold dj at h;split at h
 .rw[if_pos rfl]at h;simpa using h.symm
 .simpa using h.symm
 .simpa[aq]using h.symm
 .cases h
def Kf(r:Rel P ρ H w){ts:Array ii}{ty:ii}{d s v:gt}{H1:aa}(h:Aq P H ts d s=ap (v,H1)) :
  kg P ρ H w (Builtin.copy_ ts ty #[ρ.val d,ρ.val s]) v H1:=by
 unfold Aq at h;split at h
 .rename_i dt rest base dl cap o;obtain⟨lt⟩:=ts;simp only at o;subst o;simp only[zA1,zA2]at h;obtain⟨A,u,h⟩:=h;split at h
  .rename_i e;simp only[zA2]at h;obtain⟨sz,m,sl,i,cs,f,h⟩:=h;have j:∀ k,kz s=ap k->zF0 sl dl<=k:=fun k y=>by rw[i]at y; cases y; exact Nat.min_le_left _ _
   cases base with
   |none =>simp only[i5,i6]at h;obtain⟨rfl,rfl⟩:=h;refine kg.same r ?_;simp[Builtin.copy_,ay u,Ren.val,sf i,b6 m,ie r f j,goInt]
   |some a =>
    simp only at h;split at h
    case isFalse l =>
     have p9:dl=0:=Nat.eq_zero_of_not_pos (fun B=>l (.inr li));subst p9;simp only[i5,i6]at h;obtain⟨rfl,rfl⟩:=h;refine kg.same r ?_;have p:zF0 sl 0=0:=Nat.min_eq_right (zB7 _);rw[p]at f j;have q:=Fg f;subst q;have n:∀ b:Addr,(storeCells b []).run P w=.ok () w:=fun _=>rfl;simp only[Builtin.copy_,List.getElem?_toArray,zF3,zG6,Sem.run_bind,ay u,Result.andThen_ok,sf i,b6 m,p,ie r f j,zE6,n,Sem.run_pure,goInt,Ren.val];rfl
    rename_i l;simp only[zA2,i5,i6]at h;obtain⟨g,z,rfl,rfl⟩:=h;obtain⟨w1,n,t⟩:=nJ r z;refine⟨ρ,w1,n,?_⟩
    have x:∃ c,ρ.val (jp (ap a) dl cap)=jp (ap ⟨ρ.blk a.block,a.off+ρ.sh a.block,bi⟩) dl c:=⟨_,by rw[Ren.val,Ren.mT l,Ren.oe l]⟩
    obtain⟨c,x⟩:=x;rw[x];simp only[Builtin.copy_,List.getElem?_toArray,zF3,zG6,Sem.run_bind,ay u,Result.andThen_ok,sf i,b6 m,ie r f j,t,Sem.run_pure,goInt,Ren.val]
  .cases h
 .cases h
def MI(r:Rel P ρ H w){ts:Array ii}{ty t:ii}{rest:List ii}{x v:gt}(d:ts.toList=t::rest)(h:zr P H t x=ap v) :
  (Builtin.len_ ts ty #[ρ.val x]).run P w=.ok (ρ.val v) w:=by
 obtain⟨lt⟩:=ts;simp only at d;subst d;unfold zr at h;split at h
 .rename_i e a n c b;simp only[i5]at h;subst h;obtain⟨o,p,i⟩:=Ak ρ a n c;rw[i];simp[Builtin.len_,ay b,goInt,Ren.val]
 .rename_i s b;simp only[i5]at h;subst h;simp[Builtin.len_,ay b,goInt,Ren.val]
 .rename_i k e b;simp only[i5]at h;subst h;simp[Builtin.len_,ay b,goInt,Ren.val]
 .rename_i k e m b;split at h
  .rename_i q f u y j;simp only[i5]at h;subst h;obtain⟨o',l,g⟩:=r.obj _ _ j;simp only[Fits]at g;subst g;simp[Builtin.len_,ay b,goInt,Ren.val,getObj,Sem.run,l]
  .cases h
 .rename_i n e b;simp only[i5]at h;subst h;simp[Builtin.len_,ay b,goInt,Ren.val]
 .cases h
def K3(r:Rel P ρ H w){ts:Array ii}{ty t:ii}{rest:List ii}{x v:gt}(b:ts.toList=t::rest)(h:Pn P H t x=ap v) :
  (Builtin.cap_ ts ty #[ρ.val x]).run P w=.ok (ρ.val v) w:=by
 obtain⟨lt⟩:=ts;simp only at b;subst b;unfold Pn at h;split at h
 .rename_i e n c d;simp only[i5]at h;subst h;simp[Builtin.cap_,ay d,goInt,Ren.val]
 .rename_i e a n c d;split at h
  .rename_i hx;simp only[i5]at h;subst h;rw[tp r hx];simp[Builtin.cap_,ay d,goInt,Ren.val]
  .cases h
 .rename_i n e d;simp only[i5]at h;subst h;simp[Builtin.cap_,ay d,goInt,Ren.val]
 .cases h
def ML{ts:Array ii}{ty:ii}{args:List gt}{v:gt}(h:fG bv args=ap v):(Builtin.max_ ts ty (args.map ρ.val).toArray).run P w=.ok (ρ.val v) w:=by
 unfold fG at h;split at h
 .rename_i k x a y;simp only[if_true,i5]at h;subst h;simp[Builtin.max_,Builtin.max2,Ren.val]
 .cases h
def Nt{ts:Array ii}{ty:ii}{args:List gt}{v:gt}(h:fG gc args=ap v):(Builtin.min_ ts ty (args.map ρ.val).toArray).run P w=.ok (ρ.val v) w:=by
 unfold fG at h;split at h
 .rename_i k x a y;simp only[zC8,if_false,i5]at h;subst h;simp[Builtin.min_,Builtin.min2,Ren.val]
 .cases h
def gu(a:Ren)(x:cO)(b:Result Next)(w1:ip):Prop :=
 match x with
 |.value v=>b=.ok (.value (a.val v)) w1
 |.skip=>b=.ok .skip w1
 |.enter f args=>b=.ok (.enter f (args.map a.val).toArray) w1
 |.round rd=>∃ fn,b=.ok (.round (a.blk rd.l) fn (a.tmps rd.env) rd.assign rd.body) w1
 |.panic v=>b=.halt (.panic (a.val v)) w1
def jO(P:io)(ρ:Ren)(H:aa)(w:ip)(s:Sem Next)(x:cO)(H1:aa):Prop :=
 ∃ a w1,St P ρ H w a H1 w1/\gu a x (s.run P w) w1
def jO.of{s:Sem gt}{x:cO}{H1:aa}(h:Fi P ρ H w s x H1):jO P ρ H w (do pure (.value (<-s))) x H1:=by obtain⟨a,w1,b,c⟩:=h;refine⟨a,w1,b,?_⟩;cases x<;>simp_all [gu]
def jO.JQ{s:Sem gt}{v:gt}{H1:aa}(h:kg P ρ H w s v H1):jO P ρ H w (do pure (.value (<-s))) (.value v) H1:=jO.of (Fi.of h)
def jO.val(r:Rel P ρ H w){s:Sem gt}{v:gt}(h:s.run P w=.ok (ρ.val v) w):jO P ρ H w (do pure (.value (<-s))) (.value v) H:=jO.of (Fi.val r h)
end
section
variable{P:io}{ρ:Ren}{H:aa}{w:ip}
def Gt{e:ii}(b:P.cellsOf e=1)(count off n:Nat)(c:off+n<=count):liesAt P P.depth e (count / P.cellsOf e) off e n=true:=by have a:P.depth=(2*(P.types.size+Made.depth)+1)+1:=rfl;rw[a];simp only[liesAt,zG3];left;rw[a];simp[rowAt,b,c,sameLayout,Nat.mod_one]
def GJ{u:ii}{sz:Nat}(b:P.cellsOf u=sz)(c:0<sz):liesAt P P.depth u (sz / P.cellsOf u) 0 u 1=true:=by have a:P.depth=(2*(P.types.size+Made.depth)+1)+1:=rfl;rw[a];simp only[liesAt,zG3];left;rw[a];simp[rowAt,b,sameLayout,Nat.div_self c];omega
def nW:∀ {cs:List gt} {l:List UInt8},cC cs=ap l->l.length=cs.length/\∀ (j:Nat) v,cs[j]?=ap v->∃ n,v=.int .u8 n/\l[j]?=ap (UInt8.ofNat n.toNat)
 |[],l,h=>by cases h; exact⟨rfl,fun j v h=>by simp at h⟩
 |v::cs,l,h=>by
  cases v with
  |int k n =>
   cases k<;>simp only[cC,zB5,reduceCtorEq]at h;obtain⟨r,b,rfl⟩:=h;obtain⟨c,d⟩:=nW b;refine⟨by simp[c],fun j v a=>?_⟩
   cases j with
   |zero=>simp only[zF3,i5]at a; subst a; exact⟨n,rfl,rfl⟩
   |succ j=>simpa using d j v (by simpa using a)
  |_=>simp[cC]at h
def xI:∀(l:List UInt8)(a:Addr)(b:ByteArray),(∀ j x,l[j]?=ap x->∃ n,w.cell? (a.add j)=ap (.int .u8 n)/\x=n.toNat.toUInt8) ->
  (loadBytes a b l.length).run P w=.ok ⟨b.data++l.toArray⟩ w
 |[],a,b,_=>by simp[loadBytes]
 |x::l,a,b,h=>by
  obtain⟨n,d,hx⟩:∃ n,w.cell? a=ap (.int .u8 n)/\x=n.toNat.toUInt8:=by have:=h 0 x rfl;simpa[Addr.add]using this
  have f:=xI l (a.add 1) (b.push x) (fun j y g=>by
   have:=h (j+1) y (by simpa using g)
   have e:(a.add 1).add j=a.add (j+1):=by
    unfold Addr.add;by_cases c:j=0
    .subst c; simp
    .simp[c]; omega
   rw[e]; exact this)
  simp only[zA3,loadBytes,Sem.run_bind,run_load,d,Result.andThen,<-hx];rw[f];congr 1;apply ByteArray.ext;simp[ByteArray.push]
def ze{x v:gt}{ts:Array ii}{ty:ii}(h:nc x=ap v):(Builtin.unsafeSliceData_ ts ty ([x].map ρ.val).toArray).run P w=.ok (ρ.val v) w:=by
 unfold nc at h;split at h
 .cases h; rfl
 .rename_i n off sp len c;cases h;have b:=Ren.yF (ρ:=ρ) (a:=⟨n,off,sp⟩) (len:=len) (cap:=c+1) (Nat.succ_ne_zero c);have d:=Ren.BQ (ρ:=ρ) (a:=⟨n,off,sp⟩) (len:=len) (cap:=c+1) (Nat.succ_ne_zero c);have f:=Ren.CT (ρ:=ρ) (a:=⟨n,off,sp⟩) (len:=len) (cap:=c+1);simp only[zB9,zE6,Ren.val,b,d];have e:ρ.oZ ⟨n,off,sp⟩ len (c+1)≠0:=by omega
  exact Lib.run_unsafeSliceData_row w ts ty ⟨ρ.blk n,off+ρ.sh n,bi⟩ len _ e
 .cases h
def Ji{b:Nat}{c:Array gt}{e:ii}{f:Nat × Nat}(h:w.heap[b]?=ap (.cells c e f))(off n:Nat)(g:n≠0) :
  (∃ d,(w.freeze ⟨b,off,bi⟩ n).heap[b]?=ap (.cells c e d))/\(w.freeze ⟨b,off,bi⟩ n).heap.size=w.heap.size/\(∀ a,a≠b->(w.freeze ⟨b,off,bi⟩ n).heap[a]?=w.heap[a]?) /\
   (w.freeze ⟨b,off,bi⟩ n).os=w.os/\(w.freeze ⟨b,off,bi⟩ n).tape=w.tape/\(w.freeze ⟨b,off,bi⟩ n).output=w.output:=by
 unfold World.freeze;rw[if_neg g];refine⟨?_,by simp,fun a i=>?_,rfl,rfl,rfl⟩
 .obtain⟨lo,hi⟩:=f;simp[Array.getElem?_modify,h]
 .simp only[Array.getElem?_modify];rw[if_neg (fun e=>i e.symm)]
def xJ{pt ty:ii}{rest:List ii}:(Builtin.unsafeString_ ⟨pt::rest⟩ ty #[i9 bi,i7 i8 0]).run P w=.ok (.string .empty) w:=by
 have a:IntKind.i64.max=9223372036854775807:=rfl
 obtain⟨A,B,C,b⟩:∃ (A:Sem PUnit) (B:Sem PUnit) (C:Sem gt),Builtin.unsafeString_ ⟨pt::rest⟩ ty #[i9 bi,i7 i8 0] =
   (do
    let n <-asInt (i7 i8 0)
    if n<0 then A
    if n>IntKind.i64.max then B
    if n=0 then pure (.string .empty)
    else C):=⟨_,_,_,rfl⟩
 rw[b];simp[asInt,asIntOf,a]
def oJ{pt ty:ii}{rest:List ii}{a:Addr}{n:Int} : ∃ (A : Sem PUnit) (B : Sem PUnit) (C : Sem gt), Builtin.unsafeString_ ⟨pt :: rest⟩ ty #[i9 (ap a), i7 i8 n] =
   (do
    let n <-asInt (i7 i8 n)
    if n<0 then A
    if n>IntKind.i64.max then B
    if n=0 then pure (.string .empty)
    else if <-variablesAt a (<-elemOf pt) n.toNat then do
     let s <-loadBytes a .empty n.toNat
     freeze a n.toNat
     pure (.string s)
    else C):=⟨_,_,_,rfl⟩
def rZ{ts:Array ii}{pt ty e:ii}{rest:List ii}(d:ts.toList=pt::rest)(o:P.underlying pt=ap (.pointer e))(p:P.cellsOf e=1)(g off cells:Nat)(k:w.shape? g=ap (e,cells))(l:List UInt8)(q:l.length≠0)(r:off+l.length<=cells)(s:l.length<=9223372036854775807)
  (b:∀ j x,l[j]?=ap x->∃ n,w.cell? ((⟨g,off,bi⟩:Addr).add j)=ap (.int .u8 n)/\x=n.toNat.toUInt8) :
  (Builtin.unsafeString_ ts ty #[i9 (ap ⟨g,off,bi⟩),i7 i8 l.length]).run P w=.ok (.string ⟨l.toArray⟩) (w.freeze ⟨g,off,bi⟩ l.length):=by
 have m:=xI (P:=P) l ⟨g,off,bi⟩ .empty b;have c:=Gt (P:=P) p cells off l.length r;have f:¬(9223372036854775807:Int)<(l.length:Int):=by omega
 have h:IntKind.i64.max=9223372036854775807:=rfl;have i:¬(l.length:Int)<0:=by omega
 have t:l≠[]:=fun e=>q (by rw[e]; rfl);obtain⟨ts⟩:=ts;simp only at d;subst d;obtain⟨A,B,C,u⟩:=oJ (pt:=pt) (ty:=ty) (rest:=rest) (a:=⟨g,off,bi⟩) (n:=(l.length:Int));rw[u];simp[asInt,asIntOf,h,f,i,t,variablesAt,k,elemOf,run_underlying o,c,m]
def ye(r:Rel P ρ H w){ts:Array ii}{ty:ii}{p n v:gt}{H1:aa}(h:mO P H ts p n=ap (v,H1)) :
  kg P ρ H w (Builtin.unsafeString_ ts ty ([p,n].map ρ.val).toArray) v H1:=by
 unfold mO at h;have m:IntKind.i64.max=9223372036854775807:=rfl;split at h
 .rename_i pt rest d;simp only[i5,i6]at h;obtain⟨rfl,rfl⟩:=h;refine kg.same r ?_;obtain⟨ts⟩:=ts;simp only at d;subst d;simp only[zB9,zE6,Ren.val];exact xJ
 .rename_i pt rest b off n d;simp only[zA1,zA2]at h;obtain⟨u,E,h⟩:=h;split at h
  .rename_i e';simp only[zA2]at h;obtain⟨u2,S,h⟩:=h;split at h
   .simp only[zA2]at h;obtain⟨u3,F,h⟩:=h;split at h
    .split at h
     .rename_i z e q o c D;split at h
      .rename_i G;subst G;simp only[i5,i6]at h;obtain⟨rfl,rfl⟩:=h;refine kg.same r ?_;obtain⟨ts⟩:=ts;simp only at d;subst d;simp only[zB9,zE6,Ren.val];obtain⟨A,B,C,T⟩:=oJ (pt:=pt) (ty:=ty) (rest:=rest) (a:=⟨ρ.blk b,off+ρ.sh b,bi⟩) (n:=0);rw[T];simp[asInt,asIntOf,m]
      .split at h
       .rename_i U;obtain⟨V,hn,W,s⟩:=U;subst V;have s:=iq s;simp only[zA2,i5,i6]at h;obtain⟨l,X,rfl,rfl⟩:=h;obtain⟨t,g⟩:=nW X;rw[RV.length_gets]at t;obtain⟨o',I,f⟩:=r.obj _ _ D;simp only[Fits]at f;obtain⟨cs,fz,rfl,y,J,K⟩:=f
        have L:ρ.sh b+c.n<=cs.size:=by
         cases o with
         |false=>obtain⟨k1,k2,_⟩:=J rfl; omega
         |true=>have:=(K rfl trivial).1.1; omega
        have M:n=(l.length:Int):=by omega
        obtain⟨⟨N,Y⟩,m2,m3,m4,m5,m6⟩:=Ji I (off+ρ.sh b) l.length li;have O:¬Fz (H.get b):=rr D (by cases o<;>rfl);refine⟨ρ,_,St.cy r (bw D) O (o:=⟨.cells z e (1,q),bv,c⟩) (o':=.cells cs e N) ?_ ?_ Y m2 m3 m4 m5 m6,?_⟩
        .exact (r.dom _ _ D).2
        .simp only[Fits];exact⟨cs,_,rfl,y,fun h=>(by cases h),fun _ h=>(by cases h)⟩
        .simp only[zB9,zE6,Ren.val];rw[M];have Q:w.shape? (ρ.blk b)=ap (e,cs.size):=by unfold World.shape?; rw[I]
         refine rZ d E (aZ F) _ _ _ Q l li li li fun j x hx=>?_;have i:j<n.toNat:=by have:=(zE0.1 hx).1; omega
         obtain⟨k,Z,R⟩:=g j ((c.jJ off n.toNat)[j]'(by simpa using i)) (zB3 _);refine⟨k,?_,?_⟩
         .have e3:c.get (off+j)=.int .u8 k:=by
           have:=RV.pX c off n.toNat j i;rw[<-this,zE3,zB3 (by simpa using i),Z]; rfl
          have:=y (off+j) li;rw[e3,Ren.val]at this
          have ea:(⟨ρ.blk b,off+ρ.sh b,bi⟩:Addr).add j=⟨ρ.blk b,off+j+ρ.sh b,bi⟩:=by
           unfold Addr.add;by_cases i:j=0
           .subst i; simp
           .simp[i]; omega
          rw[ea];unfold World.cell?;rw[I];exact this
         .rw[hx]at R;cases R;rfl
       .cases h
     .cases h
    .cases h
   .cases h
  .cases h
 .cases h
def xf{a:Addr}{c:Array gt}{e:ii}{f:Nat × Nat}(d:w.heap[a.block]?=ap (.cells c e f)):(Conv.seenAt a).run P w=.ok a w:=by
 have b:w.shape? a.block=ap (e,c.size):=by unfold World.shape?; rw[d]
 have g:(viewAt a.block).run P w=.ok bi w:=by unfold viewAt;simp[b]
 unfold Conv.seenAt;simp[g]
def Cj{s d t:ii}{a:Addr}{c:Array gt}{e:ii}{f:Nat × Nat}{sz:Nat}(i:P.underlying s=ap (.pointer t))(j:P.underlying d=ap .unsafePointer)(h:w.heap[a.block]?=ap (.cells c e f))(n:a.spot=bi)(o:a.off<c.size)(k:bg P t=ap sz)(p:0<sz) :
  (Conv.unsafePointer s d (i9 (ap a))).run P w=.ok (i9 (ap a)) w:=by
 have b:w.shape? a.block=ap (e,c.size):=by unfold World.shape?; rw[h]
 have l:(cellsIn a.block).run P w=.ok (ap c.size) w:=by unfold cellsIn;simp[b]
 have m:¬c.size<=a.off:=by omega
 have g:sz≠0:=by omega
 unfold Conv.unsafePointer;simp[Sem.run_bind,ay i,ay j,xf h,l,b6 k,m,g]
def CI{s d u:ii}{a:Addr}{c:Array gt}{f:Nat × Nat}{sz:Nat}(h:P.underlying s=ap .unsafePointer)(i:P.underlying d=ap (.pointer u))(e:w.heap[a.block]?=ap (.cells c u f))(j:a.off=0)(g:bg P u=ap sz)(k:0<sz)(l:c.size=sz) :
  (Conv.unsafePointer s d (i9 (ap a))).run P w=.ok (i9 (ap a)) w:=by
 have b:w.shape? a.block=ap (u,c.size):=by unfold World.shape?; rw[e]
 have m:=GJ (P:=P) (aZ g) k;unfold Conv.unsafePointer;simp[Sem.run_bind,ay h,ay i,xf e,b6 g,variablesAt,b,j,l,m]
def EC{g:FuncId}{name:String}(h:Hq P g name=bv):∃ fn,P.funcs[g]?=ap fn/\fn.body.isNone=bv/\fn.name=name/\fn.origin = "" := by
 unfold Hq at h;split at h
 .rename_i fn a;simp only[zA7,beq_iff_eq]at h;exact⟨fn,a,h.1.1,h.1.2,h.2⟩
 .cases h
def Kl{fn:Func}(a:fn.name = "internal/abi.NoEscape")(b:fn.origin = ""):Extern.findNext fn=bi/\Extern.find fn=ap Extern.AbiNoEscape.same:=by unfold Extern.findNext Extern.find;simp only[a,b];exact⟨by kernel_rfl,by kernel_rfl⟩
def Gp{fn:Func}(a:fn.name = "internal/bytealg.MakeNoZero")(b:fn.origin = ""):Extern.findNext fn=bi/\Extern.find fn=ap (Extern.BytealgMakeNoZero.makeNoZero fn.params fn.resultTypes):=by unfold Extern.findNext Extern.find;simp only[a,b];exact⟨by kernel_rfl,by kernel_rfl⟩
def D3(r:Rel P ρ H w){g:FuncId}{args:List gt}{x:cO}{H1:aa}(h:nH P H g args=ap (x,H1)) :
  jO P ρ H w (callFunc g (args.map ρ.val).toArray) x H1:=by
 unfold nH at h;split at h
 .rename_i a;split at h
  .rename_i j;simp only[i5,i6]at h;obtain⟨rfl,rfl⟩:=h;obtain⟨fn,f,l,b,m⟩:=EC j;obtain⟨o,p⟩:=Kl b m;refine⟨ρ,w,St.refl r,?_⟩;have:=run_callFunc_extern f (by rw[b]; decide) l o p ([Value.pointer (ap a)].map ρ.val).toArray w;simp only[gu];rw[this];have z:Extern.AbiNoEscape.same ([Value.pointer (ap a)].map ρ.val).toArray=pure (ρ.val (i9 (ap a))):=rfl;rw[z];simp only[Sem.run_pure,Result.andThen_ok]
  .cases h
 .rename_i n;split at h
  .rename_i u;simp only[zA7,decide_eq_true_eq]at u;obtain⟨⟨j,A⟩,hn1⟩:=u;obtain⟨fn,f,l,b,m⟩:=EC j;obtain⟨o,p⟩:=Gp b m;rw[f]at h;simp only at h;split at h
   .rename_i t q;split at h
    .rename_i e B;split at h
     .rename_i c;simp only[i5,i6]at h;obtain⟨rfl,rfl⟩:=h;have C:fn.resultTypes=#[t]:=by apply Array.ext';rw[q]
      obtain⟨k,rfl⟩:∃ k:Nat,n=k:=⟨n.toNat,by omega⟩
      obtain⟨cs,d,D,s⟩:=Lib.run_makeNoZero (P:=P) w fn.params t e B k li;have v:=se r;have s2:=v.trans (se v.rel)
      have E:=St.new s2.rel ⟨.cells #[] e (0,0),bv,⟨[],0⟩⟩ (.cells cs e) 0 cs.size (by intro i hi; exact absurd hi (Nat.not_lt_zero i)) (by
       simp only[Fits];refine⟨_,_,rfl,fun i hi=>absurd hi (Nat.not_lt_zero i),fun h=>(by cases h),fun _ _=>⟨⟨?_,fun _=>?_⟩,fun i _ _=>?_⟩⟩
       .simp[aZ c]
       .have:=s (by simp only[maxLen]; omega);simp only[maxLen]at this;simp[aZ c];omega
       .simp only; omega)
      refine⟨_,_,s2.trans E,?_⟩;have:=run_callFunc_extern f (by rw[b]; decide) l o p ([Value.int i8 (k:Int)].map ρ.val).toArray w;have F:([Value.int i8 (k:Int)].map ρ.val).toArray=#[i7 i8 (k:Int)]:=by simp[Ren.val]
      simp only[gu];rw[this,C,F,d];have y:=mb ρ H.next w.drew.drew.heap.size 0 cs.size k 0;rw[zC6]at y;simp only[Result.andThen_ok,Int.toNat_natCast];rw[y];rfl
     .cases h
    .cases h
   .cases h
  .cases h
 .cases h
end
section
variable{P:io}{ρ:Ren}{H:aa}{w:ip}
def MC(s:ByteArray):∀(b i:Nat)(a:Array gt),(∀ v∈a.toList,af v=bv)->∀ v∈(Conv.runesFrom s b i a).toList,af v=true:=by
 intro b
 induction b with
 |zero=>intro i a h; simpa[Conv.runesFrom]using h
 |succ b d =>
  intro i a h;simp only[Conv.runesFrom];split
  .refine d _ _ ?_;intro v c;simp only[Array.toList_push,zB4,zA6]at c;rcases c with c|rfl
   .exact h v c
   .rfl
  .exact h
def LQ(r:Rel P ρ H w){e:ii}{c:List gt}{H1:aa}(h:cH H e c bv=ap H1)(a:Array gt)(b:Nat)(f:a.size=b*P.cellsOf e)(g:c.length+b*P.cellsOf e<=9223372036854775807*P.cellsOf e) :
  St P ρ H w (ρ.at H.next w.heap.size 0 b) H1 (w.alloc (.cells ((c.map ρ.val).toArray++a) e (c.length+a.size,c.length+a.size+1))):=by
 unfold cH at h;split at h
 .rename_i d;simp only[i5]at h;subst h;refine St.new r _ _ 0 b ?_ ?_
  .simp only[ki,RV.n_ofList,RV.cb];intro i hi;exact cx.1 d _ (by simp[List.getD,hi])
  .simp only[Fits];refine⟨_,_,rfl,fun i hi=>?_,fun h=>(by cases h),fun _=>?_⟩
   .simp only[RV.n_ofList]at hi;rw[RV.cb,Ren.at_sh,fJ (Ren.gB ρ H.next w.heap.size 0 b) _ (cx.1 d _ (by simp[List.getD,hi]))];rw[Array.getElem?_append_left (by simpa using hi)];simp[List.getD,hi]
   .simp[f];exact⟨fun _=>g,by omega⟩
 .cases h
theorem run_shape(b:Nat):(shape b).run P w=.ok (w.shape? b) w:=rfl
theorem run_freeze(a:Addr)(n:Nat):(freeze a n).run P w=.ok () (w.freeze a n):=rfl
theorem wN(o:Obj):(w.alloc o).heap=w.heap.push o:=rfl
def KL(o:Obj):(w.alloc o).heap[w.heap.size]?=ap o:=by rw[wN]; simp
def Fe(c:Array gt)(e:ii):(markStringish ⟨w.heap.size,0,bi⟩).run P (w.alloc (.cells c e))=.ok () (w.alloc (.cells c e (c.size,c.size+1))):=by
 have a:(w.alloc (.cells c e)).shape? w.heap.size=ap (e,c.size):=by unfold World.shape?;rw[KL]
 unfold markStringish;simp only[Sem.run_bind,run_shape,a,Result.andThen_ok,run_freeze];congr 1;unfold World.freeze;rw[if_neg mt,wN]
 have:∀ f:Obj->Obj,(w.heap.push (.cells c e)).modify w.heap.size f=w.heap.push (f (.cells c e)):=by
  intro f;apply Array.ext_getElem?;intro i;rw[Array.getElem?_modify];by_cases hi:w.heap.size=i
  .subst hi; simp
  .rw[if_neg hi,Array.getElem?_push,Array.getElem?_push,if_neg (fun h=>hi h.symm),if_neg (fun h=>hi h.symm)]
 simp only[this];simp;rfl
def EW{b:Nat}{c:Array gt}{e:ii}(h:w.heap[b]?=ap (.cells c e (0,0)))(off:Nat) :
  (markStringish ⟨b,off,bi⟩).run P w=.ok () (w.freeze ⟨b,c.size,bi⟩ 1)/\(w.freeze ⟨b,c.size,bi⟩ 1).heap[b]?=ap (.cells c e (c.size,c.size+1))/\(w.freeze ⟨b,c.size,bi⟩ 1).heap.size=w.heap.size/\(∀ a,a≠b->(w.freeze ⟨b,c.size,bi⟩ 1).heap[a]?=w.heap[a]?) /\
   (w.freeze ⟨b,c.size,bi⟩ 1).os=w.os/\(w.freeze ⟨b,c.size,bi⟩ 1).tape=w.tape:=by
 have d:w.shape? b=ap (e,c.size):=by unfold World.shape?;rw[h]
 refine⟨?_,?_,?_,fun a f=>?_,?_,?_⟩
 .unfold markStringish;simp only[Sem.run_bind,run_shape,d,Result.andThen_ok,run_freeze]
 .unfold World.freeze;rw[if_neg mt];simp[Array.getElem?_modify,h]
 .unfold World.freeze;rw[if_neg mt];simp
 .unfold World.freeze;rw[if_neg mt];simp only[Array.getElem?_modify];rw[if_neg (fun e=>f e.symm)]
 .unfold World.freeze; rw[if_neg mt]
 .unfold World.freeze; rw[if_neg mt]
def Fx(s:ByteArray):(aq s.data.toList).toArray=s.data.map fun b=>(.int .u8 b.toNat:gt):=by unfold aq;apply Array.ext';simp
def Gd(r:Rel P ρ H w){e:ii}{s:ByteArray}{g:aa}(c:bg P e=ap 1)(k:cH H e (aq s.data.toList) bv=ap g)(m:s.size<=1000000000) :
  kg P ρ H w (Conv.stringToBytes e s) (jp (ap ⟨H.next,0,bi⟩) s.size s.size) g:=by
 have d:=qI s.size 0 e (w.tape w.drawn (.appendCap s.size 0 e))
 obtain⟨f,h⟩:∃ f,(Question.appendCap s.size 0 e).cut (w.tape w.drawn (.appendCap s.size 0 e))=s.size+f:=⟨_,(Nat.add_sub_cancel' d).symm⟩
 have i:(Question.appendCap s.size 0 e).forced=false:=rfl
 have j:=LQ (r.heap (w':=w.drew) rfl) k (Array.replicate f (.int .u8 0)) f (by simp[aZ c]) (by
  rw[aZ c,zE5,zE5];have:=lN s.size 0 e (w.tape w.drawn (.appendCap s.size 0 e)) li;have n:(aq s.data.toList).length=s.size:=by unfold aq; simp
  omega)
 refine⟨_,_,(se r).trans j,?_⟩;unfold Conv.stringToBytes;simp only[Sem.run_bind,run_choose,i,zC8,if_false,h];have a:({w with drawn:=w.drawn+1}:ip)=w.drew:=rfl;simp only[a,Result.andThen_ok,newRow,Sem.run_bind,run_newObj,Sem.run_pure,zF9];have:=Fe (P:=P) (w:=w.drew) ((s.data.map fun b=>(.int .u8 b.toNat:gt))++Array.replicate f (.int .u8 0)) e;have l:((aq s.data.toList).map ρ.val).toArray=s.data.map fun b=>(.int .u8 b.toNat:gt):=by rw[<-Fx];congr 1;unfold aq;rw[List.map_map];apply List.map_congr_left;intro b _;simp[Ren.val]
 refine (congrArg (fun q=>Result.andThen q _) this).trans ?_;rw[mb,l];simp only[Result.andThen_ok];simp[aq]
def Fv(r:Rel P ρ H w){e:ii}{s:ByteArray}{g:aa}(c:bg P e=ap 1)(m:cH H e (Conv.runesFrom s s.size 0 #[]).toList bv=ap g)(n:(Conv.runesFrom s s.size 0 #[]).toList.length<=1000000000) :
  kg P ρ H w (Conv.stringToRunes e s) (jp (ap ⟨H.next,0,bi⟩) (Conv.runesFrom s s.size 0 #[]).toList.length (Conv.runesFrom s s.size 0 #[]).toList.length) g:=by
 generalize d:Conv.runesFrom s s.size 0 #[]=a at m n;have f:=qI a.size 0 e (w.tape w.drawn (.appendCap a.size 0 e))
 obtain⟨h,i⟩:∃ h,(Question.appendCap a.size 0 e).cut (w.tape w.drawn (.appendCap a.size 0 e))=a.size+h:=⟨_,(Nat.add_sub_cancel' f).symm⟩
 have j:(Question.appendCap a.size 0 e).forced=false:=rfl
 have k:=AM (r.heap (w':=w.drew) rfl) m (Array.replicate h (.int .i32 0)) h (by simp[aZ c]) (by
  rw[aZ c,zE5,zE5];have q:a.toList.length=a.size:=by simp
  have:=lN a.size 0 e (w.tape w.drawn (.appendCap a.size 0 e)) li
  omega)
 refine⟨_,_,(se r).trans k,?_⟩;unfold Conv.stringToRunes;simp only[d,Sem.run_bind,run_choose,j,zC8,if_false,i];have b:({w with drawn:=w.drawn+1}:ip)=w.drew:=rfl;simp only[b,Result.andThen_ok,newRow,Sem.run_bind,run_newObj,Sem.run_pure,zF9];have l:∀ v∈a.toList,af v=true:=by rw[<-d]; exact MC s s.size 0 #[] lw
 have o:(a.toList.map ρ.val).toArray=a:=by
  have:a.toList.map ρ.val=a.toList:=by
   conv=>rhs; rw[<-List.map_id a.toList]
   apply List.map_congr_left;intro v p;exact di ρ v (l v p)
  rw[this]
 rw[mb,o];simp;rfl
def zI{β:Type}(f:gt->β->Sem (ForInStep β))(g:gt->β->β):∀(l:List gt)(b:β),(∀ v∈l,∀ b,(f v b).run P w=.ok (.yield (g v b)) w) ->
  (forIn l.toArray b f).run P w=.ok (l.foldl (fun b v=>g v b) b) w:=by
 intro l
 induction l with
 |nil=>intro b _; simp
 |cons v l a =>intro b h;have:=a (g v b) (fun u d c=>h u (zC4 _ d) c);simp only[List.forIn_toArray]at this ⊢;simp only[List.forIn_cons,Sem.run_bind,h v (zD7 ..) b,Result.andThen_ok,List.foldl_cons,this]
def O7(a:List UInt8)(b:UInt8):(ByteArray.mk a.toArray).push b=⟨(a++[b]).toArray⟩:=by simp[ByteArray.push]
def Kd(a:List UInt8)(b:ByteArray):(ByteArray.mk a.toArray)++b=⟨(a++b.data.toList).toArray⟩:=by apply ByteArray.ext;simp[ByteArray.data_append]
def GR(ρ:Ren):∀(cs:List gt)(l a:List UInt8),cC cs=ap l ->
  (cs.map ρ.val).foldl (fun (s:ByteArray) (v:gt)=>match v with|.int .u8 n=>s.push (UInt8.ofNat n.toNat)|_=>s) ⟨a.toArray⟩=⟨(a++l).toArray⟩/\∀ v∈cs.map ρ.val,∃ n,v=.int .u8 n:=by
 intro cs
 induction cs with
 |nil=>intro l a h; simp only[cC,i5]at h; subst h; simp
 |cons c cs d =>
  intro l a h;unfold cC at h;split at h
  .cases ‹c::cs=[]›
  .rename_i n r b;cases b;simp only[zB5]at h;obtain⟨e,f,rfl⟩:=h;obtain⟨g,i⟩:=d e (a++[UInt8.ofNat n.toNat]) f;refine⟨?_,?_⟩
   .simp only[zB9,Ren.val,List.foldl_cons,O7];rw[g];simp
   .intro v hv;simp only[zB9,zA9]at hv;rcases hv with rfl|hv
    .exact⟨n,by rw[Ren.val]⟩
    .exact i v hv
  .cases h
def F7(ρ:Ren):∀(cs:List gt)(l a:List UInt8),fp cs=ap l ->
  (cs.map ρ.val).foldl (fun (s:ByteArray) (v:gt)=>match v with|.int .i32 n=>s++Utf8.encode n|_=>s) ⟨a.toArray⟩=⟨(a++l).toArray⟩/\∀ v∈cs.map ρ.val,∃ n,v=.int .i32 n:=by
 intro cs
 induction cs with
 |nil=>intro l a h; simp only[fp,i5]at h; subst h; simp
 |cons c cs d =>
  intro l a h;unfold fp at h;split at h
  .cases ‹c::cs=[]›
  .rename_i n r b;cases b;simp only[zB5]at h;obtain⟨e,f,rfl⟩:=h;obtain⟨g,i⟩:=d e (a++(Utf8.encode n).data.toList) f;refine⟨?_,?_⟩
   .simp only[zB9,Ren.val,List.foldl_cons,Kd];rw[g];simp
   .intro v hv;simp only[zB9,zA9]at hv;rcases hv with rfl|hv
    .exact⟨n,by rw[Ren.val]⟩
    .exact i v hv
  .cases h
def GU(r:Rel P ρ H w){a:Option Addr}{len cap:Nat}{cs:List gt}{l:List UInt8}(d:dj H 1 len (.slice a len len)=ap cs)(e:fp cs=ap l) :
  (Conv.runesToString (ρ.val (.slice a len cap))).run P w=.ok (.string ⟨l.toArray⟩) w:=by
 have c:=ie r d (fun k f=>by simp only[kz,i5]at f; omega)
 cases a with
 |none =>simp only[dj,i5]at d;subst d;simp only[fp,i5]at e;subst e;simp only[Ren.val,Conv.runesToString,Sem.run_pure];rfl
 |some a =>
  simp only[Ren.val,Builtin.firstCells,zE5]at c
  replace c:(loadCells ⟨ρ.blk a.block,ρ.ni a len cap+ρ.sh a.block,ρ.zl a len cap⟩ len).run P w=.ok (cs.map ρ.val).toArray w:=by
   cases len with
   |zero=>exact c
   |succ len=>rw[Ren.mT (.inr (Nat.succ_ne_zero _)),Ren.oe (.inr (Nat.succ_ne_zero _))]at c ⊢; exact c
  simp only[Ren.val,Conv.runesToString,Sem.run_bind,c,Result.andThen_ok];obtain⟨g,h⟩:=F7 ρ cs l [] e
  rw[zI _ (fun v s=>match v with|.int .i32 n=>s++Utf8.encode n|_=>s) _ _ (fun v i b=>by
   obtain⟨n,rfl⟩:=h v i
   simp)]
  have j:ByteArray.empty=⟨([]:List UInt8).toArray⟩:=rfl;simp only[Result.andThen_ok,Sem.run_pure,j];rw[g];simp
def KB(r:Rel P ρ H w){a:Option Addr}{len cap:Nat}{cs:List gt}{l:List UInt8}(d:dj H 1 len (.slice a len len)=ap cs)(e:cC cs=ap l) :
  (Conv.bytesToString (ρ.val (.slice a len cap))).run P w=.ok (.string ⟨l.toArray⟩) w:=by
 have c:=ie r d (fun k f=>by simp only[kz,i5]at f; omega)
 cases a with
 |none =>simp only[dj,i5]at d;subst d;simp only[cC,i5]at e;subst e;simp only[Ren.val,Conv.bytesToString,Sem.run_pure];rfl
 |some a =>
  simp only[Ren.val,Builtin.firstCells,zE5]at c
  replace c:(loadCells ⟨ρ.blk a.block,ρ.ni a len cap+ρ.sh a.block,ρ.zl a len cap⟩ len).run P w=.ok (cs.map ρ.val).toArray w:=by
   cases len with
   |zero=>exact c
   |succ len=>rw[Ren.mT (.inr (Nat.succ_ne_zero _)),Ren.oe (.inr (Nat.succ_ne_zero _))]at c ⊢; exact c
  simp only[Ren.val,Conv.bytesToString,Sem.run_bind,c,Result.andThen_ok];obtain⟨g,h⟩:=GR ρ cs l [] e
  rw[zI _ (fun v s=>match v with|.int .u8 n=>s.push (UInt8.ofNat n.toNat)|_=>s) _ _ (fun v i b=>by
   obtain⟨n,rfl⟩:=h v i
   simp)]
  have j:ByteArray.empty=⟨([]:List UInt8).toArray⟩:=rfl;simp only[Result.andThen_ok,Sem.run_pure,j];rw[g];simp
def B8(r:Rel P ρ H w){s d:ii}{x v:gt}{H1:aa}(h:bM P H s d x=ap (v,H1)):kg P ρ H w (convert s d (ρ.val x)) v H1:=by
 unfold bM at h;split at h
 .rename_i N k ks n m p;simp only[i5,i6]at h;obtain⟨rfl,rfl⟩:=h;refine kg.same r ?_;simp[convert,Sem.run_bind,ay m,ay p,Ren.val,Conv.intToInt]
 .rename_i N str m p;simp only[i5,i6]at h;obtain⟨rfl,rfl⟩:=h;refine kg.same r ?_;simp[convert,Sem.run_bind,ay m,ay p,Ren.val]
 .rename_i N ks n m p;simp only[i5,i6]at h;obtain⟨rfl,rfl⟩:=h;refine kg.same r ?_;simp[convert,Sem.run_bind,ay m,ay p,Ren.val,Conv.intToString]
 .rename_i N e str m p;split at h
  .rename_i C;simp only[zA1,zA2]at h;obtain⟨sz,y,h⟩:=h;split at h
   .split at h
    .rename_i E;simp only[zA2,i5,i6]at h;obtain⟨g,A,rfl,rfl⟩:=h;obtain⟨F,w1,G,O⟩:=Gd r y A (iq E);refine⟨F,w1,G,?_⟩;rw[<-O];simp[convert,Sem.run_bind,ay m,ay p,ay C,Ren.val]
    .cases h
   .cases h
  .rename_i C;simp only[zA1,zA2]at h;obtain⟨sz,y,h⟩:=h;split at h
   .split at h
    .rename_i E;simp only[zA2,i5,i6]at h;obtain⟨g,A,rfl,rfl⟩:=h;obtain⟨F,w1,G,O⟩:=Fv r y A (iq E);refine⟨F,w1,G,?_⟩;rw[<-O];simp[convert,Sem.run_bind,ay m,ay p,ay C,Ren.val]
    .cases h
   .cases h
  .cases h
 .rename_i e a len cap m p;simp only[zA1,zA2]at h;obtain⟨cs,B,h⟩:=h;split at h
  .rename_i C;simp only[zB5,i6]at h;obtain⟨l,Q,rfl,rfl⟩:=h;refine kg.same r ?_;have:=KB (cap:=cap) r B Q;rw[Ren.val,<-this];cases a<;>simp[convert,Sem.run_bind,ay m,ay p,ay C,Ren.val]
  .rename_i C;simp only[zB5,i6]at h;obtain⟨l,Q,rfl,rfl⟩:=h;refine kg.same r ?_;have:=GU (cap:=cap) r B Q;rw[Ren.val,<-this];cases a<;>simp[convert,Sem.run_bind,ay m,ay p,ay C,Ren.val]
  .cases h
 .rename_i e0 e a len cap m p;simp only[zA1,zA2]at h;obtain⟨u,C,h⟩:=h;split at h
  .split at h
   .rename_i z ty q c A;split at h
    .rename_i B;simp only[zA7]at B;obtain⟨I,R⟩:=B;have I:=Nat.eq_of_beq_eq_true I;subst I;have K:e0=e:=by rw[m]at p; simpa using p
     subst K;simp only[i5,i6]at h;obtain⟨rfl,rfl⟩:=h;obtain⟨o',L,j⟩:=r.obj _ _ A;simp only[Fits]at j;obtain⟨cs,U,rfl,D,J,_⟩:=j;obtain⟨V,S,M,W⟩:=J trivial;subst W;obtain⟨m1,m2,m3,m4,m5,m6⟩:=EW (P:=P) L (ρ.ni a len cap+ρ.sh a.block);refine⟨ρ,_,St.cy r (bw A) (rr A Ng) (o:=⟨.cells z ty q,bv,c⟩) (o':=.cells cs ty (cs.size,cs.size+1)) ?_ ?_ m2 m3 m4 m5 m6 rfl,?_⟩
     .exact (r.dom _ _ A).2
     .simp only[Fits];refine⟨cs,_,rfl,D,fun h=>(by cases h),fun _ _=>⟨⟨?_,fun h=>absurd M h⟩,fun i _ hi=>?_⟩⟩
      .rw[V,S,M]; simp
      .rw[S,M]at hi; simp only; omega
     .rw[Ren.val];rw[Ren.oe (.inl (Nat.eq_of_beq_eq_true R))];simp only[convert,Sem.run_bind,ay m,ay C,Result.andThen_ok,beq_self_eq_true,m1,Sem.run_pure]
    .cases h
   .cases h
  .cases h
 .rename_i t m p;simp only[i5,i6]at h;obtain⟨rfl,rfl⟩:=h;refine kg.same r ?_;simp[convert,Conv.unsafePointer,Sem.run_bind,ay m,ay p,Ren.val]
 .rename_i t n off m p;simp only[zA1,zA2]at h;obtain⟨sz,y,⟨c,e,o⟩,B,h⟩:=h;split at h
  .rename_i b;simp only[zA7]at b;simp only[i5,i6]at h;obtain⟨rfl,rfl⟩:=h
   obtain⟨X,Y,A⟩:∃ X Y,H.get n=ap ⟨.cells X e Y,o,c⟩:=by
    unfold cM at B;split at B
    .rename_i z e' f o' v' A;simp only[i5,i6]at B;obtain⟨rfl,rfl,rfl⟩:=B;exact⟨z,f,A⟩
    .cases B
   obtain⟨o',L,j⟩:=r.obj _ _ A;simp only[Fits]at j;obtain⟨cs,U,rfl,D,_,_⟩:=j
   have T:off+ρ.sh n<cs.size:=by
    have:=D off (bO b.2);rcases zC2 (off+ρ.sh n) cs.size with h|h
    .exact h
    .rw[Array.getElem?_eq_none h]at this; cases this
   refine kg.same r ?_;have:=Cj (P:=P) (w:=w) (a:=⟨ρ.blk n,off+ρ.sh n,bi⟩) m p L rfl T y (bO b.1);simp only[Ren.val,convert,Sem.run_bind,ay m,ay p,Result.andThen_ok];exact this
  .cases h
 .rename_i t m p;simp only[i5,i6]at h;obtain⟨rfl,rfl⟩:=h;refine kg.same r ?_;simp[convert,Conv.unsafePointer,Sem.run_bind,ay m,ay p,Ren.val]
 .rename_i u n m p;simp only[zA1,zA2]at h;obtain⟨sz,y,h⟩:=h;split at h
  .rename_i z e f c A;split at h
   .rename_i b;simp only[zA7]at b;obtain⟨⟨K,Z⟩,h0⟩:=b;have K:=Nat.eq_of_beq_eq_true K;subst K;have Z:=Nat.eq_of_beq_eq_true Z;simp only[i5,i6]at h;obtain⟨rfl,rfl⟩:=h;obtain⟨o',L,j⟩:=r.obj _ _ A;simp only[Fits]at j;obtain⟨cs,U,rfl,D,J,_⟩:=j;obtain⟨V,S,M,W⟩:=J trivial;refine kg.same r ?_;have:=CI (P:=P) (w:=w) (a:=⟨ρ.blk n,0+ρ.sh n,bi⟩) m p L rc y (bO h0) li;simp only[Ren.val,convert,Sem.run_bind,ay m,ay p,Result.andThen_ok];exact this
   .cases h
  .cases h
 .cases h
def hJ{r:Nat}{o o':Obj}(h:w.heap[r]?=ap o)(a:∀ c e f,o≠.cells c e f):(setObj r o').run P w=.ok () {w with heap:=w.heap.setIfInBounds r o'}:=by
 cases o<;>first
  |(exact absurd rfl (a _ _ _))
  |simp only[setObj,Sem.run,h]
def fU(r:Nat)(o o':Obj)(h:w.heap[r]?=ap o) :
  ({w with heap:=w.heap.setIfInBounds r o'}:ip).heap[r]?=ap o'/\({w with heap:=w.heap.setIfInBounds r o'}:ip).heap.size=w.heap.size /\
   ∀ b,b≠r->({w with heap:=w.heap.setIfInBounds r o'}:ip).heap[b]?=w.heap[b]?:=by
 have a:r<w.heap.size:=by
  rcases zC2 r w.heap.size with h1|h1
  .exact h1
  .simp[Array.getElem?_eq_none h1]at h
 refine⟨by simp[a],by simp,fun b c=>?_⟩;simp only[Array.getElem?_setIfInBounds];rw[if_neg (fun e=>c e.symm)]
def xz{n:Nat}{o:Obj}(h:w.heap[n]?=ap o)(a:∀ c e f,o≠.cells c e f):(getObj n).run P w=.ok o w:=by
 cases o<;>first
  |(exact absurd rfl (a _ _ _))
  |simp only[getObj,Sem.run,h]
def Gs(r:Rel P ρ H w){t:ii}{x v:gt}{H1:aa}(h:qP P H t x=ap (v,H1)):kg P ρ H w (Instr.range t (ρ.val x)) v H1:=by
 unfold qP at h;split at h
 .rename_i s a;simp only[i5,i6]at h;obtain⟨rfl,rfl⟩:=h;refine⟨_,_,St.new r ⟨.stringIter s 0,gc,⟨[],0⟩⟩ (.stringIter s 0) 0 0 (by simp[ki]) (by simp[Fits]),?_⟩;simp only[Instr.range,Sem.run_bind,ay a,Result.andThen_ok,Ren.val,Sem.run_pure,run_newObj];simp[Ren.at]
 .cases h
def KC(r:Rel P ρ H w){i v:gt}{s:Bool}{ty:ii}{H1:aa}(h:sa H i s=ap (v,H1)):kg P ρ H w (Instr.next (ρ.val i) s ty) v H1:=by
 unfold sa at h;split at h
 .rename_i n;split at h
  .rename_i str a o p f;obtain⟨o',g,j⟩:=r.obj _ _ f;simp only[Fits]at j;obtain⟨rfl,b⟩:=j;have d:=xz (P:=P) g (fun _ _ _=>by simp);split at h
   .rename_i c;simp only[i5,i6]at h;obtain⟨rfl,rfl⟩:=h;obtain⟨k,l,m⟩:=fU (w:=w) (ρ.blk n) _ (.stringIter str (a+(Utf8.decode str a).2)) g;refine⟨ρ,_,St.cy r (bw f) (rr f rfl) (by simp[ki]) (by simp[Fits,b]) k l m rfl rfl rfl,?_⟩;have e:=hJ (P:=P) (o':=.stringIter str (a+(Utf8.decode str a).2)) g (fun _ _ _=>by simp);simp only[Instr.next,Ren.val,b,zC6,Sem.run_bind,d,Result.andThen_ok,if_pos c,e,Sem.run_pure];simp[goInt,Ren.eC,Ren.gI,Ren.val]
   .rename_i c;simp only[i5,i6]at h;obtain⟨rfl,rfl⟩:=h;refine kg.same r ?_;simp only[Instr.next,Ren.val,b,zC6,Sem.run_bind,d,Result.andThen_ok,if_neg c,Sem.run_pure];simp[Ren.eC,Ren.gI,Ren.val]
  .cases h
 .cases h
def pj(ρ:Ren)(kd:TypeDesc)(k:gt):∀(a:List MapEntry)(i:Nat),Instr.findNow kd k (a.map ρ.entry) i=(Instr.findNow kd k a i).map (fun o=>o.map fun p=>(p.1,ρ.val p.2)):=by
 intro a
 induction a with
 |nil=>intro i; simp[Instr.findNow]
 |cons e a c =>
  intro i;simp only[zB9,Instr.findNow];have:(ρ.entry e).key=e.key:=rfl;rw[this]
  cases Instr.sameNow kd k e.key with
  |none=>rfl
  |some b =>
   cases b with
   |true=>simp[Ren.entry]
   |false=>simp only[c]
def Gh(kd:TypeDesc)(k:gt):∀(a:List MapEntry)(i j:Nat)(v:gt),Instr.findNow kd k a i=ap (ap (j,v))->∃ e,a[j-i]?=ap e/\i<=j/\Instr.sameNow kd k e.key=ap true:=by
 intro a
 induction a with
 |nil=>intro i j v h; simp[Instr.findNow]at h
 |cons e a b =>
  intro i j v h;simp only[Instr.findNow]at h;split at h
  .rename_i c;simp only[i5,i6]at h;obtain⟨rfl,rfl⟩:=h;exact⟨e,by simp,zA5 _,c⟩
  .obtain⟨x,d,g,f⟩:=b (i+1) j v h;refine⟨x,?_,by omega,f⟩;rw[show j-i=(j-(i+1))+1 from by omega];simpa using d
  .cases h
def Q3{a b:ByteArray}(h:(a == b)=bv):a=b:=by
 obtain⟨x⟩:=a;obtain⟨y⟩:=b;have e:x=y:=by simpa using (show (x == y)=bv from h)
 rw[e]
def Jt{kd:TypeDesc}{k e:gt}(h:Instr.sameNow kd k e=ap bv):Instr.sameBits 10000 e k=true:=by
 unfold Instr.sameNow at h;split at h
 .rename_i a b c d;split at h
  .rename_i f;subst f;simp only[i5,beq_iff_eq]at h;subst h;simp[Instr.sameBits]
  .cases h
 .simp only[i5]at h;have:=Q3 h;subst this;simpa[Instr.sameBits]using h
 .simp only[i5,beq_iff_eq]at h;subst h;simp[Instr.sameBits]
 .cases h
def rz(ρ:Ren){k:gt}(h:oC k=bv):ρ.val k=k:=by cases k<;>simp[oC]at h<;>rw[Ren.val]
def run_checkKey{kd:TypeDesc}{t:ii}{k:gt}{b:Bool}(a:P.underlying t=ap kd)(c:lj kd=bv):(Instr.checkKey b 10000 t k).run P w=.ok () w:=by rw[show (10000:Nat)=9999+1 from rfl,Instr.checkKey];simp only[Sem.run_bind,ay a,Result.andThen_ok];cases kd<;>simp only[lj,zC8]at c<;>simp
def run_findKey{kd:TypeDesc}{t:ii}{k:gt}{a:List MapEntry}{o:Option (Nat × gt)}(b:P.underlying t=ap kd)(h:Instr.findNow kd k a 0=ap o):(Instr.findKey t k a).run P w=.ok o w:=by simp[Instr.findKey,Sem.run_bind,ay b,h]
def ti(r:Rel P ρ H w){n:Nat}{b:Array MapEntry}{a:Nat}{o:Bool}{v:RV}(e:H.get n=ap ⟨.map b a,o,v⟩) :
  w.heap[ρ.blk n]?=ap (.map (b.map ρ.entry) a)/\(getObj (ρ.blk n)).run P w=.ok (.map (b.map ρ.entry) a) w:=by
 obtain⟨o',c,d⟩:=r.obj _ _ e;simp only[Fits]at d;subst d;exact⟨c,xz (P:=P) c (fun _ _ _=>by simp)⟩
def sb(c elem:ii)(a:gt)(b:Bool)(d:Array MapEntry):Sem Value:=do
 Instr.checkKey d.isEmpty 10000 c a
 let (v,ok) <-match <-Instr.findKey c a d.toList with
  |some (_,v)=>pure (v,bv)
  |none=>pure (<-zeroValue elem,gc)
 pure (if b then .tuple #[v,kw ok] else v)
def E8(r:Rel P ρ H w){t:ii}{x k v:gt}{ok:Bool}(h:lr P H t x k ok=ap v):(Instr.lookup t (ρ.val x) (ρ.val k) ok).run P w=.ok (ρ.val v) w:=by
 unfold lr at h;split at h
 .rename_i d elem m q;simp only[zA1,zA2]at h;obtain⟨p,b,kd,e,h⟩:=h;split at h
  .rename_i f;simp only[zA7]at f
   have s:(Instr.lookup t (ρ.val (.map m)) (ρ.val k) ok).run P w=(sb d elem (ρ.val k) ok (p.map ρ.entry)).run P w:=by
    unfold Instr.lookup;simp only[Sem.run_bind,ay q,Result.andThen_ok]
    cases m with
    |none =>
     simp only[zS,i5]at b;subst b;simp only[Ren.val,Sem.run_bind,Sem.run_pure,Result.andThen_ok];have u:(#[]:Array MapEntry).map ρ.entry=#[]:=by simp
     rw[u];simp only[sb,Sem.run_bind];generalize Instr.checkKey _ 10000 d (ρ.val k)=c;rfl
    |some n =>
     simp only[zS]at b;split at b
     .rename_i y C o D A;simp only[i5]at b;subst b;simp only[Ren.val,Sem.run_bind,(ti r A).2,Result.andThen_ok,Sem.run_pure];simp only[sb,Sem.run_bind];generalize Instr.checkKey _ 10000 d (ρ.val k)=c;rfl
     .cases b
   have a:=pj ρ kd k p.toList 0;rw[s];unfold sb;simp only[Sem.run_bind,Result.andThen_ok,rz ρ f.1,run_checkKey e f.2,Array.toList_map];split at h
   .rename_i i E g;rw[g]at a;simp only[zB1]at a;simp only[run_findKey e a,Result.andThen_ok];simp only[i5]at h;subst h;cases ok<;>simp[Ren.val,Ren.eC,Ren.gI]
   .rename_i g;rw[g]at a;simp only[zB1,Option.map_none]at a;simp only[zB5]at h;obtain⟨z,B,rfl⟩:=h;obtain⟨j,l⟩:=dS (w:=w) B;simp only[run_findKey e a,Result.andThen_ok,Sem.run_bind,j,Sem.run_pure];cases ok<;>simp[Ren.val,Ren.eC,Ren.gI,di ρ z l]
   .cases h
  .cases h
 .cases h
def oL(r:Rel P ρ H w){t:ii}{x k v:gt}{H1:aa}(h:bN P H t x k v=ap H1) :
  ∃ w1,St P ρ H w ρ H1 w1/\(Instr.mapUpdate t (ρ.val x) (ρ.val k) (ρ.val v)).run P w=.ok () w1:=by
 unfold bN at h;split at h
 .rename_i key elem n G;split at h
  .rename_i d a o L q;simp only[zA1,zA2]at h;obtain⟨kd,f,h⟩:=h;obtain⟨z,s⟩:=ti r q;have l:=(r.dom _ _ q).2;simp only[ki]at l;split at h
   .rename_i g;simp only[zA7]at g;have b:=pj ρ kd k d.toList 0;split at h
    .rename_i i I A;simp only[i5]at h;subst h;rw[A]at b;simp only[zB1]at b;obtain⟨e,J,_,m⟩:=Gh kd k d.toList 0 i I A;have B:d[i]?=ap e:=by simpa using J
     have c:=hJ (P:=P) (o':=.map ((d.map ρ.entry).modify i fun e=>{e with key:=k,val:=ρ.val v}) a) z (fun _ _ _=>by simp);obtain⟨C,D,E⟩:=fU (w:=w) (ρ.blk n) _ (.map ((d.map ρ.entry).modify i fun e=>{e with key:=k,val:=ρ.val v}) a) z;refine⟨_,St.cy r (bw q) (rr q rfl) ?_ ?_ C D E rfl rfl rfl,?_⟩
     .simp only[ki];intro F p;obtain⟨j,u⟩:=Array.getElem?_of_mem p;rw[Array.getElem?_modify]at u;split at u
      .simp only[zB5]at u;obtain⟨M,_,rfl⟩:=u;exact⟨g.1.1,g.2⟩
      .exact l F (Array.mem_of_getElem? u)
     .simp only[Fits];congr 1;apply Array.ext_getElem?;intro j;simp only[Array.getElem?_map,Array.getElem?_modify];split
      .cases d[j]?<;>simp[Ren.entry]
      .rfl
     .unfold Instr.mapUpdate;simp only[Sem.run_bind,ay G,Result.andThen_ok,Ren.val,s,rz ρ g.1.1,run_checkKey f g.1.2,Array.toList_map,run_findKey f b];have y:(((d.map ρ.entry)[i]?.map (·.key)).getD k)=e.key:=by rw[Array.getElem?_map,B]; rfl
      simp only[y,Instr.keyThatStays,Jt m,if_true,Sem.run_pure,Result.andThen_ok,c]
    .rename_i A;simp only[i5]at h;subst h;rw[A]at b;simp only[zB1,Option.map_none]at b;have c:=hJ (P:=P) (o':=.map ((d.map ρ.entry).push {key:=k,val:=ρ.val v,born:=a}) (a+1)) z (fun _ _ _=>by simp);obtain⟨C,D,E⟩:=fU (w:=w) (ρ.blk n) _ (.map ((d.map ρ.entry).push {key:=k,val:=ρ.val v,born:=a}) (a+1)) z;refine⟨_,St.cy r (bw q) (rr q rfl) ?_ ?_ C D E rfl rfl rfl,?_⟩
     .simp only[ki];intro F p;rcases Array.mem_push.1 p with K|rfl
      .exact l F K
      .exact⟨g.1.1,g.2⟩
     .simp[Fits,Ren.entry]
     .unfold Instr.mapUpdate;simp only[Sem.run_bind,ay G,Result.andThen_ok,Ren.val,s,rz ρ g.1.1,run_checkKey f g.1.2,Array.toList_map,run_findKey f b,c]
    .cases h
   .cases h
  .cases h
 .cases h
def yO(r:Rel P ρ H w):kg P ρ H w (do pure (.map (ap (<-newObj (.map #[] 0))))) (.map (ap H.next)) (H.new ⟨.map #[] 0,gc,⟨[],0⟩⟩):=by refine⟨_,_,St.new r ⟨.map #[] 0,gc,⟨[],0⟩⟩ (.map #[] 0) 0 0 (by simp[ki]) (by simp[Fits]),?_⟩;simp only[Sem.run_bind,run_newObj,Result.andThen_ok,Sem.run_pure];simp[Ren.at,Ren.val]
def Bm{α β:Type}(f:α->β):∀(l:List α)(i:Nat),(l.map f).eraseIdx i=(l.eraseIdx i).map f
 |[],_=>by simp
 |_::_,0=>by simp
 |_::l,i+1=>by simp[Bm f l i]
def Et(r:Rel P ρ H w){ts:Array ii}{ty t:ii}{rest:List ii}(j:ts.toList=t::rest){m k v:gt}{H1:aa}(h:vW P H t m k=ap (v,H1)) :
  kg P ρ H w (Builtin.delete_ ts ty ([m,k].map ρ.val).toArray) v H1:=by
 obtain⟨l⟩:=ts;simp only at j;subst j;unfold vW at h;split at h
 .rename_i C elem n B;split at h
  .rename_i p b o E g;simp only[zA1,zA2]at h;obtain⟨kd,d,h⟩:=h;obtain⟨u,q⟩:=ti r g;have f:=(r.dom _ _ g).2;simp only[ki]at f;split at h
   .rename_i s;simp only[zA7]at s;have a:=pj ρ kd k p.toList 0;split at h
    .rename_i i F x;simp only[i5,i6]at h;obtain⟨rfl,rfl⟩:=h;rw[x]at a;simp only[zB1]at a;have c:=hJ (P:=P) (o':=.map ((p.map ρ.entry).eraseIdxIfInBounds i) b) u (fun _ _ _=>by simp);obtain⟨y,z,A⟩:=fU (w:=w) (ρ.blk n) _ (.map ((p.map ρ.entry).eraseIdxIfInBounds i) b) u;refine⟨ρ,_,St.cy r (bw g) (rr g rfl) ?_ ?_ y z A rfl rfl rfl,?_⟩
     .simp only[ki];intro D e;refine f D ?_;unfold Array.eraseIdxIfInBounds at e;split at e
      .exact Array.mem_of_mem_eraseIdx e
      .exact e
     .simp only[Fits];congr 1;apply Array.ext';simp[Bm]
     .unfold Builtin.delete_;simp only[zB9,zE6,List.getElem?_toArray,zF3,zG6,Sem.run_bind,ay B,Result.andThen_ok,Ren.val,q,rz ρ s.1,run_checkKey d s.2,Array.toList_map,run_findKey d a,c,Sem.run_pure];simp[Ren.eC,Ren.gI]
    .rename_i x;simp only[i5,i6]at h;obtain⟨rfl,rfl⟩:=h;rw[x]at a;simp only[zB1,Option.map_none]at a;have c:=hJ (P:=P) (o':=.map (p.map ρ.entry) b) u (fun _ _ _=>by simp);obtain⟨y,z,A⟩:=fU (w:=w) (ρ.blk n) _ (.map (p.map ρ.entry) b) u;refine⟨ρ,_,St.cy r (bw g) (rr g rfl) ?_ ?_ y z A rfl rfl rfl,?_⟩
     .simp only[ki];exact f
     .simp[Fits]
     .unfold Builtin.delete_;simp only[zB9,zE6,List.getElem?_toArray,zF3,zG6,Sem.run_bind,ay B,Result.andThen_ok,Ren.val,q,rz ρ s.1,run_checkKey d s.2,Array.toList_map,run_findKey d a,c,Sem.run_pure];simp[Ren.eC,Ren.gI]
    .cases h
   .cases h
  .cases h
 .cases h
def FV(r:Rel P ρ H w){ts:Array ii}{ty t:ii}{rest:List ii}(d:ts.toList=t::rest){x v:gt}{H1:aa}(h:Ck P H t x=ap (v,H1)) :
  kg P ρ H w (Builtin.clear_ ts ty ([x].map ρ.val).toArray) v H1:=by
 obtain⟨l⟩:=ts;simp only at d;subst d;unfold Ck at h;split at h
 .rename_i e n c f;simp only[i5,i6]at h;obtain⟨rfl,rfl⟩:=h;refine kg.same r ?_;simp[Builtin.clear_,Ren.val,ay f,Ren.eC,Ren.gI]
 .rename_i e a n c f;split at h
  .simp only[i5,i6]at h;obtain⟨rfl,rfl⟩:=h;refine kg.same r ?_;simp[Builtin.clear_,Ren.val,ay f,Ren.eC,Ren.gI]
  .rename_i n;simp only[zA1,zA2,i5,i6]at h;obtain⟨z,p,g,q,rfl,rfl⟩:=h;obtain⟨w1,i,b⟩:=nJ r q;obtain⟨j,k⟩:=dS (w:=w) p;refine⟨ρ,w1,i,?_⟩;have m:Builtin.zeroCells z.cells (n+1)=(cg z.cells.toList (n+1)).toArray:=by unfold Builtin.zeroCells;exact jF _ _
   have o:(cg z.cells.toList (n+1)).map ρ.val=cg z.cells.toList (n+1):=nu ρ _ (sD ρ k) _;rw[o]at b;unfold Builtin.clear_;simp only[zB9,zE6,List.getElem?_toArray,zF3,Sem.run_bind,ay f,Result.andThen_ok,Ren.val,Ren.mT (ρ:=ρ) (a:=a) (len:=n+1) (cap:=c) (.inr (Nat.succ_ne_zero n)),Ren.oe (ρ:=ρ) (a:=a) (len:=n+1) (cap:=c) (.inr (Nat.succ_ne_zero n)),j,m,b,Sem.run_pure];simp[Ren.eC,Ren.gI]
 .cases h
def BY(r:Rel P ρ H w){b:Builtin}{ts:Array ii}{ty:ii}{cs:Array Bool}{args:List gt}{v:gt}{H1:aa}(h:aF P H b ts args=ap (v,H1)) :
  jO P ρ H w (builtin b ts ty cs (args.map ρ.val).toArray) (.value v) H1:=by
 unfold aF at h;split at h
 .simp only[zB5,i6]at h;obtain⟨d,c,rfl,rfl⟩:=h;exact jO.val r (ze c)
 .exact jO.JQ (ye r h)
 .exact jO.JQ (Es r h)
 .exact jO.JQ (Kf r h)
 .split at h
  .rename_i t rest a;simp only[zB5,i6]at h;obtain⟨d,c,rfl,rfl⟩:=h;exact jO.val r (MI r a c)
  .cases h
 .split at h
  .rename_i t rest a;simp only[zB5,i6]at h;obtain⟨d,c,rfl,rfl⟩:=h;exact jO.val r (K3 r a c)
  .cases h
 .split at h
  .rename_i t rest a;exact jO.JQ (Et r a h)
  .cases h
 .split at h
  .rename_i t rest a;exact jO.JQ (FV r a h)
  .cases h
 .simp only[zB5,i6]at h;obtain⟨d,c,rfl,rfl⟩:=h;exact jO.val r (ML c)
 .simp only[zB5,i6]at h;obtain⟨d,c,rfl,rfl⟩:=h;exact jO.val r (Nt c)
 .cases h
end
section
variable{P:io}{ρ:Ren}{H:aa}{w:ip}
def uS{f:FuncId}{args:Array gt}(h:aB P f=bv):(callFunc f args).run P w=.ok (.enter f args) w:=by
 unfold aB at h;split at h
 .rename_i fn a;simp only[zA7]at h;have b:(fn.name == "runtime.NumGoroutine")=false:=by have:=zD3.1 h.2 fn (Array.mem_toList_iff.2 (Array.mem_of_getElem? a));simpa using this
  have d:fn.body.isNone=false:=by
   cases e:fn.body with
   |none=>simp[e]at h
   |some c=>rfl
  simp only[callFunc,Sem.run_bind,run_program,Result.andThen_ok,a,b,zC8,if_false,d,Sem.run_pure]
 .cases h
def qK(r:Rel P ρ H w){f:FuncId}{args:List gt}{x:cO}(h:jh P f args=ap x):jO P ρ H w (callFunc f (args.map ρ.val).toArray) x H:=by
 unfold jh at h;split at h
 .rename_i a;simp only[i5]at h;subst h;exact⟨ρ,w,St.refl r,uS a⟩
 .cases h
def w9(ρ:Ren):∀(ts:List Tmp)(vs:List gt)(e:RV),((ts.zip (vs.map ρ.val)).foldl (fun tmps (p:Tmp × gt)=>tmps.setIfInBounds p.1 p.2) (ρ.tmps e))=ρ.tmps (nM ts vs e)
 |[],vs,e=>by simp[nM]
 |t::ts,[],e=>by simp[nM]
 |t::ts,v::vs,e=>by simp only[zB9,List.zip_cons_cons,List.foldl_cons,nM,Eu];exact w9 ρ ts vs _
def pC(r:Rel P ρ H w){l:Nat}{a:Loop}{o:Bool}{e:RV}(h:H.get l=ap ⟨.loop a,o,e⟩) :
  ∃ fn,w.heap[ρ.blk l]?=ap (.loop {a with fn:=fn,tmps:=ρ.tmps e,defers:=ρ.blk a.defers}) /\
   (Instr.getLoop (ρ.blk l)).run P w=.ok {a with fn:=fn,tmps:=ρ.tmps e,defers:=ρ.blk a.defers} w:=by
 obtain⟨o',b,c⟩:=r.obj _ _ h;simp only[Fits]at c;obtain⟨fn,rfl⟩:=c;refine⟨fn,b,?_⟩;simp[Instr.getLoop,getObj,Sem.run,b]
def FZ(r:Rel P ρ H w){l:Nat}{args:List gt}{x:cO}(h:BR H l args=ap x):jO P ρ H w (Instr.yield (ρ.blk l) (args.map ρ.val).toArray) x H:=by
 unfold BR at h;split at h
 .rename_i d o e f;split at h
  .rename_i a;simp only[i5]at h;subst h;obtain⟨fn,i,b⟩:=pC r f;refine⟨ρ,w,St.refl r,fn,?_⟩;have g:=w9 ρ d.params.toList args e;have c:(args.map ρ.val).toArray.size=d.params.size:=by simpa using a
   simp only[Instr.yield,Sem.run_bind,b,Result.andThen_ok,c,ne_eq,not_true,if_false,Sem.run_pure];congr 2;rw[<-g,<-Array.foldl_toList];simp
  .cases h
 .cases h
def Br(r:Rel P ρ H w){t:ii}{v x:gt}{g:Bool}(h:y6 P H t v g=ap x)(c:Option String) :
  (receiverAt t (.val (ρ.val v)) g c).run P w=.ok (ρ.val x) w:=by
 unfold y6 at h;split at h
 .rename_i e f;simp only[i5]at h;subst h;simp[receiverAt,ay f,Place.get]
 .rename_i e a f;obtain⟨n,off,j⟩:=sG h;simp only[Value.pointer.injEq,i5]at j;subst j;have k:=th r h
  cases c with
  |none=>simp[receiverAt,ay f,Place.get,pM,asAddr,k]
  |some s =>have l:∀ b:Addr,(Builtin.ssaWrapNilChk_ #[t] t #[i9 (ap b),strVal "", strVal s]).run P w=.ok (i9 (ap b)) w:=fun _=>rfl;simp[receiverAt,ay f,Place.get,pM,asAddr,k,l]
 .cases h
 .rename_i d i f dK;simp only[i5]at h;subst h
  cases d<;>first
   |(exact absurd rfl (i _))
   |simp[receiverAt,ay f,Place.get]
 .cases h
def za(t:ii)(x:Place):(follow [] t x).run P w=.ok (t,x) w:=by simp[follow]
def E4(r:Rel P ρ H w){t:ii}{name:String}{f:FuncId}{a:Bool}{v x:gt}(h:CL P t name=ap (f,a))(hx:y6 P H t v a=ap x) :
  (method (P.types.size+Made.depth) t (ρ.val v) name).run P w=.ok (f,ρ.val x) w:=by
 obtain⟨k,c⟩:∃ k,P.types.size+Made.depth=k+1:=⟨P.types.size+(Made.depth-1),by
  have:0<Made.depth:=by decide
  omega⟩
 rw[c];unfold CL at h;split at h
 .rename_i i hi;split at h
  .rename_i m d;split at h
   .rename_i e;have b:m.path.toList=[]:=by simpa using e
    simp only[method,Sem.run_bind,jN hi,Result.andThen_ok,d,b,za,h,Br r hx,Sem.run_pure]
   .cases h
  .cases h
 .cases h
def lI(r:Rel P ρ H w){fn:Fn}{args a:List gt}{x:cO}(h:fF P H fn args a=ap x) :
  jO P ρ H w (invoke (.fn (ρ.fn fn) (a.map ρ.val).toArray) (args.map ρ.val).toArray) x H:=by
 unfold fF at h;split at h
 .rename_i f args;have:=qK r h;simpa[invoke,Ren.fn]using this
 .rename_i l args;have:=FZ r h;simpa[invoke,Ren.fn]using this
 .rename_i name t v rest;simp only[zA1,zA2]at h;obtain⟨⟨f,e⟩,hm,y,g,h⟩:=h;obtain⟨b,w1,c,i⟩:=qK r h;refine⟨b,w1,c,?_⟩;have j:=E4 r hm g;have k:((Value.iface t v::rest).map ρ.val).toArray[0]?=ap (.iface t (ρ.val v)):=by simp[Ren.val]
  have m:((Value.iface t v::rest).map ρ.val).toArray.extract 1 ((Value.iface t v::rest).map ρ.val).toArray.size=(rest.map ρ.val).toArray:=by apply Array.ext';simp;exact zC3 lw
  have n:#[ρ.val y]++(rest.map ρ.val).toArray=((y::rest).map ρ.val).toArray:=by apply Array.ext';simp
  simp only[invoke,Ren.fn,k,m,callMethod,Sem.run_bind,run_program,Result.andThen_ok,j,n];exact i
 .rename_i t d f e v rest;split at h
  .rename_i p;have o:d.toList=[]:=by simpa using p
   simp only[zA1,zA2]at h;obtain⟨y,g,h⟩:=h;obtain⟨b,w1,c,i⟩:=qK r h;refine⟨b,w1,c,?_⟩;have k:((v::rest).map ρ.val).toArray[0]?=ap (ρ.val v):=by simp
   have m:((v::rest).map ρ.val).toArray.extract 1 ((v::rest).map ρ.val).toArray.size=(rest.map ρ.val).toArray:=by apply Array.ext';simp;exact zC3 lw
   have n:#[ρ.val y]++(rest.map ρ.val).toArray=((y::rest).map ρ.val).toArray:=by apply Array.ext';simp
   simp only[invoke,Ren.fn,k,m,receiverVia,o,Sem.run_bind,za,Result.andThen_ok,Br r g,n];exact i
  .cases h
 .cases h
def JI(r:Rel P ρ H w){f:gt}{args:List gt}{x:cO}{H1:aa}(h:qw P H f args=ap (x,H1)) :
  jO P ρ H w (do let d <-Deferred.ofValue (ρ.val f) (args.map ρ.val).toArray; invoke d.target d.args) x H1:=by
 unfold qw at h;split at h
 .rename_i fn first a
  simp only[zB5,i6]at h;obtain⟨y,e,rfl,rfl⟩:=h;obtain⟨b,w1,c,g⟩:=lI r e;refine⟨b,w1,c,?_⟩;have i:ρ.val (.func fn first a)=.func (ρ.fn fn) (first.map ρ.val) (a.map ρ.val):=by rw[Ren.val,Ren.dO,Ren.dO]
  have j:first.map ρ.val++(args.map ρ.val).toArray=((first.toList++args).map ρ.val).toArray:=by apply Array.ext'; simp
  have k:a.map ρ.val=(a.toList.map ρ.val).toArray:=by apply Array.ext'; simp
  rw[i];simp only[Deferred.ofValue,Sem.run_bind,Sem.run_pure,Result.andThen_ok,j,k];exact g
 .cases h
def ED(r:Rel P ρ H w){f:gt}{args:List gt}{x:cO}{H1:aa}(h:vK P H f args=ap (x,H1)) :
  jO P ρ H w (do let d <-Deferred.ofValue (ρ.val f) (args.map ρ.val).toArray; invoke d.target d.args) x H1:=by
 have a:∀ {g:FuncId},nH P H g args=ap (x,H1)->jO P ρ H w (do let d <-Deferred.ofValue (ρ.val (.func (.func g) #[] #[])) (args.map ρ.val).toArray; invoke d.target d.args) x H1:=by
  intro g j;have:=D3 r j;have b:ρ.val (.func (.func g) #[] #[])=.func (.func g) #[] #[]:=by simp[Ren.val,Ren.fn,Ren.eC,Ren.gI]
  rw[b];obtain⟨c,w1,e,k⟩:=this;refine⟨c,w1,e,?_⟩;simp only[Deferred.ofValue,Sem.run_bind,Sem.run_pure,Result.andThen_ok,invoke];simpa using k
 unfold vK at h;split at h
 .rename_i g;split at h
  .rename_i l;split at h
   .rename_i v m;split at h
    .rename_i i;simp only[i5,i6]at h;obtain⟨rfl,rfl⟩:=h;refine⟨ρ,w,St.refl r,?_⟩;have b:(args.map ρ.val)=args:=by rw[<-Ren.nj]; exact Cq ρ args l
     rw[b];have n:=tv _ m w;simp only[gu,Ren.val,Ren.fn,Ren.eC,Ren.gI,Deferred.ofValue,Sem.run_bind,Sem.run_pure,Result.andThen_ok,invoke,di ρ v i];simpa using n
    .cases h
   .exact a h
  .exact a h
 .cases h
def Jx(r:Rel P ρ H w){a:ai}{c:Call}{ty:ii}{x:cO}{H1:aa}(h:lx c P a H=ap (x,H1)) :
  jO P ρ H w (do let d <-resolve (ρ.act a).eval c ty; invoke d.target d.args) x H1:=by
 simp only[lx,zA1,zA2]at h;obtain⟨args,e,h⟩:=h;have l:c.args.map (ρ.act a).eval=(args.map ρ.val).toArray:=by apply Array.ext';rw[Array.toList_map];exact kH r e
 split at h
 .rename_i b k;simp only[tN,zB5,i6]at h;obtain⟨⟨v,u⟩,hv,rfl,rfl⟩:=h;obtain⟨g,w1,i,m⟩:=BY (ty:=ty) (cs:=c.args.map fun|.const _=>bv|_=>gc) r hv;refine⟨g,w1,i,?_⟩;simp only[resolve,k,Sem.run_bind,Sem.run_pure,Result.andThen_ok,invoke,l];exact m
 .rename_i q name k;simp only[zA2,zB5,i6]at h;obtain⟨rv,n,y,o,rfl,rfl⟩:=h;obtain⟨g,w1,i,m⟩:=lI r o;refine⟨g,w1,i,?_⟩;have s:#[ρ.val rv]++(args.map ρ.val).toArray=((rv::args).map ρ.val).toArray:=by apply Array.ext'; simp
  simp only[resolve,k,Sem.run_bind,Sem.run_pure,Result.andThen_ok,l,aJ r n,s];simpa[Ren.fn]using m
 .rename_i f k;simp only[zA2]at h;obtain⟨t,p,h⟩:=h
  have j:jO P ρ H w (do let d <-Deferred.ofValue (ρ.val t) (args.map ρ.val).toArray; invoke d.target d.args) x H1:=by
   split at h
   .rename_i y o;simp only[i5]at h;subst h;exact JI r o
   .exact ED r h
  simp only[resolve,k,l,aJ r p];exact j
def Lr{s:Sem Unit}{w1:ip}(h:s.run P w=.ok () w1):(do s; pure Next.skip:Sem Next).run P w=.ok .skip w1:=by simp[h]
def Ns(r:Rel P ρ H w){v:gt}{x:cO}{H1:aa}(h:zA P H v=ap (x,H1)){o:Oper}{y:i4}{e:i4->gt}(g:e y=ρ.val v)(i:o.op=.nilCheck y) :
  jO P ρ H w (execOp e o) x H1:=by
 have c:∀(α:Type),(runtimePanic .nilDeref:Sem α).run P w=.halt (.panic (jz P)) w:=fun α=>rfl;have d:ρ.val (jz P)=jz P:=di ρ _ rfl;unfold zA at h;split at h
 .simp only[i5,i6]at h;obtain⟨rfl,rfl⟩:=h;refine⟨ρ,w,St.refl r,?_⟩;simp only[gu,execOp,i,g,Ren.val,d];exact c _
 .simp only[i5,i6]at h;obtain⟨rfl,rfl⟩:=h;refine⟨ρ,w,St.refl r,?_⟩;simp only[gu,execOp,i,g,Ren.val,d];exact c _
 .simp only[i5,i6]at h;obtain⟨rfl,rfl⟩:=h;refine⟨ρ,w,St.refl r,?_⟩;simp only[gu,execOp,i,g,Ren.val,d];exact c _
 .cases h
 .cases h
 .rename_i j k l m p;simp only[i5,i6]at h;obtain⟨rfl,rfl⟩:=h;refine⟨ρ,w,St.refl r,?_⟩;simp only[gu,execOp,i,g]
  cases v with
  |pointer a=>cases a with
   |none=>exact absurd rfl j
   |some a=>simp[Ren.val]
  |nilIface=>exact absurd rfl k
  |nilFunc=>exact absurd rfl l
  |func f a b =>
   cases f with
   |method n=>exact absurd rfl (m _ _ _)
   |_=>simp[Ren.val,Ren.fn]
  |slice a _ _=>cases a<;>simp[Ren.val]
  |map a=>cases a<;>simp[Ren.val]
  |chan a=>exact absurd rfl (p a)
  |_=>simp[Ren.val]
def sj(r:Rel P ρ H w){a:ai}{o:Oper}{x:cO}{H1:aa}(h:cj o.op P a H=ap (x,H1)):jO P ρ H w (execOp (ρ.act a).eval o) x H1/\∀ c,o.op≠.defer c:=by
 obtain⟨dst,I,ty,U,after,guard⟩:=o;simp only at h
 cases I with
 |move y =>simp only[cj,qo,rv,zB5,i6]at h;obtain⟨v,j,rfl,rfl⟩:=h;exact⟨⟨ρ,w,St.refl r,by simp[gu,execOp,aJ r j]⟩,fun c=>by simp⟩
 |assign y =>simp only[cj,qo,rv,zB5,i6]at h;obtain⟨v,j,rfl,rfl⟩:=h;exact⟨⟨ρ,w,St.refl r,by simp[gu,execOp,aJ r j]⟩,fun c=>by simp⟩
 |pick c y z =>
  simp only[cj,Be,zA1,zA2]at h;obtain⟨b,T,h⟩:=h;split at h
  .simp only[rv,zB5,i6]at h;obtain⟨v,j,rfl,rfl⟩:=h;exact⟨⟨ρ,w,St.refl r,by simp[gu,execOp,aJ r j,aJ r T,Ren.val,asBool]⟩,fun c=>by simp⟩
  .simp only[rv,zB5,i6]at h;obtain⟨v,j,rfl,rfl⟩:=h;exact⟨⟨ρ,w,St.refl r,by simp[gu,execOp,aJ r j,aJ r T,Ren.val,asBool]⟩,fun c=>by simp⟩
  .cases h
 |alloc t =>simp only[cj,xk,zu,zA1,zA2,i5,i6]at h;obtain⟨z,J,g,E,rfl,rfl⟩:=h;obtain⟨K,L⟩:=dS (w:=w) J;refine⟨⟨_,_,pE r E,?_⟩,fun c=>by simp⟩;simp only[gu,execOp,Instr.alloc,Sem.run_bind,K,Result.andThen_ok,newVar,newRow,run_newObj,Sem.run_pure,IE,sD ρ L];rfl
 |box t y =>
  simp only[cj,xB,zu,zA1,zA2,i5,i6]at h;obtain⟨z,J,g,E,rfl,rfl⟩:=h;refine⟨⟨_,_,pE r E,?_⟩,fun c=>by simp⟩;have M:(ρ.val z).cells=(z.cells.toList.map ρ.val).toArray:=by rw[Ren.mM]; apply Array.ext'; simp
  simp only[gu,execOp,Instr.box,Sem.run_bind,aJ r J,Result.andThen_ok,newVar,newRow,run_newObj,Sem.run_pure,IE,M];rfl
 |build t N =>
  simp only[cj,tA,rv,zA1,zA2,zB5,i6]at h;obtain⟨vs,C,v,j,rfl,rfl⟩:=h;have e:(N.map fun (p:Nat × i4)=>(p.1,(ρ.act a).eval p.2))=(vs.map fun p=>(p.1,ρ.val p.2)).toArray:=by apply Array.ext';rw[Array.toList_map];exact tO r C
  refine⟨?_,fun c=>by simp⟩;simp only[execOp,e];exact jO.val r (F4 j)
 |buildSlice t n N =>
  simp only[cj,iA,tN,zA1,zA2,zB5,i6]at h;obtain⟨vs,C,⟨v,D⟩,j,rfl,rfl⟩:=h;have e:(N.map fun (p:Nat × i4)=>(p.1,(ρ.act a).eval p.2))=(vs.map fun p=>(p.1,ρ.val p.2)).toArray:=by apply Array.ext';rw[Array.toList_map];exact tO r C
  refine⟨?_,fun c=>by simp⟩;simp only[execOp,e];exact jO.JQ (vG r j)
 |load t y =>simp only[cj,Fb,rv,zA1,zA2,zB5,i6]at h;obtain⟨p,e,v,j,rfl,rfl⟩:=h;refine⟨?_,fun c=>by simp⟩;simp only[execOp,aJ r e];exact jO.val r (JV r j)
 |store t y z =>simp only[cj,zj,Mi,zA1,zA2,zB5,i6]at h;obtain⟨p,e,q,u,g,E,rfl,rfl⟩:=h;obtain⟨w1,A,F⟩:=GI r E;refine⟨⟨ρ,w1,A,?_⟩,fun c=>by simp⟩;simp only[gu,execOp,aJ r e,aJ r u];exact Lr F
 |nilCheck y =>simp only[cj,JB,zA1,zA2]at h;obtain⟨v,j,h⟩:=h;exact⟨Ns r h (aJ r j) rfl,fun c=>by simp⟩
 |binOp I t y z Y =>simp only[cj,BM,zA1,zA2]at h;obtain⟨p,e,q,u,h⟩:=h;refine⟨?_,fun c=>by simp⟩;simp only[execOp,aJ r e,aJ r u];exact jO.of (KV r h)
 |unOp I t y =>simp only[cj,QZ,zA1,zA2]at h;obtain⟨p,e,h⟩:=h;refine⟨?_,fun c=>by simp⟩;simp only[execOp,aJ r e];exact jO.of (O8 r h)
 |makeInterface t y =>
  simp only[cj,Ci,zA1,zA2]at h;obtain⟨p,e,h⟩:=h;unfold wP at h;split at h
  .cases h
  .rename_i d dK O;simp only[i5,i6]at h;obtain⟨rfl,rfl⟩:=h;refine⟨?_,fun c=>by simp⟩;simp only[execOp,aJ r e];refine jO.val r ?_
   cases d<;>first
    |(exact absurd rfl (dK _))
    |simp[Instr.makeInterface,ay O,Ren.val]
  .cases h
 |makeFunc fn first B =>
  simp only[cj,Du,zA1,zA2]at h;obtain⟨p,e,q,u,h⟩:=h;have V:first.map (ρ.act a).eval=(p.map ρ.val).toArray:=by apply Array.ext'; rw[Array.toList_map]; exact kH r e
  have W:B.map (ρ.act a).eval=(q.map ρ.val).toArray:=by apply Array.ext'; rw[Array.toList_map]; exact kH r u
  refine⟨?_,fun c=>by simp⟩;unfold A9 at h;split at h
  .cases h
  .rename_i dK;simp only[i5,i6]at h;obtain⟨rfl,rfl⟩:=h;simp only[execOp,V,W];refine jO.val r ?_
   cases fn<;>first
    |(exact absurd rfl (dK _))
    |simp[Instr.makeFunc,Ren.val,Ren.fn,Ren.eC,Ren.nj]
 |makeSlice t l c =>simp only[cj,kA,tN,zA1,zA2,zB5,i6]at h;obtain⟨p,e,q,u,⟨v,D⟩,j,rfl,rfl⟩:=h;refine⟨?_,fun c=>by simp⟩;simp only[execOp,aJ r e,aJ r u];exact jO.JQ (xq r j)
 |slice t y lo hi Z =>simp only[cj,wZ,tN,zA1,zA2,zB5,i6]at h;obtain⟨p,e,l,hl,hh,hhh,m,M,⟨v,D⟩,j,rfl,rfl⟩:=h;refine⟨?_,fun c=>by simp⟩;simp only[execOp,aJ r e,o7 r hl,o7 r hhh,o7 r M];exact jO.JQ (FH r j)
 |fieldAddr t y f =>simp only[cj,jo,rv,zA1,zA2,zB5,i6]at h;obtain⟨p,e,v,j,rfl,rfl⟩:=h;refine⟨?_,fun c=>by simp⟩;simp only[execOp,aJ r e];exact jO.val r (yx j)
 |field t y f =>simp only[cj,CC,rv,zA1,zA2,zB5,i6]at h;obtain⟨p,e,v,j,rfl,rfl⟩:=h;refine⟨?_,fun c=>by simp⟩;simp only[execOp,aJ r e];exact jO.val r (Fm j)
 |indexAddr t y i =>simp only[cj,iY,rv,zA1,zA2,zB5,i6]at h;obtain⟨p,e,q,u,v,j,rfl,rfl⟩:=h;refine⟨?_,fun c=>by simp⟩;simp only[execOp,aJ r e,aJ r u];exact jO.val r (xN j)
 |index t y i =>simp only[cj,tJ,zA1,zA2]at h;obtain⟨p,e,q,u,h⟩:=h;refine⟨?_,fun c=>by simp⟩;simp only[execOp,aJ r e,aJ r u];exact jO.of (Gu r h)
 |typeAssert y xt t ok =>simp only[cj,lF,rv,zA1,zA2,zB5,i6]at h;obtain⟨p,e,v,j,rfl,rfl⟩:=h;refine⟨?_,fun c=>by simp⟩;simp only[execOp,aJ r e];exact jO.val r (vH j)
 |extract y i =>
  simp only[cj,mq,zA1,zA2]at h;obtain⟨p,e,h⟩:=h;unfold ku at h;split at h
  .rename_i vs;simp only[rv,zB5,i6]at h;obtain⟨v,j,rfl,rfl⟩:=h;refine⟨?_,fun c=>by simp⟩;simp only[execOp,aJ r e];refine jO.val r ?_;have Q:vs[i]?=ap v:=by simpa using j
   simp[Ren.val,Ren.dO,Instr.extract,Q]
  .cases h
 |call c =>simp only[cj]at h;exact⟨by simp only[execOp]; exact Jx r h,fun c=>by simp⟩
 |panic y =>
  simp only[cj,Fo,zA1,zA2]at h;obtain⟨p,e,h⟩:=h;unfold GV at h;split at h
  .simp only[i5,i6]at h;obtain⟨rfl,rfl⟩:=h;refine⟨⟨ρ,w,St.refl r,?_⟩,fun c=>by simp⟩;simp[gu,execOp,aJ r e,Ren.val,Instr.panic]
  .cases h
 |convert s d y =>simp only[cj,og,tN,zA1,zA2,zB5,i6]at h;obtain⟨p,e,⟨v,D⟩,j,rfl,rfl⟩:=h;refine⟨?_,fun c=>by simp⟩;simp only[execOp,aJ r e];exact jO.JQ (B8 r j)
 |makeMap t m =>
  refine⟨?_,fun c=>by simp⟩;simp only[cj,rD]at h
  cases m with
  |none =>simp only[qY,i5,i6]at h;obtain⟨rfl,rfl⟩:=h;exact jO.JQ (yO r)
  |some y =>
   simp only[zA1,zA2]at h;obtain⟨d,O,h⟩:=h;split at h
   .rename_i X elem;simp only[zA2]at h;obtain⟨q,u,h⟩:=h;split at h
    .rename_i n;simp only[qY,i5,i6]at h;obtain⟨rfl,rfl⟩:=h;obtain⟨R,w1,A,G⟩:=yO r;refine jO.JQ ⟨R,w1,A,?_⟩;rw[<-G];simp[Instr.makeMap,aJ r u,ay O,Ren.val,asInt,asIntOf]
    .cases h
   .cases h
 |lookup t y k ok =>simp only[cj,vO,rv,zA1,zA2,zB5,i6]at h;obtain⟨p,e,q,u,v,j,rfl,rfl⟩:=h;refine⟨?_,fun c=>by simp⟩;simp only[execOp,aJ r e,aJ r u];exact jO.val r (E8 r j)
 |mapUpdate t m k y =>simp only[cj,ij,Mi,zA1,zA2,zB5,i6]at h;obtain⟨p,e,q,u,s,S,D,j,rfl,rfl⟩:=h;refine⟨?_,fun c=>by simp⟩;obtain⟨w1,A,G⟩:=oL r j;exact⟨ρ,w1,A,by simp[gu,execOp,aJ r e,aJ r u,aJ r S,G]⟩
 |insert t m k y =>simp only[cj,ij,Mi,zA1,zA2,zB5,i6]at h;obtain⟨p,e,q,u,s,S,D,j,rfl,rfl⟩:=h;refine⟨?_,fun c=>by simp⟩;obtain⟨w1,A,G⟩:=oL r j;exact⟨ρ,w1,A,by simp[gu,execOp,aJ r e,aJ r u,aJ r S,G]⟩
 |range t y =>simp only[cj,BA,tN,zA1,zA2,zB5,i6]at h;obtain⟨p,e,⟨v,D⟩,j,rfl,rfl⟩:=h;refine⟨?_,fun c=>by simp⟩;simp only[execOp,aJ r e];exact jO.JQ (Gs r j)
 |next y s =>simp only[cj,Iy,tN,zA1,zA2,zB5,i6]at h;obtain⟨p,e,⟨v,D⟩,j,rfl,rfl⟩:=h;refine⟨?_,fun c=>by simp⟩;simp only[execOp,aJ r e];exact jO.JQ (KC r j)
 |_=>simp[cj,Df]at h
end
def Pu(N:Nat)(d:Deferred):Prop :=
 (∃ r,d=⟨.collected r,#[]⟩/\r<N)\/∃ f cap a,d=⟨.fn (.func f) cap,a⟩/\eU N cap=bv/\eU N a=bv
def Pu.mono{N M:Nat}{d:Deferred}(h:Pu N d)(a:N<=M):Pu M d:=by
 rcases h with⟨r,e,i⟩|⟨f,cap,b,e,c,g⟩
 .exact .inl ⟨r,e,by omega⟩
 .exact .inr ⟨f,cap,b,e,iC a _ c,iC a _ g⟩
def sn{N:Nat}{ρ a:Ren}(e:Ext N ρ a){d:Deferred}(h:Pu N d):a.sd d=ρ.sd d:=by
 rcases h with⟨r,rfl,b⟩|⟨f,cap,c,rfl,g,i⟩
 .simp[Ren.sd,e.blk r b]
 .simp[Ren.sd,Ren.fn,jM e _ g,jM e _ i]
def iO(N:Nat)(a:ai):Prop:=(∀ i,i<a.env.n->aV N (a.env.get i)=bv)/\∀ d∈a.defers,Pu N d
def iO.mono{N M:Nat}{a:ai}(h:iO N a)(b:N<=M):iO M a :=
 ⟨fun i hi=>cS b _ (h.1 i hi),fun d c=>(h.2 d c).mono b⟩
def fO{N:Nat}{ρ b:Ren}(e:Ext N ρ b){a:ai}(h:iO N a):b.act a=ρ.act a:=by unfold Ren.act;rw[Ren.rq e _ h.1];congr 1;apply List.map_congr_left;intro d c;exact sn e (h.2 d c)
def iO.put{N:Nat}{a:ai}(h:iO N a)(dst:Option Tmp){v:gt}(b:aV N v=bv):iO N (a.put dst v):=by
 cases dst with
 |none=>exact h
 |some d =>
  simp only[ai.put_eq];split
  .refine⟨fun i hi=>?_,h.2⟩;simp only[RV.n_set]at hi;simp only[RV.rJ];split
   .exact b
   .exact h.1 i hi
  .exact h
def cD{P:io}{N:Nat}{a:ai}(d:P.globals.size<=N)(e:iO N a){x:i4}{v:gt}(h:aP P a x=ap v):aV N v=true:=by
 cases x with
 |tmp t =>
  simp only[aP,i5]at h;subst h;unfold ai.tmp;split
  .rename_i b; exact e.1 t (bO b)
  .exact eG N
 |const c =>
  simp only[aP]at h;split at h
  .rename_i i;simp only[i5]at h;subst h;exact fB _ i
  .cases h
 |global g =>
  simp only[aP]at h;split at h
  .rename_i b;simp only[i5]at h;subst h;exact bx (zD1 (bO b) d)
  .cases h
 |func f=>simp only[aP,i5]at h; subst h; simp[aV,eU,aX]
def l7{P:io}{N:Nat}{a:ai}(b:P.globals.size<=N)(c:iO N a):∀ {xs:List i4} {vs:List gt},eR P a xs=ap vs->aX N vs=bv
 |[],vs,h=>by simp only[eR,i5]at h; subst h; rfl
 |x::xs,vs,h=>by simp only[eR,zA1,zA2,i5]at h;obtain⟨v,d,f,e,rfl⟩:=h;rw[aX,cD b c d,l7 b c e]; rfl
def eI{N:Nat}{a b:List gt}(c:aX N a=bv)(d:aX N b=bv):aX N (a++b)=bv :=
 cx.2 fun v e=>(zB4.1 e).elim (cx.1 c v) (cx.1 d v)
end Go.Ax
