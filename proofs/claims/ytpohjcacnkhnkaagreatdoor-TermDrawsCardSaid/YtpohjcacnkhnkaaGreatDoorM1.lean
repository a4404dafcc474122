/- Parts of the proof, one behind the other. -/
import Derived.RangeFuncLeaves
import Derived.OrdersIn
import Derived.RecoverIn
import Derived.Laws.World
import Derived.Laws.Sem
import Derived.Lib.UnsafeStr
import Derived.Lib.MakeNoZero
import Derived.Laws.Externs
set_option linter.all false
set_option maxRecDepth 10000
set_option maxHeartbeats 16000000
open Option renaming some->a9,none->bi
open Bool renaming true->bv,false->ci
open Decidable renaming decide->f7
open Go renaming Value->go,TypeId->io,Program->ip,World->i6,Operand->i7
open Option.some renaming injEq->i8
open Prod.mk renaming injEq->i9
open Go.Value renaming int->jp,pointer->li,slice->lm,bool->ls
open Go.IntKind renaming i64->kw
theorem Go.ac{α:Sort _}(a:α):∃x,a=x:=⟨a,rfl⟩
theorem Go.lw{p:Prop}(h:p:=by omega):p:=h
theorem Go.m9{p:Prop}(h:p:=by kernel_rfl):p:=h
theorem Go.nl{p:Prop}(h:p:=by simp):p:=h
theorem Go.ol{p:Prop}(h:p:=by decide):p:=h
theorem Go.pi{p:Prop}(h:p:=by simp[Rp.aM]):p:=h
theorem Go.pm{p:Prop}(h:p:=by simp[ae]):p:=h
theorem Go.pp{p:Prop}(h:p:=by simp; omega):p:=h
theorem Go.py{p:Prop}(h:p:=by simp[h]):p:=h
theorem Go.qr{p:Prop}(h:p:=by simp[cL]):p:=h
theorem Go.rc{p:Prop}(h:p:=by simp[bound]):p:=h
theorem Go.rx{p:Prop}(h:p:=by simp only[aF]; rfl):p:=h
theorem Go.sm{p:Prop}(h:p:=by simp only[small,zA6,zE8]; omega):p:=h
theorem Go.t6{p:Prop}(h:p:=by simp only[zA5]; omega):p:=h
open And renaming intro -> zA0
open Option renaming bind_eq_bind -> zA1, bind_eq_some_iff -> zA2, bind_some -> zA3, map_some -> zB2, map_eq_some_iff -> zB5, getD_some -> zH9
open Nat renaming le_refl -> zA4, le_of_ble_eq_true -> zA7, zero_le -> zB7, lt_or_ge -> zC0, zero_add -> zC2, le_trans -> zC4, add_zero -> zD5, lt_of_lt_of_le -> zE0, ble_eq -> zE8, mul_one -> zF0, lt_succ_self -> zF3, le_of_eq -> zF6, min -> zF9, add_sub_cancel_left -> zG2, sub_self -> zG8, min_eq_left -> zH0, zero_mul -> zH1
open List renaming mem_singleton -> zA5, mem_cons -> zA8, length_cons -> zA9, getElem?_eq_getElem -> zB0, mem_append -> zB1, length_append -> zB3, length_nil -> zB4, nil_append -> zB6, map_cons -> zB8, mem_cons_of_mem -> zB9, mem_map -> zC1, all_eq_true -> zC3, mem_of_getElem? -> zC5, length_drop -> zC6, append_nil -> zC7, append_assoc -> zC8, getD_eq_getElem?_getD -> zC9, drop_zero -> zD0, getElem?_eq_none -> zD3, take_of_length_le -> zD4, nodup_cons -> zD6, not_mem_nil -> zD7, length_take -> zD9, length_map -> zE1, mem_of_mem_take -> zE2, cons_append -> zE3, mem_of_mem_drop -> zE4, eq_nil_of_length_eq_zero -> zE5, nodup_append -> zE6, map_nil -> zE7, drop_eq_nil_of_le -> zE9, length_replicate -> zF1, mem_cons_self -> zF2, getElem?_eq_some_iff -> zF5, mem_range -> zF7, mem_append_left -> zF8, getElem?_map -> zG0, getElem?_cons_zero -> zG1, mem_flatMap -> zG3, take_add_one -> zG4, getElem?_append_right -> zG5, mem_append_right -> zG6, take_append_drop -> zG9, take_length -> zH2, drop_drop -> zH3, drop_eq_getElem_cons -> zH4, eq_of_mem_replicate -> zH6, getElem?_cons_succ -> zH8, length_singleton -> zI0
open Bool renaming and_eq_true -> zA6, not_true -> zD1, false_eq_true -> zD2, and_self -> zD8, not_false -> zF4, or_eq_true -> zH5, or_false -> zH7
open Int renaming toNat_natCast -> zG7
namespace Go.Ax
def bC{α:Sort _}(a:α):∃ x,a=x:=⟨a,rfl⟩
def gN{α:Type}(d:α):List α->Nat->α->List α
 |[],0,v=>[v]
 |[],i+1,v=>d::gN d [] i v
 |_::r,0,v=>v::r
 |x::r,i+1,v=>x::gN d r i v
structure RV where
 t:List (List go)
 n:Nat
def RV.get(v:RV)(i:Nat):Value:=(v.t.getD (i / 16) []).getD (i % 16) undef
def RV.set(v:RV)(i:Nat)(x:go):RV :=
 match v with
 |⟨t,n⟩=>⟨gN [] t (i / 16) (gN undef (t.getD (i / 16) []) (i % 16) x),n⟩
def RV.ky(v:RV)(i:Nat):Nat->List go
 |0=>[]
 |k+1=>v.get i::RV.ky v (i+1) k
def RV.fZ(v:RV)(i:Nat):List go->RV
 |[]=>v
 |x::r=>RV.fZ (v.set i x) (i+1) r
def QT{α:Type}(n:Nat)(k:Nat->α):α :=
 match n+1 with
 |0=>k 0
 |m+1=>k m
def RV.ofList(l:List go):RV:=QT l.length fun n=>match RV.fZ ⟨[],0⟩ 0 l with
 |⟨t,_⟩=>⟨t,n⟩
structure dO where
 obj:Obj
 opn:Bool
 rv:RV
structure aa where
 root:List (List (List (Option dO)))
 next:Nat
 base:Nat
 dirty:List Nat
def aa.get(h:aa)(n:Nat):Option dO :=
 ((h.root.getD (n / 256) []).getD (n / 16 % 16) []).getD (n % 16) bi
def fh(a:List (List (List (Option dO))))(n:Nat)(o:Option dO):List (List (List (Option dO))) :=
 gN [] a (n / 256) (gN [] (a.getD (n / 256) []) (n / 16 % 16) (gN bi ((a.getD (n / 256) []).getD (n / 16 % 16) []) (n % 16) o))
def aa.put(h:aa)(n:Nat)(o:Option dO):aa :=
 match h with
 |⟨r,k,b,d⟩=>⟨fh r n o,k,b,d⟩
def aa.cH(h:aa)(n:Nat)(o:Option dO):aa :=
 match h with
 |⟨r,k,b,d⟩=>⟨fh r n o,k,b,if Nat.blt n b then n::d else d⟩
theorem aa.eT(h:aa)(n:Nat)(o:Option dO):h.cH n o=⟨fh h.root n o,h.next,h.base,if Nat.blt n h.base then n::h.dirty else h.dirty⟩:=rfl
theorem aa.put_eq(h:aa)(n:Nat)(o:Option dO):h.put n o=⟨fh h.root n o,h.next,h.base,h.dirty⟩:=rfl
def aa.new(h:aa)(o:dO):aa :=
 match h with
 |⟨r,k,b,d⟩=>QT (k+1) fun a=>⟨fh r k (a9 o),a,b,d⟩
mutual
def af:go->Bool
 |li (a9 _)=>ci
 |lm (a9 _) _ _=>ci
 |.map (a9 _)=>ci
 |.chan (a9 _)=>ci
 |.func (.yield _) _ _=>ci
 |.func _ a b=>Oc a&&Oc b
 |.iface _ v=>af v
 |.agg cs=>Oc cs
 |.tuple cs=>Oc cs
 |_=>bv
def Oc:Array go->Bool
 |⟨l⟩=>DO l
def DO:List go->Bool
 |[]=>bv
 |v::r=>af v&&DO r
end
mutual
def aV(N:Nat):go->Bool
 |li (a9 a)=>Nat.blt a.block N
 |lm (a9 a) _ _=>Nat.blt a.block N
 |.map (a9 r)=>Nat.blt r N
 |.chan (a9 k)=>Nat.blt k N
 |.func (.yield l) a b=>Nat.blt l N&&fL N a&&fL N b
 |.func _ a b=>fL N a&&fL N b
 |.iface _ v=>aV N v
 |.agg cs=>fL N cs
 |.tuple cs=>fL N cs
 |_=>bv
def fL(N:Nat):Array go->Bool
 |⟨l⟩=>aT N l
def aT(N:Nat):List go->Bool
 |[]=>bv
 |v::r=>aV N v&&aT N r
end
def du{α:Type}(P:ip):Sem α->Option α
 |.pure a=>a9 a
 |.program k=>du P (k P)
 |.mark _ k=>du P k
 |_=>bi
def qE{α:Type}(P:ip):Sem α->Option go
 |.halt (.panic v)=>a9 v
 |.program k=>qE P (k P)
 |.mark _ k=>qE P k
 |_=>bi
theorem aa.oK(h:aa)(o:dO):h.new o=⟨fh h.root h.next (a9 o),h.next+1,h.base,h.dirty⟩:=rfl
theorem RV.I8(v:RV)(i:Nat)(x:go):v.set i x={v with t:=gN [] v.t (i / 16) (gN undef (v.t.getD (i / 16) []) (i % 16) x)}:=rfl
theorem RV.ofList_eq(l:List go):RV.ofList l={RV.fZ ⟨[],0⟩ 0 l with n:=l.length}:=rfl
structure ah where
 env:RV
 defers:List Deferred
def ah.put(a:ah)(dst:Option Tmp)(v:go):ah :=
 match dst with
 |some d=>(match a with
  |⟨⟨t,n⟩,b⟩=>if Nat.blt d n then⟨RV.set ⟨t,n⟩ d v,b⟩ else⟨⟨t,n⟩,b⟩)
 |none=>a
def ah.put_eq(a:ah)(dst:Option Tmp)(v:go):a.put dst v=match dst with
 |some d=>if Nat.blt d a.env.n then {a with env:=a.env.set d v} else a
 |none=>a:=by
 cases dst with
 |none=>rfl
 |some d=>rfl
def ah.tmp(a:ah)(t:Nat):Value:=if Nat.blt t a.env.n then a.env.get t else undef
def aO(P:ip)(a:ah):i7->Option go
 |.tmp t=>a9 (a.tmp t)
 |.const v=>if af v then a9 v else bi
 |.global g=>if Nat.blt g P.globals.size then a9 (li (a9 ⟨g,0,bi⟩)) else bi
 |.func f=>a9 (.func (.func f) #[] #[])
def fJ(P:ip)(a:ah):List i7->Option (List go)
 |[]=>a9 []
 |x::r=>do
  let v <-aO P a x
  let vs <-fJ P a r
  a9 (v::vs)
def br(P:ip)(t:io):Option Nat:=(P.info? t).map (·.size)
def bytesOf(P:ip)(t:io):Option Nat:=(P.info? t).map (·.bytes)
def zeroOf(P:ip)(t:io):Option go :=
 match P.info? t with
 |some i=>(match i.zero with
  |some v=>if af v then a9 v else bi
  |none=>bi)
 |none=>bi
def fj(P:ip)(t:io):Option Bool :=
 match P.underlying t with
 |some (.struct _)=>a9 bv
 |some (.array _ _)=>a9 bv
 |some _=>a9 ci
 |none=>bi
def Wu:go->Bool
 |.agg _=>ci
 |.tuple _=>ci
 |.bool _=>ci
 |_=>bv
def one:go->Bool
 |.agg _=>ci
 |.tuple _=>ci
 |_=>bv
def bO(H:aa)(n:Nat):Option (RV × io × Bool) :=
 match H.get n with
 |some ⟨.cells _ e (0,_),o,v⟩=>a9 (v,e,o)
 |_=>bi
def aP(H:aa)(n:Nat):Option (RV × io × Bool) :=
 match H.get n with
 |some ⟨.cells _ e _,o,v⟩=>a9 (v,e,o)
 |_=>bi
def ib(P:ip)(H:aa)(t:io)(v:go):Option go :=
 match v with
 |li (a9 ⟨n,off,bi⟩)=>do
  let (c,_,_) <-aP H n
  match <-fj P t with
  |true=>do
   let sz <-br P t
   if Nat.ble (off+sz) c.n then a9 (.agg ⟨c.ky off sz⟩) else bi
  |false=>if Nat.blt off c.n then a9 (c.get off) else bi
 |_=>bi
def dT(H:aa)(n off:Nat)(vs:List go):Option aa:=do
 let (c,e,o) <-bO H n
 if Nat.ble (off+vs.length) c.n&&vs.all one&&aT H.next vs then
  a9 (H.cH n (a9 ⟨.cells #[] e,o,c.fZ off vs⟩))
 else bi
def fw(P:ip)(H:aa)(t:io)(a v:go):Option aa :=
 match a with
 |li (a9 ⟨n,off,bi⟩)=>do
  let sz <-br P t
  if v.cells.toList.length=sz then dT H n off v.cells.toList else bi
 |_=>bi
def cJ(H:aa)(e:io)(c:List go)(o:Bool):Option aa :=
 if aT H.next c then a9 (H.new ⟨.cells #[] e,o,RV.ofList c⟩) else bi
def CL(P:ip)(t:io)(cs:List go)(off:Nat):Option Value:=do
 match <-fj P t with
 |true=>do
  let sz <-br P t
  a9 (.agg ⟨(cs.drop off).take sz⟩)
 |false=>cs[off]?
def vW(P:ip)(t:io)(x:go)(f:Nat):Option go :=
 match P.underlying t,x with
 |some (.struct a),.agg cs =>
  match a.toList[f]? with
  |some b=>CL P b.type cs.toList b.offset
  |none=>bi
 |_,_=>bi
def aJ(P:ip)(t:io)(x:go)(f:Nat):Option go :=
 match P.underlying t,x with
 |some (.struct b),li (a9 a) =>
  match b.toList[f]? with
  |some c=>(match br P c.type with
   |some 0=>bi
   |some _=>a9 (li (a9 (a.add c.offset)))
   |none=>bi)
  |none=>bi
 |_,_=>bi
def DV(P:ip)(t:io)(x i:go):Option go :=
 match P.underlying t,x,i with
 |some (.array len a),.agg cs,.int _ i=>do
  let sz <-br P a
  if 0<=i/\i<len then CL P a cs.toList (i.toNat*sz) else bi
 |some .string,.string s,.int _ i=>if 0<=i then (s.data.toList[i.toNat]?).map fun b=>.int .u8 b.toNat else bi
 |_,_,_=>bi
def aW(P:ip)(t:io)(x i:go):Option go :=
 match P.underlying t,x,i with
 |some (.array len b),li (a9 a),.int _ i=>do
  let sz <-br P b
  if 0<=i/\i<len then a9 (li (a9 (a.add (i.toNat*sz)))) else bi
 |some (.slice b),lm (a9 a) len _,.int _ i=>do
  let sz <-br P b
  if 0<=i/\i<len then a9 (li (a9 ⟨a.block,a.off+i.toNat*sz,bi⟩)) else bi
 |_,_,_=>bi
def bound(d:Nat)(v:Option go):Option Nat :=
 match v with
 |none=>a9 d
 |some (.int _ i)=>if 0<=i then a9 i.toNat else bi
 |_=>bi
def jq(H:aa)(n:Nat):Option Bool :=
 match H.get n with
 |some ⟨.cells _ _ _,o,_⟩=>a9 o
 |_=>bi
def cX(H:aa)(a:Addr):Option Bool :=
 match a.spot with
 |some 0=>a9 bv
 |some (_+1)=>bi
 |none=>(jq H a.block).map (!·)
def yD(H:aa)(sz:Nat)(a:Option Addr)(len cap:Nat)(lo hi:Option go)(m:Nat):Option (go × aa):=do
 let l <-bound 0 lo
 let h <-bound len hi
 if m<=cap/\h<=m/\l<=h/\(∀ b∈a,b.spot.getD 0=0) then
  match a with
  |none=>a9 (lm bi (h-l) (m-l),H)
  |some a=>a9 (lm (a9 ⟨a.block,if m=l then a.off else a.off+l*sz,a9 0⟩) (h-l) (m-l),H)
 else bi
def et(H:aa)(sz:Nat)(a:Option Addr)(len cap:Nat)(lo hi:Option go):Option (go × aa):=do
 let l <-bound 0 lo
 let h <-bound len hi
 if h<=cap/\l<=h then
  match a with
  |none=>a9 (lm bi (h-l) (cap-l),H)
  |some a =>
   match cX H a with
   |none=>if l=0/\h=len/\a.spot.getD 0≠0 then a9 (lm (a9 a) len cap,H) else bi
   |some bv=>a9 (lm (a9 ⟨a.block,if cap=l then a.off else a.off+l*sz,a9 0⟩) (h-l) (cap-l),H)
   |some ci =>
    if l=0 then a9 (lm (a9 ⟨a.block,a.off,bi⟩) h cap,H)
    else if l<cap then a9 (lm (a9 ⟨a.block,a.off+l*sz,bi⟩) (h-l) (cap-l),H)
    else if sz=0 then bi
    else a9 (lm (a9 ⟨a.block,a.off+l*sz,a9 (a.off+1)⟩) 0 0,H)
 else bi
def bX(P:ip)(H:aa)(t:io)(x:go)(lo hi b:Option go):Option (go × aa) :=
 match P.underlying t,x,b with
 |some (.string),.string s,bi=>do
  let l <-bound 0 lo
  let h <-bound s.size hi
  if h<=s.size/\l<=h then a9 (.string (s.extract l h),H) else bi
 |some (.slice e),.slice a len cap,bi=>do et H (<-br P e) a len cap lo hi
 |some (.slice e),.slice a len cap,a9 (.int _ m)=>do
  if 0<=m/\hi.isSome=bv then yD H (<-br P e) a len cap lo hi m.toNat else bi
 |some (.array n e),li (a9 a),bi=>do
  let l <-bound 0 lo
  let h <-bound n hi
  let sz <-br P e
  if h<=n/\l<=h/\a.spot=bi then
   a9 (lm (a9 ⟨a.block,if n=l then a.off else a.off+l*sz,a9 0⟩) (h-l) (n-l),H)
  else bi
 |_,_,_=>bi
def ak(l:List UInt8):List Value:=l.map fun b=>.int .u8 b.toNat
def cK(H:aa)(sz n:Nat):go->Option (List go)
 |lm (a9 a) _ _=>if n=0 then a9 [] else do
  let (c,_,_) <-aP H a.block
  if Nat.ble (a.off+n*sz) c.n then a9 (c.ky a.off (n*sz)) else bi
 |lm bi _ _=>a9 []
 |.string s=>a9 (ak (s.data.toList.take n))
 |_=>bi
def jD:go->Option Nat
 |.slice _ n _=>a9 n
 |.string s=>a9 s.size
 |_=>bi
def small(n b:Nat):Bool:=Nat.ble (n*b) 140737488351232&&Nat.ble n 140737488351232
def bf(z:List go):Nat->List go
 |0=>[]
 |n+1=>z++bf z n
def fR(H:aa)(a:Addr)(len cap:Nat):Option Bool :=
 match a.spot with
 |some (_+1)=>if Nat.beq (len+cap) 0 then (match jq H a.block with
  |some bv=>a9 ci
  |_=>bi) else bi
 |_=>cX H a
def dv(H:aa)(e:io)(sz:Nat)(b:Option Addr)(len cap n:Nat)(new:List go):Option (go × aa) :=
 if len+n<=cap then
  match b with
  |none=>if n=0 then a9 (lm bi len cap,H) else bi
  |some a=>do
   let g <-dT H a.block (a.off+len*sz) new
   a9 (.slice b (len+n) cap,g)
 else do
  let gO <-cK H sz len (.slice b len cap)
  if gO.length=len*sz&&gO.all one&&new.all one then
   match b with
   |none=>do
    let g <-cJ H e (gO++new) bv
    a9 (lm (a9 ⟨H.next,0,bi⟩) (len+n) (len+n),g)
   |some a=>do
    match <-fR H a len cap with
    |true=>do
     let g <-cJ H e (gO++new) bv
     a9 (lm (a9 ⟨H.next,0,bi⟩) (len+n) (len+n),g)
    |false=>do
     let (v,e',_) <-bO H a.block
     if e'=e/\Nat.ble (a.off+cap*sz) v.n=bv then do
      let g <-cJ (H.cH a.block bi) e (gO++new) bv
      a9 (lm (a9 ⟨H.next,0,bi⟩) (len+n) (len+n),g)
     else bi
  else bi
def fE(P:ip)(t:io):Option Bool :=
 match P.underlying t with
 |some (.int _)=>a9 bv
 |some _=>a9 ci
 |none=>bi
def e7(P:ip)(H:aa)(ts:Array io)(s x:go):Option (go × aa) :=
 match ts.toList,s with
 |st::xt::_,.slice a len cap=>do
  let .slice e <-P.underlying st|none
  let sz <-br P e
  let by1 <-bytesOf P e
  let b <-zeroOf P e
  match <-fE P xt,x with
  |true,jp kw l =>
   if 0<=l/\small (len+l.toNat) by1=bv/\b.cells.toList.length=sz then
    dv H e sz a len cap l.toNat (bf b.cells.toList l.toNat)
   else bi
  |true,_=>bi
  |false,x=>do
   let n <-jD x
   let new <-cK H sz n x
   if new.length=n*sz/\small (len+n) by1=bv/\b.cells.toList.length=sz then dv H e sz a len cap n new else bi
 |_,_=>bi
def CW(P:ip)(H:aa)(ts:Array io)(d s:go):Option (go × aa) :=
 match ts.toList,d with
 |dt::_,.slice b dl _=>do
  let .slice e <-P.underlying dt|none
  let sz <-br P e
  let sl <-jD s
  let cs <-cK H sz (zF9 sl dl) s
  match b with
  |none=>a9 (goInt (zF9 sl dl),H)
  |some a =>
   if a.spot.getD 0=0\/dl≠0 then do
    let g <-dT H a.block a.off cs
    a9 (goInt (zF9 sl dl),g)
   else a9 (goInt 0,H)
 |_,_=>bi
def Hs(P:ip)(H:aa)(t:io)(x:go):Option go :=
 match P.underlying t,x with
 |some (.slice _),.slice _ n _=>a9 (goInt n)
 |some (.string),.string s=>a9 (goInt s.size)
 |some (.map _ _),.map bi=>a9 (goInt 0)
 |some (.map _ _),.map (a9 r)=>(match H.get r with
  |some ⟨.map a _,_,_⟩=>a9 (goInt a.size)
  |_=>bi)
 |some (.array n _),_=>a9 (goInt n)
 |_,_=>bi
def QV(P:ip)(H:aa)(t:io)(x:go):Option go :=
 match P.underlying t,x with
 |some (.slice _),lm bi _ n=>a9 (goInt n)
 |some (.slice _),lm (a9 a) _ n=>(match cX H a with
  |some bv=>a9 (goInt n)
  |_=>bi)
 |some (.array n _),_=>a9 (goInt n)
 |_,_=>bi
def gI(a:Bool):List go->Option go
 |[.int k x,.int _ y]=>a9 (.int k (if a then (if y>x then y else x) else (if y<x then y else x)))
 |_=>bi
def qg:go->Bool
 |.int _ _=>bv
 |.string _=>bv
 |.bool _=>bv
 |_=>ci
def mQ:TypeDesc->Bool
 |.int _=>bv
 |.string=>bv
 |.bool=>bv
 |_=>ci
def yB(P:ip)(H:aa)(t:io)(m k:go):Option (go × aa) :=
 match P.underlying t,m with
 |some (.map b _),.map (a9 r)=>(match H.get r with
  |some ⟨.map c a,_,_⟩=>do
   let kd <-P.underlying b
   if qg k&&mQ kd then
    match Instr.findNow kd k c.toList 0 with
    |some (a9 (i,_))=>a9 (.tuple #[],H.cH r (a9 ⟨.map (c.eraseIdxIfInBounds i) a,ci,⟨[],0⟩⟩))
    |some bi=>a9 (.tuple #[],H.cH r (a9 ⟨.map c a,ci,⟨[],0⟩⟩))
    |none=>bi
   else bi
  |_=>bi)
 |_,_=>bi
def Ec(P:ip)(H:aa)(t:io)(x:go):Option (go × aa) :=
 match P.underlying t,x with
 |some (.slice _),lm bi _ _=>a9 (.tuple #[],H)
 |some (.slice e),lm (a9 a) n _=>(match n with
  |0=>a9 (.tuple #[],H)
  |n+1=>do
   let z <-zeroOf P e
   let g <-dT H a.block a.off (bf z.cells.toList (n+1))
   a9 (.tuple #[],g))
 |_,_=>bi
def oB(x:go):Option go :=
 match x with
 |lm bi _ _=>a9 (li bi)
 |lm (a9 ⟨n,off,_⟩) _ (_+1)=>a9 (li (a9 ⟨n,off,bi⟩))
 |_=>bi
def cB:List go->Option (List UInt8)
 |[]=>a9 []
 |.int .u8 n::r=>(cB r).map (UInt8.ofNat n.toNat::·)
 |_=>bi
def o6(P:ip)(H:aa)(ts:Array io)(p n:go):Option (go × aa) :=
 match ts.toList,p,n with
 |_::_,li bi,jp kw 0=>a9 (.string .empty,H)
 |pt::_,li (a9 ⟨b,off,bi⟩),jp kw n=>do
  let .pointer a <-P.underlying pt|none
  let .int .u8 <-P.underlying a|none
  let 1 <-br P a|none
  match H.get b with
  |some ⟨.cells z e (0,q),o,c⟩ =>
   if n=0 then a9 (.string .empty,H)
   else if e=a/\0<n/\n<1000000000/\Nat.ble (off+n.toNat) c.n=bv then do
    let l <-cB (c.ky off n.toNat)
    a9 (.string ⟨l.toArray⟩,H.cH b (a9 ⟨.cells z e (1,q),bv,c⟩))
   else bi
  |_=>bi
 |_,_,_=>bi
def aE(P:ip)(H:aa)(b:Builtin)(ts:Array io)(args:List go):Option (go × aa) :=
 match b,args with
 |.unsafeSliceData,[x]=>(oB x).map fun v=>(v,H)
 |.unsafeString,[p,n]=>o6 P H ts p n
 |.append,[s,x]=>e7 P H ts s x
 |.copy,[d,s]=>CW P H ts d s
 |.len,[x]=>(match ts.toList with
  |t::_=>(Hs P H t x).map fun v=>(v,H)
  |[]=>bi)
 |.cap,[x]=>(match ts.toList with
  |t::_=>(QV P H t x).map fun v=>(v,H)
  |[]=>bi)
 |.delete,[m,k]=>(match ts.toList with
  |t::_=>yB P H t m k
  |[]=>bi)
 |.clear,[x]=>(match ts.toList with
  |t::_=>Ec P H t x
  |[]=>bi)
 |.max,args=>(gI bv args).map fun v=>(v,H)
 |.min,args=>(gI ci args).map fun v=>(v,H)
 |_,_=>bi
def Sr(P:ip)(H:aa):Nat->io->go->go->Option Bool
 |0,_,_,_=>bi
 |d+1,t,x,y =>
  match P.underlying t,x,y with
  |some (.pointer _),li bi,.pointer b=>a9 b.isNone
  |some (.pointer _),li (a9 _),li bi=>a9 ci
  |some (.pointer e),li (a9 a),li (a9 b) =>
   (match br P e,jq H a.block,jq H b.block with
   |some (_+1),a9 ci,a9 ci=>a9 (a == b)
   |_,_,_=>bi)
  |some (.slice _),lm bi _ _,.slice b _ _=>a9 b.isNone
  |some (.slice _),lm (a9 _) _ _,lm bi _ _=>a9 ci
  |some (.map _ _),.map bi,.map b=>a9 b.isNone
  |some (.map _ _),.map (a9 _),.map bi=>a9 ci
  |some (.func _ _ _),.nilFunc,.func _ _ _=>a9 ci
  |some (.func _ _ _),.func _ _ _,.nilFunc=>a9 ci
  |some (.interface _),.nilIface,.iface _ _=>a9 ci
  |some (.interface _),.iface _ _,.nilIface=>a9 ci
  |some (.interface _),.iface c f,.iface ty g =>
   if c≠ty then a9 ci else
   (match P.info? c with
   |some i=>if i.comparable then Sr P H d c f g else bi
   |none=>bi)
  |_,_,_=>bi
def eO(c:BinOp)(k:IntKind)(a b:Int):Option go :=
 match c with
 |.add=>a9 (.int k (k.wrap (a+b)))
 |.sub=>a9 (.int k (k.wrap (a-b)))
 |.mul=>a9 (.int k (k.wrap (a*b)))
 |.quo=>if b=0 then bi else a9 (.int k (k.wrap (a.tdiv b)))
 |.rem=>if b=0 then bi else a9 (.int k (a.tmod b))
 |.eql=>a9 (ls (a == b))
 |.neq=>a9 (ls (a != b))
 |.lss=>a9 (ls (a<b))
 |.leq=>a9 (ls (a<=b))
 |.gtr=>a9 (ls (a>b))
 |.geq=>a9 (ls (a ≥ b))
 |_=>bi
def yd(a:BinOp)(b:Bool):Option go :=
 match a with
 |.eql=>a9 (ls b)
 |.neq=>a9 (.bool !b)
 |_=>bi
def tp(P:ip)(H:aa)(a:BinOp)(t:io)(x y:go):Option go :=
 match x,y with
 |.agg _,_=>bi
 |.nilIface,.nilIface=>bi
 |x,y=>(Sr P H 100 t x y).bind (yd a)
def iu(P:ip)(x:go)(a:io)(b:Bool):Option go :=
 match P.underlying a,x with
 |some (.interface want),.iface t _ =>
  (match P.info? t with
  |some i=>(match Instr.missingMethod want i.methods with
   |none=>a9 (if b then .tuple #[x,ls bv] else x)
   |some _=>if b then (zeroOf P a).map fun z=>.tuple #[z,ls ci] else bi)
  |none=>bi)
 |some _,.nilIface=>if b then (zeroOf P a).map fun z=>.tuple #[z,ls ci] else bi
 |some _,.iface t v =>
  if t=a then a9 (if b then .tuple #[v,ls bv] else v)
  else if b then (zeroOf P a).map fun z=>.tuple #[z,ls ci] else bi
 |_,_=>bi
def VI(P:ip):Bool:=P.funcs.toList.all fun fn=>fn.name != "runtime.NumGoroutine"
def aD(P:ip)(f:FuncId):Bool :=
 match P.funcs[f]? with
 |some fn=>fn.body.isSome&&VI P
 |none=>ci
def zH(P:ip)(H:aa)(t:io)(v:go)(b:Bool):Option go :=
 match P.underlying t,b,v with
 |some (.pointer _),bv,v=>a9 v
 |some (.pointer e),ci,li (a9 a)=>ib P H e (li (a9 a))
 |some (.pointer _),ci,_=>bi
 |some _,ci,v=>a9 v
 |_,_,_=>bi
def DQ(P:ip)(t:io)(name:String):Option (FuncId × Bool) :=
 match P.info? t with
 |some i =>
  (match i.methods.find? (·.name == name) with
  |some m=>if m.path.isEmpty then m.func else bi
  |none=>bi)
 |none=>bi
def kT:List Tmp->List go->RV->RV
 |t::ts,v::vs,e=>kT ts vs (if Nat.blt t e.n then e.set t v else e)
 |_,_,e=>e
structure Round where
 l:Nat
 env:RV
 assign:Code
 body:Code
inductive de where
 |value (v:go)
 |skip
 |enter (f:FuncId) (args:List go)
 |round (r:Round)
 |panic (v:go)
def wC(H:aa)(l:Nat)(args:List go):Option de :=
 match H.get l with
 |some ⟨.loop r,_,e⟩ =>
  if args.length=r.params.toList.length then a9 (.round ⟨l,kT r.params.toList args e,r.assign,r.body⟩) else bi
 |_=>bi
def jh(P:ip)(f:FuncId)(args:List go):Option de :=
 if aD P f then a9 (.enter f args) else bi
def fe(P:ip)(H:aa)(fn:Fn)(args a:List go):Option de :=
 match fn,args with
 |.func f,args=>jh P f (args++a)
 |.yield l,args=>wC H l args
 |.method name,.iface t v::r=>do
  let (f,b) <-DQ P t name
  let x <-zH P H t v b
  jh P f (x::r)
 |.via t c f b,x::r=>do
  if c.isEmpty then do
   let y <-zH P H t x b
   jh P f (y::r)
  else bi
 |_,_=>bi
abbrev er:=Option (de × aa)
def rv(H:aa)(x:Option go):er:=x.map fun y=>(.value y,H)
def uY(x:Option (go × aa)):er:=x.map fun y=>(.value y.1,y.2)
def Ob(x:Option aa):er:=x.map fun y=>(.skip,y)
def CF(H:aa):Option Nat->Option (Array MapEntry)
 |none=>a9 #[]
 |some r=>(match H.get r with
  |some ⟨.map a _,_,_⟩=>a9 a
  |_=>bi)
def mR(P:ip)(H:aa)(t:io)(x k:go)(ok:Bool):Option go :=
 match P.underlying t,x with
 |some (.map b a),.map r=>do
  let c <-CF H r
  let kd <-P.underlying b
  if qg k&&mQ kd then
   match Instr.findNow kd k c.toList 0 with
   |some (a9 (_,v))=>a9 (if ok then .tuple #[v,ls bv] else v)
   |some bi=>(zeroOf P a).map fun z=>if ok then .tuple #[z,ls ci] else z
   |none=>bi
  else bi
 |_,_=>bi
def b6(P:ip)(H:aa)(t:io)(x k v:go):Option aa :=
 match P.underlying t,x with
 |some (.map key _),.map (a9 r)=>(match H.get r with
  |some ⟨.map b a,_,_⟩=>do
   let kd <-P.underlying key
   if qg k&&mQ kd&&aV H.next v then
    match Instr.findNow kd k b.toList 0 with
    |some (a9 (i,_))=>a9 (H.cH r (a9 ⟨.map (b.modify i fun e=>{e with key:=k,val:=v}) a,ci,⟨[],0⟩⟩))
    |some bi=>a9 (H.cH r (a9 ⟨.map (b.push {key:=k,val:=v,born:=a}) (a+1),ci,⟨[],0⟩⟩))
    |none=>bi
   else bi
  |_=>bi)
 |_,_=>bi
def cY(P:ip)(t:io)(a:List (Nat × go)):Option Value:=do
 let z <-zeroOf P t
 match P.underlying t with
 |some (.struct b)=>do
  let c <-du P (b.mapM fun f=>do pure (f.offset,<-sizeOf f.type))
  (Instr.fill (c[·]?) z.cells a).map .agg
 |some (.array _ d)=>do
  let sz <-br P d
  (Instr.fill (fun i=>a9 (i*sz,sz)) z.cells a).map .agg
 |_=>bi
def bN(P:ip)(H:aa)(t:io)(len:Nat)(a:List (Nat × go)):Option (go × aa):=do
 let .slice e <-P.underlying t|none
 let sz <-br P e
 let z <-zeroOf P e
 if len*sz<=1000000/\z.cells.toList.length=sz then do
  let cells <-Instr.fill (fun i=>a9 (i*sz,sz)) (bf z.cells.toList len).toArray a
  let g <-cJ H e cells.toList ci
  a9 (lm (a9 ⟨H.next,0,a9 0⟩) len len,g)
 else bi
def fS(P:ip)(H:aa)(t:io)(l c:go):Option (go × aa) :=
 match l,c with
 |jp kw l,jp kw c=>do
  let .slice e <-P.underlying t|none
  let by1 <-bytesOf P e
  let sz <-br P e
  let z <-zeroOf P e
  if 0<=l/\l<=c/\small c.toNat by1=bv/\z.cells.toList.length=sz then do
   let g <-cJ H e (bf z.cells.toList c.toNat) ci
   a9 (lm (a9 ⟨H.next,0,a9 0⟩) l.toNat c.toNat,g)
  else bi
 |_,_=>bi
def fW:List go->Option (List UInt8)
 |[]=>a9 []
 |.int .i32 n::r=>(fW r).map ((Utf8.encode n).data.toList++·)
 |_=>bi
def bB(P:ip)(H:aa)(b dst:io)(x:go):Option (go × aa) :=
 match P.underlying b,P.underlying dst,x with
 |some _,a9 (.int k),.int _ n=>a9 (.int k (k.wrap n),H)
 |some _,a9 .string,.string s=>a9 (.string s,H)
 |some _,a9 .string,.int _ n=>a9 (.string (Utf8.encode n),H)
 |some _,a9 (.slice e),.string s=>(match P.underlying e with
  |some (.int .u8)=>do
   let 1 <-br P e|none
   if Nat.ble s.size 1000000000 then do
    let g <-cJ H e (ak s.data.toList) bv
    a9 (lm (a9 ⟨H.next,0,bi⟩) s.size s.size,g)
   else bi
  |some (.int .i32)=>do
   let 1 <-br P e|none
   if Nat.ble (Conv.runesFrom s s.size 0 #[]).toList.length 1000000000 then do
    let g <-cJ H e (Conv.runesFrom s s.size 0 #[]).toList bv
    a9 (lm (a9 ⟨H.next,0,bi⟩) (Conv.runesFrom s s.size 0 #[]).toList.length (Conv.runesFrom s s.size 0 #[]).toList.length,g)
   else bi
  |_=>bi)
 |some (.slice e),a9 .string,.slice a len _=>do
  let cs <-cK H 1 len (.slice a len len)
  match P.underlying e with
  |some (.int .u8)=>(cB cs).map fun l=>(.string ⟨l.toArray⟩,H)
  |some (.int .i32)=>(fW cs).map fun l=>(.string ⟨l.toArray⟩,H)
  |_=>bi
 |some (.slice _),a9 (.slice e),lm (a9 a) len cap=>do
  let .int .u8 <-P.underlying e|none
  match H.get a.block with
  |some ⟨.cells z ty q,ci,c⟩ =>
   if Nat.beq b dst&&Nat.beq (a.spot.getD 0) 0 then a9 (lm (a9 a) len cap,H.cH a.block (a9 ⟨.cells z ty q,bv,c⟩)) else bi
  |_=>bi
 |some (.pointer _),a9 .unsafePointer,li bi=>a9 (li bi,H)
 |some (.pointer t),a9 .unsafePointer,li (a9 ⟨n,off,bi⟩)=>do
  let sz <-br P t
  let (c,_,_) <-aP H n
  if Nat.blt 0 sz&&Nat.blt off c.n then a9 (li (a9 ⟨n,off,bi⟩),H) else bi
 |some .unsafePointer,a9 (.pointer _),li bi=>a9 (li bi,H)
 |some .unsafePointer,a9 (.pointer u),li (a9 ⟨n,0,bi⟩)=>do
  let sz <-br P u
  match H.get n with
  |some ⟨.cells _ e _,ci,c⟩=>if Nat.beq e u&&Nat.beq c.n sz&&Nat.blt 0 sz then a9 (li (a9 ⟨n,0,bi⟩),H) else bi
  |_=>bi
 |_,_,_=>bi
def sU(P:ip)(H:aa)(t:io)(x:go):Option (go × aa) :=
 match P.underlying t,x with
 |some .string,.string s=>a9 (li (a9 ⟨H.next,0,bi⟩),H.new ⟨.stringIter s 0,ci,⟨[],0⟩⟩)
 |_,_=>bi
def tH(H:aa)(c:go)(a:Bool):Option (go × aa) :=
 match c,a with
 |li (a9 ⟨r,0,bi⟩),bv=>(match H.get r with
  |some ⟨.stringIter s b,_,_⟩ =>
   if b<s.size then
    a9 (.tuple #[ls bv,goInt b,.int .i32 (Utf8.decode s b).1],H.cH r (a9 ⟨.stringIter s (b+(Utf8.decode s b).2),ci,⟨[],0⟩⟩))
   else a9 (.tuple #[ls ci],H)
  |_=>bi)
 |_,_=>bi
def iS(P:ip)(a:ah):List (Nat × i7)->Option (List (Nat × go))
 |[]=>a9 []
 |(i,x)::r=>do
  let v <-aO P a x
  let vs <-iS P a r
  a9 ((i,v)::vs)
def mT(P:ip)(a:ah):Option i7->Option (Option go)
 |none=>a9 bi
 |some x=>(aO P a x).map a9
def kC(P:ip):Value:=.iface P.rt.errorString (strVal "invalid memory address or nil pointer dereference")
def rI(x:i7)(P:ip)(a:ah)(H:aa):er:=rv H (aO P a x)
def BI(c x y:i7)(P:ip)(a:ah)(H:aa):er:=do
 match <-aO P a c with
 |.bool bv=>rv H (aO P a x)
 |.bool ci=>rv H (aO P a y)
 |_=>bi
def AE(t:io)(v:go)(H:aa):er:=do
 let g <-cJ H t v.cells.toList ci
 a9 (.value (li (a9 ⟨H.next,0,bi⟩)),g)
def zo(t:io)(P:ip)(_:ah)(H:aa):er:=do AE t (<-zeroOf P t) H
def vN(t:io)(x:i7)(P:ip)(a:ah)(H:aa):er:=do AE t (<-aO P a x) H
def vj(t:io)(ps:Array (Nat × i7))(P:ip)(a:ah)(H:aa):er:=do rv H (cY P t (<-iS P a ps.toList))
def jz(t:io)(n:Nat)(ps:Array (Nat × i7))(P:ip)(a:ah)(H:aa):er:=do uY (bN P H t n (<-iS P a ps.toList))
def HS(t:io)(x:i7)(P:ip)(a:ah)(H:aa):er:=do rv H (ib P H t (<-aO P a x))
def wz(t:io)(x y:i7)(P:ip)(a:ah)(H:aa):er:=do Ob (fw P H t (<-aO P a x) (<-aO P a y))
def By(P:ip)(H:aa)(v:go):er :=
 match v with
 |li bi=>a9 (.panic (kC P),H)
 |.nilIface=>a9 (.panic (kC P),H)
 |.nilFunc=>a9 (.panic (kC P),H)
 |.func (.method _) _ _=>bi
 |.chan _=>bi
 |y=>a9 (.value y,H)
def MN(x:i7)(P:ip)(a:ah)(H:aa):er:=do By P H (<-aO P a x)
def fV(P:ip)(H:aa)(c:BinOp)(t:io)(x y:go):Option go :=
 match x,y with
 |.int k a,.int d b=>if k=d then eO c k a b else bi
 |.bool a,ls b=>(match P.underlying t with
  |some .bool=>yd c (a == b)
  |_=>bi)
 |x,y=>tp P H c t x y
def la(P:ip)(s:Sem go):Option de :=
 match du P s with
 |some v=>if af v then a9 (.value v) else bi
 |none=>(match qE P s with
  |some v=>if af v then a9 (.panic v) else bi
  |none=>bi)
def Ea(P:ip)(H:aa)(a:BinOp)(t:io)(x y:i7)(p q:go):er :=
 match fV P H a t p q with
 |some v=>a9 (.value v,H)
 |none=>if af p&&af q then (la P (do eqGuard a t x y p q; binOp a t p q)).map fun r=>(r,H) else bi
def Hp(b:BinOp)(t:io)(x y:i7)(P:ip)(a:ah)(H:aa):er:=do
 let p <-aO P a x
 let q <-aO P a y
 Ea P H b t x y p q
def Ve(P:ip)(H:aa)(op:UnOp)(v:go):er :=
 match op,v with
 |.not,ls b=>a9 (.value (.bool !b),H)
 |.neg,.int k n=>a9 (.value (.int k (k.wrap (0-n))),H)
 |op,v=>if af v then (la P (Op.unary op v)).map fun r=>(r,H) else bi
def U8(b:UnOp)(x:i7)(P:ip)(a:ah)(H:aa):er:=do Ve P H b (<-aO P a x)
def tJ(s d:io)(x:i7)(P:ip)(a:ah)(H:aa):er:=do uY (bB P H s d (<-aO P a x))
def vu(P:ip)(H:aa)(t:io)(v:go):er :=
 match P.underlying t with
 |some (.interface _)=>bi
 |some _=>a9 (.value (.iface t v),H)
 |none=>bi
def A1(t:io)(x:i7)(P:ip)(a:ah)(H:aa):er:=do vu P H t (<-aO P a x)
def Ck(H:aa)(fn:Fn)(p q:List go):er :=
 match fn with
 |.yield _=>bi
 |fn=>a9 (.value (.func fn ⟨p⟩ ⟨q⟩),H)
def Ht(fn:Fn)(first b:Array i7)(P:ip)(a:ah)(H:aa):er:=do Ck H fn (<-fJ P a first.toList) (<-fJ P a b.toList)
def sF(H:aa):er:=a9 (.value (.map (a9 H.next)),H.new ⟨.map #[] 0,ci,⟨[],0⟩⟩)
def uV(t:io)(r:Option i7)(P:ip)(a:ah)(H:aa):er :=
 match r with
 |none=>sF H
 |some x=>do
  let .map _ _ <-P.underlying t|none
  let jp kw _ <-aO P a x|none
  sF H
def me(t:io)(l c:i7)(P:ip)(a:ah)(H:aa):er:=do uY (fS P H t (<-aO P a l) (<-aO P a c))
def Ar(t:io)(x:i7)(lo hi b:Option i7)(P:ip)(a:ah)(H:aa):er:=do
 uY (bX P H t (<-aO P a x) (<-mT P a lo) (<-mT P a hi) (<-mT P a b))
def j5(t:io)(x:i7)(f:Nat)(P:ip)(a:ah)(H:aa):er:=do rv H (aJ P t (<-aO P a x) f)
def Dx(t:io)(x:i7)(f:Nat)(P:ip)(a:ah)(H:aa):er:=do rv H (vW P t (<-aO P a x) f)
def j9(t:io)(x i:i7)(P:ip)(a:ah)(H:aa):er:=do rv H (aW P t (<-aO P a x) (<-aO P a i))
def vn(P:ip)(H:aa)(t:io)(p q:go):er :=
 match DV P t p q with
 |some v=>a9 (.value v,H)
 |none=>if af p&&af q then (la P (Instr.index t p q)).map fun r=>(r,H) else bi
def EY(t:io)(x i:i7)(P:ip)(a:ah)(H:aa):er:=do vn P H t (<-aO P a x) (<-aO P a i)
def yx(t:io)(x k:i7)(ok:Bool)(P:ip)(a:ah)(H:aa):er:=do rv H (mR P H t (<-aO P a x) (<-aO P a k) ok)
def jn(t:io)(m k x:i7)(P:ip)(a:ah)(H:aa):er:=do Ob (b6 P H t (<-aO P a m) (<-aO P a k) (<-aO P a x))
def Eb(t:io)(x:i7)(P:ip)(a:ah)(H:aa):er:=do uY (sU P H t (<-aO P a x))
def KD(b:i7)(s:Bool)(P:ip)(a:ah)(H:aa):er:=do uY (tH H (<-aO P a b) s)
def na(x:i7)(b:io)(ok:Bool)(P:ip)(a:ah)(H:aa):er:=do rv H (iu P (<-aO P a x) b ok)
def mf(H:aa)(i:Nat)(v:go):er :=
 match v with
 |.tuple vs=>rv H (vs.toList[i]?)
 |_=>bi
def nO(x:i7)(i:Nat)(P:ip)(a:ah)(H:aa):er:=do mf H i (<-aO P a x)
def pA(P:ip)(H:aa)(f:go)(args:List go):er :=
 match f with
 |.func fn first a=>(fe P H fn (first.toList++args) a.toList).map fun r=>(r,H)
 |_=>bi
def K5(P:ip)(g:FuncId)(name:String):Bool :=
 match P.funcs[g]? with
 |some fn=>fn.body.isNone&&fn.name == name&&fn.origin == ""
 |none=>ci
def oF(P:ip)(H:aa)(g:FuncId)(args:List go):er :=
 match args with
 |[li (a9 a)]=>if K5 P g "internal/abi.NoEscape" then a9 (.value (li (a9 a)),H) else bi
 |[jp kw n]=>if K5 P g "internal/bytealg.MakeNoZero" && f7 (0<=n)&&f7 (n<1000000000) then
   (match P.funcs[g]? with
   |some fn=>(match fn.resultTypes.toList with
    |[t]=>(match P.underlying t with
     |some (.slice e)=>(match br P e with
      |some 1=>a9 (.value (lm (a9 ⟨H.next,0,bi⟩) n.toNat 0),H.new ⟨.cells #[] e (0,0),bv,⟨[],0⟩⟩)
      |_=>bi)
     |_=>bi)
    |_=>bi)
   |none=>bi)
  else bi
 |_=>bi
def yq(P:ip)(H:aa)(f:go)(args:List go):er :=
 match f with
 |.func (.func g) ⟨[]⟩ ⟨[]⟩ =>
  if DO args then
   match du P (callFunc g ⟨args⟩) with
   |some (.value v)=>if af v then a9 (.value v,H) else bi
   |_=>oF P H g args
  else oF P H g args
 |_=>bi
def kH(c:Call)(P:ip)(a:ah)(H:aa):er:=do
 let args <-fJ P a c.args.toList
 match c.callee with
 |.builtin b=>uY (aE P H b c.argTypes args)
 |.invoke d name=>do
  let r <-aO P a d
  (fe P H (.method name) (r::args) []).map fun r=>(r,H)
 |.value f=>do
  let f <-aO P a f
  match pA P H f args with
  |some r=>a9 r
  |none=>yq P H f args
def Ek(H:aa)(v:go):er :=
 match v with
 |.iface t y=>a9 (.panic (.iface t y),H)
 |_=>bi
def EW(x:i7)(P:ip)(a:ah)(H:aa):er:=do Ek H (<-aO P a x)
def FL(_:ip)(_:ah)(_:aa):er:=bi
def cE(e:Op):ip->ah->aa->er :=
 match e with
 |.move x=>rI x
 |.assign x=>rI x
 |.pick c x y=>BI c x y
 |.alloc t=>zo t
 |.box t x=>vN t x
 |.build t ps=>vj t ps
 |.buildSlice t n ps=>jz t n ps
 |.load t x=>HS t x
 |.store t x y=>wz t x y
 |.nilCheck x=>MN x
 |.binOp e t x y _=>Hp e t x y
 |.unOp e _ x=>U8 e x
 |.makeInterface t x=>A1 t x
 |.makeFunc fn first a=>Ht fn first a
 |.makeSlice t l c=>me t l c
 |.slice t x lo hi g=>Ar t x lo hi g
 |.fieldAddr t x f=>j5 t x f
 |.field t x f=>Dx t x f
 |.indexAddr t x i=>j9 t x i
 |.index t x i=>EY t x i
 |.typeAssert x _ b ok=>na x b ok
 |.extract x i=>nO x i
 |.call c=>kH c
 |.panic x=>EW x
 |.convert s d x=>tJ s d x
 |.makeMap t r=>uV t r
 |.lookup t x k ok=>yx t x k ok
 |.mapUpdate t m k x=>jn t m k x
 |.insert t m k x=>jn t m k x
 |.range t x=>Eb t x
 |.next h s=>KD h s
 |_=>FL
structure Rec where
 run:Option Nat->Code->ah->aa->Option (Exit × ah × aa)
 know:FuncId->List go->aa->Option (go × aa)
def dw(P:ip)(H:aa)(a:ah):List ResultVar->Option (List go)
 |[]=>a9 []
 |.tmp t::r=>do
  let vs <-dw P H a r
  a9 (a.tmp t::vs)
 |.cell x t::r=>do
  let v <-ib P H t (a.tmp x)
  let vs <-dw P H a r
  a9 (v::vs)
def Ev:List go->go
 |[v]=>v
 |vs=>.tuple ⟨vs⟩
abbrev Out:=Except (List PanicEntry) go
def fp:FrameMode->go × FrameMode
 |.panicking ({v,recovered:=false,goexit:=false}::older)=>(v,.panicking ({v,recovered:=true}::older))
 |u=>(.nilIface,u)
def isRec(o:Op):Bool :=
 match o with
 |.call ⟨.builtin .recover,⟨[]⟩,_⟩=>bv
 |_=>ci
def cN(ops:Array Oper)(a:ah)(o:Oper):Option Bool :=
 match o.guard with
 |none=>a9 bv
 |some (j,want)=>(match ops[j]? with
  |some c=>(match c.dst with
   |some d=>(match a.tmp d with
    |.bool b=>a9 (b == want)
    |_=>a9 ci)
   |none=>a9 ci)
  |none=>a9 ci)
def kr(P:ip)(ops:Array Oper):List Oper->ah->FrameMode->aa->Option (Exit × ah × FrameMode × aa)
 |[],a,u,H=>a9 (.normal,a,u,H)
 |o::rest,a,u,H =>
  match cN ops a o with
  |some bv =>
   (match isRec o.op with
   |true=>kr P ops rest (a.put o.dst (fp u).1) (fp u).2 H
   |false=>(match cE o.op P a H with
    |some (.value v,g)=>kr P ops rest (a.put o.dst v) u g
    |some (.skip,g)=>kr P ops rest (a.put o.dst undef) u g
    |some (.panic v,g)=>a9 (.panic [{v,recovered:=false}],a,u,g)
    |_=>bi))
  |some ci=>kr P ops rest (a.put o.dst undef) u H
  |none=>bi
def mu(P:ip)(rec:Rec):Code->ah->FrameMode->aa->Option (Exit × ah × FrameMode × aa)
 |.seq x y,a,u,H =>
  match mu P rec x a u H with
  |some (.normal,b,d,H1)=>mu P rec y b d H1
  |r=>r
 |.cond c x y,a,u,H =>
  match aO P a c with
  |some (ls bv)=>mu P rec x a u H
  |some (ls ci)=>mu P rec y a u H
  |_=>bi
 |.region id ops ci,a,u,H =>
  match ops.toList.any fun o=>isRec o.op with
  |true=>kr P ops ops.toList a u H
  |false=>(rec.run bi (.region id ops ci) a H).map fun r=>(r.1,r.2.1,u,r.2.2)
 |c,a,u,H=>(rec.run bi c a H).map fun r=>(r.1,r.2.1,u,r.2.2)
def V6(P:ip)(fn:Func)(r:Exit × ah × FrameMode × aa):Option (Out × FrameMode × aa) :=
 match r with
 |(.normal,⟨e,[]⟩,u,H)=>(dw P H ⟨e,[]⟩ fn.results.toList).map fun vs=>(.ok (Ev vs),u,H)
 |(.ret,⟨e,[]⟩,u,H)=>(dw P H ⟨e,[]⟩ fn.results.toList).map fun vs=>(.ok (Ev vs),u,H)
 |(.panic a,⟨_,[]⟩,u,H)=>a9 (.error a,u,H)
 |_=>bi
def nB(P:ip)(rec:Rec)(f:FuncId)(args:List go)(u:FrameMode)(H:aa):Option (Out × FrameMode × aa):=do
 let fn <-P.funcs[f]?
 let c <-fn.body
 if Nat.ble args.length fn.ntmps then do
  let r <-mu P rec c ⟨{RV.ofList args with n:=fn.ntmps},[]⟩ u H
  V6 P fn r
 else bi
def dS(P:ip)(rec:Rec)(fn:Func)(a:ah):List Deferred->FrameMode->aa->Option (Out × aa)
 |[],u,H=>(match u with
  |.returning=>(dw P H a fn.results.toList).map fun vs=>(.ok (Ev vs),H)
  |.panicking b=>a9 (.error b,H)
  |.run=>bi)
 |d::c,u,H=>(match u with
  |.run=>bi
  |u=>(match d with
   |⟨.collected r,_⟩=>(match H.get r with
    |some ⟨.deferred (a9 []),_,_⟩=>dS P rec fn a c u (H.cH r (a9 ⟨.deferred bi,ci,⟨[],0⟩⟩))
    |_=>bi)
   |⟨.fn (.func f) cap,e⟩ =>
    if aD P f then
     match nB P rec f (e.toList++cap.toList) u H with
     |some (.ok _,g,H1)=>dS P rec fn a c (settle g) H1
     |some (.error b,g,H1)=>dS P rec fn a c (raised g b) H1
     |none=>bi
    else bi
   |_=>bi))
def Nb(P:ip)(rec:Rec)(fn:Func)(r:Exit × ah × aa):Option (Out × aa) :=
 match r with
 |(.normal,a,H1)=>dS P rec fn a a.defers .returning H1
 |(.ret,a,H1)=>dS P rec fn a a.defers .returning H1
 |(.panic b,a,H1)=>dS P rec fn a a.defers (.panicking b) H1
 |_=>bi
def Em(P:ip)(rec:Rec)(f:FuncId)(args:List go)(H:aa):Option (Out × aa):=do
 let fn <-P.funcs[f]?
 let c <-fn.body
 if Nat.ble args.length fn.ntmps then do
  let r <-rec.run bi c ⟨{RV.ofList args with n:=fn.ntmps},[]⟩ H
  Nb P rec fn r
 else bi
def JW(P:ip)(rec:Rec)(f:FuncId)(args:List go)(H:aa):Option (Out × aa) :=
 match rec.know f args H with
 |some (v,g)=>a9 (.ok v,g)
 |none=>Em P rec f args H
def cu(H:aa)(l:Nat)(r:Loop)(e:RV):aa:=H.cH l (a9 ⟨.loop r,ci,e⟩)
def getLoop(H:aa)(l:Nat):Option (Loop × RV) :=
 match H.get l with
 |some ⟨.loop r,_,e⟩=>a9 (r,e)
 |_=>bi
def kU:Exit->Option (Option Code)
 |.normal=>a9 bi
 |.ret=>a9 (a9 .ret)
 |.exit id=>a9 (a9 (.exit id))
 |.goto t=>a9 (a9 (.goto t))
 |_=>bi
def JG(rec:Rec)(r:Round)(H:aa):Option (Out × aa):=do
 let (e,a1,H1) <-rec.run (a9 r.l) r.assign ⟨r.env,[]⟩ H
 match e with
 |.normal=>do
  let (b,le) <-getLoop H1 r.l
  match b.state with
  |.ready=>do
   let (c,_,H2) <-rec.run (a9 r.l) r.body a1 (cu H1 r.l {b with state:=.busy} le)
   let j <-kU c
   let (a,le2) <-getLoop H2 r.l
   a9 (.ok (ls j.isNone),cu H2 r.l {a with state:=if j.isNone then .ready else .done,pending:=j} le2)
  |_=>bi
 |_=>bi
def UU(P:ip)(rec:Rec)(x:de × aa):Option (Out × aa) :=
 match x with
 |(.value v,g)=>a9 (.ok v,g)
 |(.skip,g)=>a9 (.ok undef,g)
 |(.enter f args,g)=>JW P rec f args g
 |(.round r,g)=>JG rec r g
 |(.panic v,g)=>a9 (.error [{v,recovered:=false}],g)
def RL(P:ip)(rec:Rec)(a:ah)(H:aa)(o:Oper):Option (Out × aa):=(cE o.op P a H).bind (UU P rec)
def I6(f:go)(args:List go):Option Deferred :=
 match f with
 |.func (.func g) first a=>a9 ⟨.fn (.func g) a,⟨first.toList++args⟩⟩
 |_=>bi
def p8(P:ip)(a:ah)(o:Op):Option Deferred :=
 match o with
 |.defer c=>(match c.callee with
  |.value f=>do
   let args <-fJ P a c.args.toList
   let f <-aO P a f
   I6 f args
  |_=>bi)
 |_=>bi
def lv(P:ip)(rec:Rec)(top:Bool)(ops:Array Oper):List Oper->ah->aa->Option (Exit × ah × aa)
 |[],a,H=>a9 (.normal,a,H)
 |o::rest,a,H =>
  match cN ops a o with
  |some bv =>
   (match RL P rec a H o with
   |some (.ok v,g)=>lv P rec top ops rest (a.put o.dst v) g
   |some (.error b,g)=>a9 (.panic b,a,g)
   |none=>(match top,p8 P a o.op with
    |true,a9 d=>lv P rec top ops rest (ah.put ⟨a.env,d::a.defers⟩ o.dst undef) H
    |_,_=>bi))
  |some ci=>lv P rec top ops rest (a.put o.dst undef) H
  |none=>bi
mutual
def ae:go->List Nat
 |li (a9 a)=>[a.block]
 |lm (a9 a) _ _=>[a.block]
 |.map (a9 r)=>[r]
 |.chan (a9 k)=>[k]
 |.func (.yield l) a b=>l::(tB a++tB b)
 |.func _ a b=>tB a++tB b
 |.iface _ v=>ae v
 |.agg cs=>tB cs
 |.tuple cs=>tB cs
 |_=>[]
def tB:Array go->List Nat
 |⟨l⟩=>ir l
def ir:List go->List Nat
 |[]=>[]
 |v::r=>ae v++ir r
end
def rq(o:dO):List Nat :=
 match o.obj with
 |.cells _ _ _=>ir (o.rv.ky 0 o.rv.n)
 |.map a _=>a.toList.flatMap fun e=>ae e.key++ae e.val
 |.loop r=>r.defers::ir (o.rv.ky 0 o.rv.n)
 |_=>[]
def reach(H:aa):Nat->List Nat->Nat->List Nat->List Nat
 |0,_,_,a=>a
 |_+1,[],_,a=>a
 |f+1,n::r,seen,a =>
  if seen.testBit n then reach H f r seen a else
  match H.get n with
  |some o=>reach H f (rq o++r) (seen ||| 1 <<< n) (n::a)
  |none=>reach H f r (seen ||| 1 <<< n) a
def F8(n:Nat):List Nat->Bool
 |[]=>ci
 |m::r=>Nat.beq m n||F8 n r
def dedup(H:aa):List Nat->List Nat->List Nat
 |[],a=>a
 |n::r,a=>if F8 n a then dedup H r a else
  match H.get n with
  |some _=>dedup H r (n::a)
  |none=>dedup H r a
def direct(P:ip)(a:ah)(H:aa)(xs:List i7):List Nat :=
 match fJ P a xs with
 |some vs=>dedup H (ir vs) []
 |none=>[]
def Dt(H:aa):Nat->List Nat
 |0=>[]
 |n+1=>match H.get n with
  |some _=>n::Dt H n
  |none=>Dt H n
def whole(P:ip)(a:ah)(H:aa)(xs:List i7):List Nat :=
 match fJ P a xs with
 |some vs=>Dt H P.globals.size++reach H 1000000 (ir vs) 0 []
 |none=>[]
def VF(P:ip)(c:Call):ah->aa->List Nat :=
 match c.callee with
 |.builtin _=>fun a H=>direct P a H c.args.toList
 |_=>fun a H=>whole P a H c.operands.toList
def sK(P:ip)(b:Op):ah->aa->List Nat :=
 match b with
 |.load _ x=>fun a H=>direct P a H [x]
 |.store _ x _=>fun a H=>direct P a H [x]
 |.slice _ x _ _ _=>fun a H=>direct P a H [x]
 |.lookup _ x _ _=>fun a H=>direct P a H [x]
 |.mapUpdate _ x _ _=>fun a H=>direct P a H [x]
 |.insert _ x _ _=>fun a H=>direct P a H [x]
 |.next x _=>fun a H=>direct P a H [x]
 |.convert _ _ x=>fun a H=>direct P a H [x]
 |.binOp _ _ x y _=>fun a H=>direct P a H [x,y]
 |.call c=>VF P c
 |_=>fun _ _=>[]
def aa.none(next:Nat):aa:=⟨[],next,next,[]⟩
def aa.lay(g H:aa):List Nat->aa
 |[]=>g
 |n::r=>aa.lay (g.put n (H.get n)) H r
def aa.restrict(H:aa)(F:List Nat):aa:=aa.lay (aa.none H.next) H F
def aa.eR(H g:aa):List Nat->aa
 |[]=>H
 |n::r=>aa.eR (H.cH n (g.get n)) g r
def aa.cV(H g:aa)(n:Nat):Nat->aa
 |0=>H
 |k+1=>aa.cV (H.put n (g.get n)) g (n+1) k
def aa.merge(H g:aa):aa :=
 let h:=aa.cV (aa.eR H g g.dirty) g H.next (g.next-H.next)
 ⟨h.root,g.next,h.base,h.dirty⟩
structure Fp where
 i:Nat
 F:List Nat
 W:List Nat
 lo:Nat
 hi:Nat
def Tu(a b:List Nat):Bool:=a.all fun n=>!F8 n b
def qi(acc:List Nat):List Edge->Nat->Nat
 |[],s=>s
 |e::r,s=>qi acc r (if Region.binds .any e then s ||| 1 <<< e.on ||| acc.getD e.on 0 else s)
def ku:List Oper->List Nat->List Nat
 |[],a=>a
 |o::r,a=>ku r (a++[qi a o.after.toList 0])
def iZ(ops:Array Oper):List Nat:=ku ops.toList []
def xw:List Nat->Nat
 |[]=>0
 |t::r=>1 <<< t ||| xw r
structure Mask where
 r:Nat
 w:Nat
def uS(ops:Array Oper)(o:Oper):Mask:=⟨xw (o.looksAt ops),xw o.dst.toList⟩
def wQ(ops:Array Oper):List Oper->List Mask
 |[]=>[]
 |o::r=>uS ops o::wQ ops r
def Eg(x y:Mask):Bool:=Nat.beq (x.w &&& (y.r ||| y.w)) 0&&Nat.beq (y.w &&& x.r) 0
def yr(y:Mask)(anc:Nat):List Mask->Nat->Bool
 |[],_=>bv
 |x::r,i=>(anc.testBit i||Eg x y)&&yr y anc r (i+1)
def yu(j:Nat):List Edge->Bool
 |[]=>bv
 |e::r=>(!Region.binds .any e||Nat.blt e.on j)&&yu j r
def ph(a:List Mask)(anc:List Nat):List Oper->Nat->Bool
 |[],_=>bv
 |oj::r,j=>yr (a.getD j ⟨0,0⟩) (anc.getD j 0) (a.take j) 0&&yu j oj.after.toList&&ph a anc r (j+1)
def iF(ops:Array Oper):Bool:=ph (wQ ops ops.toList) (iZ ops) ops.toList 0
def dH(n:Nat):Nat->List Nat
 |0=>[]
 |k+1=>n::dH (n+1) k
def fM(g:aa)(n:Nat):List Nat :=
 match g.get n with
 |some o=>rq o
 |none=>[]
def gZ(v:go)(g:aa)(next:Nat):List Nat:=ae v++(g.dirty++dH next (g.next-next)).flatMap (fM g)
def Ef(lo hi:Nat)(l:List Nat):Bool:=l.all fun n=>Nat.blt n lo||Nat.ble hi n
def vd(anc:Nat)(F:List Nat)(v:go)(g:aa)(next:Nat)(r:Fp):Bool :=
 anc.testBit r.i||(Tu r.W F&&Tu r.F g.dirty&&(Nat.ble r.hi r.lo||(Ef r.lo r.hi F&&Ef r.lo r.hi (gZ v g next))))
def lL(P:ip)(rec:Rec)(ops:Array Oper)(anc:List Nat):List Oper->Nat->List Fp->ah->aa->Option (ah × aa)
 |[],_,_,a,H=>a9 (a,H)
 |o::rest,i,b,a,H =>
  match cN ops a o with
  |some bv =>
   (match RL P rec a (H.restrict (sK P o.op a H)) o with
   |some (.ok v,g) =>
    if (sK P o.op a H).all (fun n=>(H.get n).isSome)&&g.dirty.all (fun n=>F8 n (sK P o.op a H)) &&
      b.all (vd (anc.getD i 0) (sK P o.op a H) v g H.next) then
     lL P rec ops anc rest (i+1) (⟨i,sK P o.op a H,g.dirty,H.next,g.next⟩::b) (a.put o.dst v) (H.merge g)
    else bi
   |_=>bi)
  |some ci=>lL P rec ops anc rest (i+1) b (a.put o.dst undef) H
  |none=>bi
def lO(a:ah)(params:Array Tmp)(assign body:Code)(d:Nat):dO :=
 ⟨.loop {state:=.ready,pending:=bi,fn:=0,tmps:=#[],params,assign,body,defers:=d},ci,a.env⟩
def enterLoop(ro:Option Nat)(a:ah)(b:Array Tmp)(c d:Code)(H:aa):Option (Nat × List Deferred × aa) :=
 match ro with
 |none=>a9 (H.next+1,[{target:=.collected H.next,args:=#[]}],(H.new ⟨.deferred (a9 []),ci,⟨[],0⟩⟩).new (lO a b c d H.next))
 |some e=>do
  let (r,_) <-getLoop H e
  if Nat.blt r.defers H.next then a9 (H.next,[],H.new (lO a b c d r.defers)) else bi
def sY(rec:Rec)(ro:Option Nat)(d:ah)(l:Nat)(r:Out × aa):Option (Exit × ah × aa) :=
 match r with
 |(.ok _,a)=>do
  let (b,le) <-getLoop a l
  match b.state with
  |.busy=>bi
  |_ =>
   match b.pending with
   |none=>a9 (.normal,d,cu a l {b with state:=.exhausted} le)
   |some c=>rec.run ro c d (cu a l {b with state:=.exhausted} le)
 |(.error e,a)=>a9 (.panic e,d,a)
def Jf(P:ip)(rec:Rec)(ro:Option Nat)(f:go)(c:Array Tmp)(d e:Code)(a:ah)(H:aa):Option (Exit × ah × aa) :=
 match f with
 |.func fn first b=>do
  let (l,mark,H1) <-enterLoop ro a c d e H
  let h <-fe P H1 fn (first.toList++[.func (.yield l) #[] #[]]) b.toList
  match h with
  |.enter g args=>do
   let r <-JW P rec g args H1
   sY rec ro {a with defers:=mark++a.defers} l r
  |_=>bi
 |_=>bi
abbrev rF:=ip->Rec->Option Nat->ah->aa->Option (Exit × ah × aa)
def rU(e:Exit):rF:=fun _ _ _ a H=>a9 (e,a,H)
def T1(x y:Code):rF:=fun _ rec ro a H =>
 match rec.run ro x a H with
 |some (.normal,b,H1)=>rec.run ro y b H1
 |r=>r
def OL(c:i7)(x y:Code):rF:=fun P rec ro a H =>
 match aO P a c with
 |some (ls bv)=>rec.run ro x a H
 |some (ls ci)=>rec.run ro y a H
 |_=>bi
def LF(id:Nat)(b:Code):rF:=fun _ rec ro a H =>
 match rec.run ro b a H with
 |some (.exit k,c,H1)=>if k=id then a9 (.normal,c,H1) else a9 (.exit k,c,H1)
 |r=>r
def Ma(b:Code):rF:=fun _ rec ro a H =>
 match rec.run ro b a H with
 |some (.goto _,_,_)=>bi
 |r=>r
def Ph(b:Code):rF:=fun _ rec ro a H =>
 match rec.run ro b a H with
 |some (.normal,c,H1)=>rec.run ro (.loop b) c H1
 |r=>r
def vR(P:ip)(rec:Rec)(ops:Array Oper)(a:ah)(H:aa):Option (Exit × ah × aa) :=
 match ops.toList.getLast?,lL P rec ops (iZ ops) ops.toList.dropLast 0 [] a H with
 |some o,a9 (b,H1) =>
  if (List.range (ops.size-1)).all (fun j=>((iZ ops).getD (ops.size-1) 0).testBit j) then
   (match cN ops b o,RL P rec b H1 o with
   |some bv,a9 (.error c,d)=>a9 (.panic c,b,d)
   |_,_=>bi)
  else bi
 |_,_=>bi
def HB(ops:Array Oper)(b:Bool):rF:=fun P rec ro a H =>
 match b with
 |true =>
  if iF ops then
   (match lL P rec ops (iZ ops) ops.toList 0 [] a H with
   |some r=>a9 (.normal,r.1,r.2)
   |none=>vR P rec ops a H)
  else bi
 |false=>lv P rec ro.isNone ops ops.toList a H
def JS(f:i7)(b:Array Tmp)(c d:Code):rF:=fun P rec ro a H=>do
 Jf P rec ro (<-aO P a f) b c d a H
def Q0:rF:=fun _ _ _ _ _=>bi
def step(c:Code):rF :=
 match c with
 |.skip=>rU .normal
 |.label _=>rU .normal
 |.seq x y=>T1 x y
 |.cond c x y=>OL c x y
 |.block id b=>LF id b
 |.loop b=>Ph b
 |.scope b=>Ma b
 |.exit id=>rU (.exit id)
 |.goto l=>rU (.goto l)
 |.ret=>rU .ret
 |.region _ ops e=>HB ops e
 |.rangeFunc f a d g=>JS f a d g
 |_=>Q0
def za(P:ip)(K:FuncId->List go->aa->Option (go × aa)):Nat->Rec
 |0=>⟨fun _ _ _ _=>bi,K⟩
 |n+1=>⟨fun ro c a H=>step c P (za P K n) ro a H,K⟩
def QG(K:FuncId->List go->aa->Option go)(f:FuncId)(args:List go)(H:aa):Option (go × aa) :=
 match K f args H with
 |some v=>a9 (v,H)
 |none=>bi
def exec(P:ip)(K:FuncId->List go->aa->Option go)(n:Nat):Rec:=za P (QG K) n
def call(P:ip)(K:FuncId->List go->aa->Option go)(a:Nat)(f:FuncId)(args:List go)(H:aa):Option (Out × aa):=Em P (exec P K a) f args H
def KB:go->go->Bool
 |.int k a,.int l b=>f7 (k=l)&&f7 (a=b)
 |.bool a,ls b=>a == b
 |_,_=>ci
def GZ:List go->List go->Bool
 |[],[]=>bv
 |a::r,b::q=>KB a b&&GZ r q
 |_,_=>ci
def Lo:go->go->Bool
 |.agg a,.agg b=>GZ a.toList b.toList
 |.tuple a,.tuple b=>GZ a.toList b.toList
 |a,b=>KB a b
def TS:List go->List go->Bool
 |[],[]=>bv
 |a::r,b::q=>Lo a b&&TS r q
 |_,_=>ci
def PI:List (FuncId × List go × go)->FuncId->List go->aa->Option go
 |[],_,_,_=>bi
 |(g,a,v)::r,f,args,H=>if Nat.beq g f&&TS a args then a9 v else PI r f args H
def eW{α:Type}(d:α):∀(l:List α)(i:Nat)(v:α)(j:Nat),(gN d l i v).getD j d=if j=i then v else l.getD j d
 |[],0,v,0=>rfl
 |[],0,v,j+1=>by simp[gN]
 |[],i+1,v,0=>by simp[gN]
 |[],i+1,v,j+1=>by have:=eW d [] i v j;simpa[gN]using this
 |x::r,0,v,0=>rfl
 |x::r,0,v,j+1=>by simp[gN]
 |x::r,i+1,v,0=>by simp[gN]
 |x::r,i+1,v,j+1=>by have:=eW d r i v j;simpa[gN]using this
def RV.uh(v:RV)(i:Nat)(x:go)(j:Nat):(v.set i x).get j=if j=i then x else v.get j:=by
 unfold RV.get RV.set;simp only[eW];by_cases h:j / 16=i / 16
 .rw[if_pos h,eW,h];by_cases a:j % 16=i % 16
  .have:j=i:=by omega
   simp[this]
  .have:j≠i:=fun e=>a (by rw[e]);simp[a,this]
 .have:j≠i:=fun e=>h (by rw[e]);simp[h,this]
@[simp] theorem RV.n_set (v:RV) (i:Nat) (x:go):(v.set i x).n=v.n:=rfl
def RV.qj(l:List go):∀(v:RV)(i:Nat),(v.fZ i l).n=v.n:=by
 induction l with
 |nil=>intro v i; rfl
 |cons x r a=>intro v i; simp[RV.fZ,a]
def RV.nI(l:List go):∀(v:RV)(i j:Nat),(v.fZ i l).get j=if i<=j/\j<i+l.length then l.getD (j-i) undef else v.get j:=by
 induction l with
 |nil=>intro v i j; simp[RV.fZ]; omega
 |cons x r c =>
  intro v i j;simp only[RV.fZ,c,RV.uh,zA9];by_cases a:i+1<=j/\j<i+1+r.length
  .rw[if_pos a,if_pos lw]
   obtain⟨k,rfl⟩:∃ k,j=i+1+k:=⟨j-(i+1),by omega⟩
   have d:i+1+k-(i+1)=k:=by omega
   have e:i+1+k-i=k+1:=by omega
   rw[d,e]; simp
  .rw[if_neg a];by_cases b:j=i
   .subst b; simp
   .rw[if_neg b,if_neg lw]
def RV.cM(l:List go)(j:Nat):(RV.ofList l).get j=l.getD j undef:=by
 have h:(RV.ofList l).get j=(RV.fZ ⟨[],0⟩ 0 l).get j:=rfl;rw[h,RV.nI];by_cases a:j<l.length
 .rw[if_pos lw]; simp
 .rw[if_neg lw];simp only[RV.get,List.getD_nil];simp[List.getD,zD3 (Nat.not_lt.1 a)]
@[simp] theorem RV.n_ofList (l:List go):(RV.ofList l).n=l.length:=rfl
def RV.iI(v:RV):∀(k i:Nat),v.ky i k=(List.range k).map fun j=>v.get (i+j)
 |0,i=>rfl
 |k+1,i=>by rw[RV.ky,RV.iI v k (i+1),List.range_succ_eq_map];simp only[zB8,List.map_map,zD5,List.cons.injEq,true_and];apply List.map_congr_left;intro j _;simp only[Function.comp];congr 1; omega
@[simp] theorem RV.length_gets (v:RV) (i k:Nat):(v.ky i k).length=k:=by simp[RV.iI]
def RV.qV(v:RV)(i k j:Nat)(h:j<k):(v.ky i k).getD j undef=v.get (i+j):=by simp[RV.iI,List.getD,h]
def pO(a:List (List (List (Option dO))))(n:Nat)(o:Option dO)(m:Nat) :
  (((fh a n o).getD (m / 256) []).getD (m / 16 % 16) []).getD (m % 16) bi =
   if m=n then o else ((a.getD (m / 256) []).getD (m / 16 % 16) []).getD (m % 16) none:=by
 unfold fh;rw[eW];by_cases h:m / 256=n / 256
 .rw[if_pos h,eW,h];by_cases b:m / 16 % 16=n / 16 % 16
  .rw[if_pos b,eW,b];by_cases c:m % 16=n % 16
   .have:m=n:=by omega
    simp[this]
   .have:m≠n:=fun e=>c (by rw[e]);simp[c,this]
  .have:m≠n:=fun e=>b (by rw[e]);simp[b,this]
 .have:m≠n:=fun e=>h (by rw[e]);simp[h,this]
def aa.qW(h:aa)(n:Nat)(o:Option dO)(m:Nat):(h.put n o).get m=if m=n then o else h.get m:=pO _ _ _ _
def aa.fC(h:aa)(n:Nat)(o:Option dO)(m:Nat):(h.cH n o).get m=if m=n then o else h.get m:=pO _ _ _ _
def aa.fk(h:aa)(o:dO)(m:Nat):(h.new o).get m=if m=h.next then a9 o else h.get m:=pO _ _ _ _
def Ln{v:go}(h:Wu v=bv):one v=true:=by cases v<;>first|rfl|cases h
structure Ren where
 blk:Nat->Nat
 sh:Nat->Nat
 ex:Nat->Nat
 op:Nat->go
 op1:∀ n,Wu (op n)=bv
def Ren.fn(ρ:Ren):Fn->Fn
 |.yield l=>.yield (ρ.blk l)
 |f=>f
def Ren.pJ(ρ:Ren)(a:Addr)(len cap:Nat):Nat:=match a.spot with
 |some (k+1)=>if len=0/\cap=0/\ρ.ex a.block=0 then k else a.off
 |_=>a.off
def Ren.rB(ρ:Ren)(a:Addr)(len cap:Nat):Nat:=match a.spot with
 |none=>cap+ρ.ex a.block
 |some 0=>cap
 |some (_+1)=>if len=0/\cap=0 then ρ.ex a.block else cap
def Xh:go->Option Nat
 |.int _ j=>a9 j.toNat
 |_=>bi
def Ren.C2(ρ:Ren)(a:Addr)(len cap:Nat):Option Nat:=match a.spot with
 |some (k+1)=>if k=0/\a.off=0/\len=0/\cap=0/\ρ.ex a.block=0 then Xh (ρ.op a.block) else bi
 |_=>bi
@[simp] theorem Ren.spS_none (ρ:Ren) (b o len cap:Nat):ρ.C2 ⟨b,o,bi⟩ len cap=none:=rfl
@[simp] theorem Ren.spS_zero (ρ:Ren) (b o len cap:Nat):ρ.C2 ⟨b,o,a9 0⟩ len cap=none:=rfl
def Ren.qb{ρ:Ren}{a:Addr}{len cap:Nat}(h:a.spot.getD 0=0\/len≠0):ρ.C2 a len cap=none:=by
 unfold Ren.C2;split
 .rename_i k b;rcases h with h|h
  .rw[b]at h; simp at h
  .rw[if_neg (fun c=>h c.2.2.1)]
 .rfl
def Ren.EN{ρ:Ren}{a:Addr}{len cap:Nat}(h:cap≠0):ρ.C2 a len cap=none:=by
 unfold Ren.C2;split
 .rw[if_neg (fun c=>h c.2.2.2.1)]
 .rfl
def Ren.Sf{ρ:Ren}{a:Addr}{len cap:Nat}(h:a.off≠0):ρ.C2 a len cap=none:=by
 unfold Ren.C2;split
 .rw[if_neg (fun c=>h c.2.1)]
 .rfl
def Ren.Un{ρ:Ren}{a:Addr}{len cap:Nat}(h:ρ.ex a.block≠0):ρ.C2 a len cap=none:=by
 unfold Ren.C2;split
 .rw[if_neg (fun c=>h c.2.2.2.2)]
 .rfl
@[simp] theorem Ren.offS_none (ρ:Ren) (b o len cap:Nat):ρ.pJ ⟨b,o,bi⟩ len cap=o:=rfl
@[simp] theorem Ren.offS_zero (ρ:Ren) (b o len cap:Nat):ρ.pJ ⟨b,o,a9 0⟩ len cap=o:=rfl
@[simp] theorem Ren.capS_none (ρ:Ren) (b o len cap:Nat):ρ.rB ⟨b,o,bi⟩ len cap=cap+ρ.ex b:=rfl
@[simp] theorem Ren.capS_zero (ρ:Ren) (b o len cap:Nat):ρ.rB ⟨b,o,a9 0⟩ len cap=cap:=rfl
def Ren.oP{ρ:Ren}{a:Addr}{len cap:Nat}(h:a.spot.getD 0=0\/len≠0):ρ.pJ a len cap=a.off:=by
 unfold Ren.pJ;split
 .rename_i k b;rcases h with h|h
  .rw[b]at h; simp at h
  .rw[if_neg (fun c=>h c.1)]
 .rfl
def Ren.y6{ρ:Ren}{a:Addr}{len cap:Nat}(h:cap≠0):ρ.pJ a len cap=a.off:=by
 unfold Ren.pJ;split
 .rw[if_neg (fun c=>h c.2.1)]
 .rfl
def Ren.PD{ρ:Ren}{a:Addr}{len len' cap:Nat}(h:cap≠0):ρ.rB a len cap=ρ.rB a len' cap:=by
 unfold Ren.rB;split
 .rfl
 .rfl
 .rw[if_neg (fun c=>h c.2),if_neg (fun c=>h c.2)]
def Ren.DW{ρ:Ren}{a:Addr}{len cap:Nat}:cap<=ρ.rB a len cap:=by
 unfold Ren.rB;split
 .omega
 .omega
 .split<;>omega
mutual
def Ren.val(ρ:Ren):go->go
 |li (a9 a)=>li (a9 ⟨ρ.blk a.block,a.off+ρ.sh a.block,a.spot⟩)
 |lm (a9 a) len cap=>lm (a9 ⟨ρ.blk a.block,ρ.pJ a len cap+ρ.sh a.block,ρ.C2 a len cap⟩) len (ρ.rB a len cap)
 |.map (a9 r)=>.map (a9 (ρ.blk r))
 |.func f a b=>.func (ρ.fn f) (ρ.eV a) (ρ.eV b)
 |.iface t v=>.iface t (ρ.val v)
 |.agg cs=>.agg (ρ.eV cs)
 |.tuple cs=>.tuple (ρ.eV cs)
 |.bool b=>.bool b
 |.int k n=>.int k n
 |.float k b=>.float k b
 |.complex k a b=>.complex k a b
 |.string s=>.string s
 |li bi=>li bi
 |lm bi len cap=>lm bi len cap
 |.map bi=>.map bi
 |.chan bi=>.chan bi
 |.chan (a9 k)=>ρ.op k
 |.nilFunc=>.nilFunc
 |.nilIface=>.nilIface
def Ren.eV(ρ:Ren):Array go->Array go
 |⟨l⟩=>⟨ρ.iU l⟩
def Ren.iU(ρ:Ren):List go->List go
 |[]=>[]
 |v::r=>ρ.val v::ρ.iU r
end
def Ren.oN(ρ:Ren):∀ l,ρ.iU l=l.map ρ.val
 |[]=>rfl
 |v::r=>by rw[Ren.iU,Ren.oN ρ r]; rfl
def Ren.ed(ρ:Ren)(c:Array go):ρ.eV c=c.map ρ.val:=by obtain⟨l⟩:=c;rw[Ren.eV,Ren.oN];simp
@[simp] theorem Ren.val_undef (ρ:Ren):ρ.val undef=undef:=by simp[undef,Ren.val,Ren.ed]
mutual
def dM(ρ:Ren):∀ v,af v=bv->ρ.val v=v
 |.bool _,_=>by rw[Ren.val]
 |.int _ _,_=>by rw[Ren.val]
 |.float _ _,_=>by rw[Ren.val]
 |.complex _ _ _,_=>by rw[Ren.val]
 |.string _,_=>by rw[Ren.val]
 |li bi,_=>by rw[Ren.val]
 |li (a9 _),h=>by simp[af]at h
 |lm bi _ _,_=>by rw[Ren.val]
 |lm (a9 _) _ _,h=>by simp[af]at h
 |.map bi,_=>by rw[Ren.val]
 |.map (a9 _),h=>by simp[af]at h
 |.chan bi,_=>by rw[Ren.val]
 |.chan (a9 _),h=>by simp[af]at h
 |.func f a b,h=>by cases f<;>simp only[af,zA6,zD2]at h<;>simp only[Ren.val,Ren.fn,yA ρ a h.1,yA ρ b h.2]
 |.nilFunc,_=>by rw[Ren.val]
 |.iface t v,h=>by rw[Ren.val,dM ρ v (by simpa[af]using h)]
 |.nilIface,_=>by rw[Ren.val]
 |.agg cs,h=>by rw[Ren.val,yA ρ cs (by simpa[af]using h)]
 |.tuple cs,h=>by rw[Ren.val,yA ρ cs (by simpa[af]using h)]
def yA(ρ:Ren):∀ c,Oc c=bv->ρ.eV c=c
 |⟨l⟩,h=>by rw[Ren.eV,Et ρ l (by simpa[Oc]using h)]
def Et(ρ:Ren):∀ l,DO l=bv->ρ.iU l=l
 |[],_=>rfl
 |v::r,h=>by simp only[DO,zA6]at h;rw[Ren.iU,dM ρ v h.1,Et ρ r h.2]
end
structure Ext (N:Nat) (ρ ρ':Ren):Prop where
 blk:∀ n,n<N->ρ'.blk n=ρ.blk n
 sh:∀ n,n<N->ρ'.sh n=ρ.sh n
 ex:∀ n,n<N->ρ'.ex n=ρ.ex n
 op:∀ n,n<N->ρ'.op n=ρ.op n
def Ext.refl(N:Nat)(ρ:Ren):Ext N ρ ρ:=⟨fun _ _=>rfl,fun _ _=>rfl,fun _ _=>rfl,fun _ _=>rfl⟩
def Ext.trans{N M:Nat}{ρ c a:Ren}(h:Ext N ρ c)(d:Ext M c a)(e:N<=M):Ext N ρ a :=
 ⟨fun n b=>(d.blk n lw).trans (h.blk n b),fun n b=>(d.sh n lw).trans (h.sh n b),fun n b=>(d.ex n lw).trans (h.ex n b),fun n b=>(d.op n lw).trans (h.op n b)⟩
def bT{a b:Nat}(h:Nat.blt a b=bv):a<b:=by simpa[Nat.blt_eq]using h
def bd{a b:Nat}(h:a<b):Nat.blt a b=true:=by simpa[Nat.blt_eq]using h
def jl{a b:Nat}(h:Nat.ble a b=bv):a<=b:=zA7 h
mutual
def je{N:Nat}{ρ d:Ren}(e:Ext N ρ d):∀ v,aV N v=bv->d.val v=ρ.val v
 |.bool _,_=>by rw[Ren.val,Ren.val]
 |.int _ _,_=>by rw[Ren.val,Ren.val]
 |.float _ _,_=>by rw[Ren.val,Ren.val]
 |.complex _ _ _,_=>by rw[Ren.val,Ren.val]
 |.string _,_=>by rw[Ren.val,Ren.val]
 |li bi,_=>by rw[Ren.val,Ren.val]
 |li (a9 a),h=>by have c:=bT (by simpa[aV]using h);simp only[Ren.val,e.blk _ c,e.sh _ c]
 |lm bi _ _,_=>by rw[Ren.val,Ren.val]
 |lm (a9 a) _ _,h=>by have c:=bT (by simpa[aV]using h);simp only[Ren.val,Ren.pJ,Ren.rB,Ren.C2,e.blk _ c,e.sh _ c,e.ex _ c,e.op _ c]
 |.map bi,_=>by rw[Ren.val,Ren.val]
 |.map (a9 r),h=>by have c:=bT (by simpa[aV]using h);simp only[Ren.val,e.blk _ c]
 |.chan bi,_=>by rw[Ren.val,Ren.val]
 |.chan (a9 k),h=>by have c:=bT (by simpa[aV]using h);simp only[Ren.val,e.op _ c]
 |.func f a b,h=>by
  cases f with
  |yield l =>simp only[aV,zA6]at h;simp only[Ren.val,Ren.fn,e.blk _ (bT h.1.1),kI e a h.1.2,kI e b h.2]
  |_ =>simp only[aV,zA6]at h;simp only[Ren.val,Ren.fn,kI e a h.1,kI e b h.2]
 |.nilFunc,_=>by rw[Ren.val,Ren.val]
 |.iface t v,h=>by rw[Ren.val,Ren.val,je e v (by simpa[aV]using h)]
 |.nilIface,_=>by rw[Ren.val,Ren.val]
 |.agg cs,h=>by rw[Ren.val,Ren.val,kI e cs (by simpa[aV]using h)]
 |.tuple cs,h=>by rw[Ren.val,Ren.val,kI e cs (by simpa[aV]using h)]
def kI{N:Nat}{ρ a:Ren}(e:Ext N ρ a):∀ c,fL N c=bv->a.eV c=ρ.eV c
 |⟨l⟩,h=>by rw[Ren.eV,Ren.eV,F9 e l (by simpa[fL]using h)]
def F9{N:Nat}{ρ a:Ren}(e:Ext N ρ a):∀ l,aT N l=bv->a.iU l=ρ.iU l
 |[],_=>rfl
 |v::r,h=>by simp only[aT,zA6]at h;rw[Ren.iU,Ren.iU,je e v h.1,F9 e r h.2]
end
mutual
def cU{N M:Nat}(c:N<=M):∀ v,aV N v=bv->aV M v=bv
 |.bool _,_=>by simp[aV]
 |.int _ _,_=>by simp[aV]
 |.float _ _,_=>by simp[aV]
 |.complex _ _ _,_=>by simp[aV]
 |.string _,_=>by simp[aV]
 |li bi,_=>by simp[aV]
 |li (a9 a),h=>by have d:=bT (by simpa[aV]using h);simp only[aV]; exact bd lw
 |lm bi _ _,_=>by simp[aV]
 |lm (a9 a) _ _,h=>by have d:=bT (by simpa[aV]using h);simp only[aV]; exact bd lw
 |.map bi,_=>by simp[aV]
 |.map (a9 r),h=>by have d:=bT (by simpa[aV]using h);simp only[aV]; exact bd lw
 |.chan bi,_=>by simp[aV]
 |.chan (a9 r),h=>by have d:=bT (by simpa[aV]using h);simp only[aV]; exact bd lw
 |.func f a b,h=>by
  cases f with
  |yield l =>simp only[aV,zA6]at h ⊢;have d:=bT h.1.1;exact⟨⟨bd lw,jt c a h.1.2⟩,jt c b h.2⟩
  |_ =>simp only[aV,zA6]at h ⊢;exact⟨jt c a h.1,jt c b h.2⟩
 |.nilFunc,_=>by simp[aV]
 |.iface t v,h=>by rw[aV]; exact cU c v (by simpa[aV]using h)
 |.nilIface,_=>by simp[aV]
 |.agg cs,h=>by rw[aV]; exact jt c cs (by simpa[aV]using h)
 |.tuple cs,h=>by rw[aV]; exact jt c cs (by simpa[aV]using h)
def jt{N M:Nat}(a:N<=M):∀ c,fL N c=bv->fL M c=bv
 |⟨l⟩,h=>by rw[fL]; exact dV a l (by simpa[fL]using h)
def dV{N M:Nat}(a:N<=M):∀ l,aT N l=bv->aT M l=bv
 |[],_=>rfl
 |v::r,h=>by simp only[aT,zA6]at h ⊢;exact⟨cU a v h.1,dV a r h.2⟩
end
def ck{N:Nat}{l:List go}:aT N l=bv ↔ ∀ v∈l,aV N v=true:=by
 induction l with
 |nil=>simp[aT]
 |cons v r a=>simp[aT,a]
def eY(N:Nat):aV N undef=true:=by simp[undef,aV,fL,aT]
mutual
def gv{N:Nat}:∀ v,af v=bv->aV N v=bv
 |.bool _,_=>by simp[aV]
 |.int _ _,_=>by simp[aV]
 |.float _ _,_=>by simp[aV]
 |.complex _ _ _,_=>by simp[aV]
 |.string _,_=>by simp[aV]
 |li bi,_=>by simp[aV]
 |li (a9 a),h=>by simp[af]at h
 |lm bi _ _,_=>by simp[aV]
 |lm (a9 a) _ _,h=>by simp[af]at h
 |.map bi,_=>by simp[aV]
 |.map (a9 r),h=>by simp[af]at h
 |.chan bi,_=>by simp[aV]
 |.chan (a9 _),h=>by simp[af]at h
 |.func f a b,h=>by cases f<;>simp only[af,zA6,zD2]at h<;>simp only[aV,zA6,oM a h.1,oM b h.2,and_self]
 |.nilFunc,_=>by simp[aV]
 |.iface t v,h=>by rw[aV]; exact gv v (by simpa[af]using h)
 |.nilIface,_=>by simp[aV]
 |.agg cs,h=>by rw[aV]; exact oM cs (by simpa[af]using h)
 |.tuple cs,h=>by rw[aV]; exact oM cs (by simpa[af]using h)
def oM{N:Nat}:∀ c,Oc c=bv->fL N c=bv
 |⟨l⟩,h=>by rw[fL]; exact sn l (by simpa[Oc]using h)
def sn{N:Nat}:∀ l,DO l=bv->aT N l=bv
 |[],_=>rfl
 |v::r,h=>by simp only[DO,zA6]at h;simp only[aT,zA6];exact⟨gv v h.1,sn r h.2⟩
end
def Ren.val_one(ρ:Ren)(v:go):one (ρ.val v)=one v:=by
 cases v with
 |pointer a=>cases a<;>simp[Ren.val,one]
 |slice a _ _=>cases a<;>simp[Ren.val,one]
 |map a=>cases a<;>simp[Ren.val,one]
 |chan a =>
  cases a with
  |none=>simp[Ren.val,one]
  |some k=>rw[Ren.val,Ln (ρ.op1 k)]; rfl
 |_=>simp[Ren.val,one]
def NX{v:go}(h:one v=bv)(a:∀ cs,v≠.agg cs):v.cells=#[v]:=by
 cases v with
 |agg cs=>exact absurd rfl (a cs)
 |_=>rfl
def Ren.ot(ρ:Ren)(v:go):(ρ.val v).cells=v.cells.map ρ.val:=by
 cases v with
 |pointer a=>cases a<;>simp[Ren.val,Value.cells]
 |slice a _ _=>cases a<;>simp[Ren.val,Value.cells]
 |map a=>cases a<;>simp[Ren.val,Value.cells]
 |chan a =>
  cases a with
  |none=>simp[Ren.val,Value.cells]
  |some k =>have h:=Ln (ρ.op1 k);rw[Ren.val,NX h (fun cs e=>by rw[e]at h; cases h)];simp[Value.cells,Ren.val]
 |agg cs=>simp[Ren.val,Value.cells,Ren.ed]
 |_=>simp[Ren.val,Value.cells]
def Ren.entry(ρ:Ren)(e:MapEntry):MapEntry:={e with val:=ρ.val e.val}
def l6(N:Nat)(o:dO):Prop :=
 match o.obj with
 |.cells _ _ _=>∀ i,i<o.rv.n->aV N (o.rv.get i)=bv
 |.map a _=>∀ e∈a,qg e.key=bv/\aV N e.val=bv
 |.loop r=>r.defers<N/\∀ i,i<o.rv.n->aV N (o.rv.get i)=bv
 |_=>True
def Ren.tmps(ρ:Ren)(e:RV):Array Value:=Array.ofFn (n:=e.n) fun i=>ρ.val (e.get i)
def Fits(P:ip)(ρ:Ren)(n:Nat)(o:dO)(o':Obj):Prop :=
 match o.obj with
 |.cells _ e f=>∃ (c:Array go) (b:Nat × Nat),o'=.cells c e b/\(∀ i,i<o.rv.n->c[i+ρ.sh n]?=a9 (ρ.val (o.rv.get i))) /\
   (o.opn=ci->c.size=o.rv.n/\ρ.sh n=0/\ρ.ex n=0/\b=(0,0)) /\
   (o.opn=bv->f.1=0->(ρ.sh n+o.rv.n+ρ.ex n*P.cellsOf e<=c.size/\(ρ.ex n≠0->o.rv.n+ρ.ex n*P.cellsOf e<=9223372036854775807*P.cellsOf e))/\∀ i,ρ.sh n<=i->i<ρ.sh n+o.rv.n+ρ.ex n*P.cellsOf e->¬(b.1<=i/\i<b.2))
 |.map g a=>o'=.map (g.map ρ.entry) a
 |.stringIter s d=>o'=.stringIter s d/\ρ.sh n=0
 |.loop r=>∃ fn,o'=.loop {r with fn:=fn,tmps:=ρ.tmps o.rv,defers:=ρ.blk r.defers}
 |.deferred (a9 [])=>o'=.deferred (a9 [])
 |.deferred bi=>o'=.deferred bi
 |_=>False
def TW:dO->Bool
 |⟨.cells _ _ (_+1,_),bv,_⟩=>bv
 |_=>ci
def Fz(x:Option dO):Prop:=∃ o,x=a9 o/\TW o=bv
structure Rel (P:ip) (ρ:Ren) (H:aa) (w:i6):Prop where
 base:H.base<=H.next
 glob:P.globals.size<=H.next/\∀ g,g<P.globals.size->ρ.blk g=g/\ρ.sh g=0
 inj:∀ m n,H.get m≠bi->H.get n≠bi->ρ.blk m=ρ.blk n->m=n\/Fz (H.get m)/\Fz (H.get n)
 dom:∀ n o,H.get n=a9 o->n<H.next/\l6 H.next o
 obj:∀ n o,H.get n=a9 o->∃ o',w.heap[ρ.blk n]?=a9 o'/\Fits P ρ n o o'
structure Le (H H1:aa):Prop where
 next:H.next<=H1.next
 base:H1.base=H.base
 dirty:∀ n,n∈H.dirty->n∈H1.dirty
 gH:∀ n,n<H.base->n∉H1.dirty->H1.get n=H.get n
 gone:∀ n,n<H.next->H.get n=bi->H1.get n=bi
def Le.refl(H:aa):Le H H:=⟨zA4 _,rfl,fun _ h=>h,fun _ _ _=>rfl,fun _ _ h=>h⟩
def Le.trans{H H1 e:aa}(a:Le H H1)(b:Le H1 e):Le H e where
 next:=zC4 a.next b.next
 base:=b.base.trans a.base
 dirty:=fun n h=>b.dirty n (a.dirty n h)
 gH:=fun n c d=>(b.gH n (by rw[a.base]; exact c) d).trans (a.gH n c (fun h=>d (b.dirty n h)))
 gone:=fun n c d=>b.gone n (zE0 c a.next) (a.gone n c d)
def Le.back{H H1:aa}(a:Le H H1){n:Nat}(h:n<H.next)(b:H1.get n≠bi):H.get n≠none:=fun e=>b (a.gone n h e)
structure St (P:ip) (ρ:Ren) (H:aa) (w:i6) (ρ1:Ren) (H1:aa) (w1:i6):Prop where
 ext:Ext H.next ρ ρ1
 le:Le H H1
 rel:Rel P ρ1 H1 w1
 os:w1.os=w.os
 tape:w1.tape=w.tape
 output:w1.output=w.output
 size:w.heap.size<=w1.heap.size
 gO:∀ b,b<w.heap.size->(∀ n,n<H.next->(H.base<=n\/n∈H1.dirty)->H.get n≠bi->ρ.blk n≠b)->w1.heap[b]?=w.heap[b]?
 fresh:∀ n,H.next<=n->H1.get n≠bi->w.heap.size<=ρ1.blk n\/∃ m,m<H.next/\H.get m≠bi/\(H.base<=m\/m∈H1.dirty)/\ρ1.blk n=ρ.blk m
 ro:∀ n,Fz (H.get n)->(n∈H1.dirty->n∈H.dirty)/\H1.get n=H.get n
def Rel.lt{P:ip}{ρ:Ren}{H:aa}{w:i6}(r:Rel P ρ H w){n:Nat}(h:H.get n≠bi):n<H.next:=by
 cases e:H.get n with
 |none=>exact absurd e h
 |some o=>exact (r.dom n o e).1
def Rel.wq{P:ip}{ρ:Ren}{H:aa}{w:i6}(r:Rel P ρ H w){n:Nat}(h:H.get n≠bi):ρ.blk n<w.heap.size:=by
 cases e:H.get n with
 |none=>exact absurd e h
 |some o =>
  obtain⟨o',a,_⟩:=r.obj n o e;rcases zC0 (ρ.blk n) w.heap.size with h1|h1
  .exact h1
  .simp[Array.getElem?_eq_none h1]at a
def St.refl{P:ip}{ρ:Ren}{H:aa}{w:i6}(r:Rel P ρ H w):St P ρ H w ρ H w :=
 ⟨Ext.refl _ _,Le.refl _,r,rfl,rfl,rfl,zA4 _,fun _ _ _=>rfl,fun n b a=>absurd (r.lt a) lw,fun _ _=>⟨id,rfl⟩⟩
def Fz.ne{x:Option dO}(h:Fz x):x≠none:=by obtain⟨o,rfl,_⟩:=h;simp
def St.trans{P:ip}{ρ i j:Ren}{H H1 r:aa}{w w1 s:i6}(a:St P ρ H w i H1 w1)(b:St P i H1 w1 j r s):St P ρ H w j r s where
 ext:=a.ext.trans b.ext a.le.next
 le:=a.le.trans b.le
 rel:=b.rel
 os:=b.os.trans a.os
 tape:=b.tape.trans a.tape
 output:=b.output.trans a.output
 size:=zC4 a.size b.size
 gO:=fun x hx q=>by
  have u:w1.heap[x]?=w.heap[x]?:=a.gO x hx fun n o d c=>q n o (d.imp id (b.le.dirty n)) c;rw[<-u];refine b.gO x (zE0 hx a.size) fun n o d c=>?_;rw[a.le.base]at d;rcases zC0 n H.next with h|h
  .rw[a.ext.blk n h];exact q n h d (a.le.back h c)
  .rcases a.fresh n h c with e|⟨m,p,f,g,l⟩
   .omega
   .rw[l];exact q m p (g.imp id (b.le.dirty m)) f
 fresh:=fun n o c=>by
  rcases zC0 n H1.next with h|h
  .rw[b.ext.blk n h]
   rcases a.fresh n o (b.le.back h c) with e|⟨m,p,f,g,l⟩
   .exact .inl e
   .exact .inr ⟨m,p,f,g.imp id (b.le.dirty m),l⟩
  .rcases b.fresh n h c with e|⟨m,p,f,g,l⟩
   .exact .inl (zC4 a.size e)
   .rw[l];rw[a.le.base]at g;rcases zC0 m H.next with hm|hm
    .exact .inr ⟨m,hm,a.le.back hm f,g,a.ext.blk m hm⟩
    .rcases a.fresh m hm f with e|⟨k,v,y,z,A⟩
     .exact .inl e
     .exact .inr ⟨k,v,y,z.imp id (b.le.dirty k),A⟩
 ro:=fun n h=>by obtain⟨B,t⟩:=a.ro n h;obtain⟨C,D⟩:=b.ro n (by rw[t]; exact h);exact⟨fun d=>B (C d),D.trans t⟩
def Ren.ug{N:Nat}{ρ a:Ren}(e:Ext N ρ a)(v:RV)(h:∀ i,i<v.n->aV N (v.get i)=bv):a.tmps v=ρ.tmps v:=by unfold Ren.tmps;congr 1;funext i;exact je e _ (h i i.2)
def Fits.ext{P:ip}{ρ b:Ren}{N n:Nat}{o:dO}{o':Obj}(h:Fits P ρ n o o')(a:n<N)(d:l6 N o)(e:Ext N ρ b):Fits P b n o o':=by
 obtain⟨g,z,v⟩:=o
 unfold Fits l6 at *
 cases g with
 |cells A t B =>
  obtain⟨c,j,k,m,q,u⟩:=h;refine⟨c,j,k,fun i hi=>?_,?_,?_⟩
  .rw[e.sh n a,m i hi,je e _ (d i hi)]
  .rw[e.sh n a,e.ex n a]; exact q
  .rw[e.sh n a,e.ex n a]; exact u
 |map C f =>simp only at h d ⊢;rw[h];congr 1;apply Array.map_congr_left;intro x hx;simp only[Ren.entry,je e _ (d x hx).2]
 |loop r =>obtain⟨fn,h⟩:=h;refine⟨fn,?_⟩;rw[h,Ren.ug e v d.2,e.blk _ d.1]
 |stringIter s p=>exact⟨h.1,by rw[e.sh n a]; exact h.2⟩
 |deferred y =>
  cases y with
  |none=>exact h
  |some l=>cases l<;>exact h
 |_=>exact h
def l6.mono{N M:Nat}{o:dO}(h:l6 N o)(a:N<=M):l6 M o:=by
 obtain⟨d,f,v⟩:=o
 unfold l6 at *
 cases d with
 |cells g t j=>exact fun i hi=>cU a _ (h i hi)
 |map k b=>exact fun e c=>⟨(h e c).1,cU a _ (h e c).2⟩
 |loop r=>exact⟨zE0 h.1 a,fun i hi=>cU a _ (h.2 i hi)⟩
 |_=>trivial
def St.world{P:ip}{ρ:Ren}{H:aa}{w w1:i6}(r:Rel P ρ H w)(h:w1.heap=w.heap)(c:w1.os=w.os)(a:w1.tape=w.tape)(d:w1.output=w.output) :
  St P ρ H w ρ H w1 :=
 ⟨Ext.refl _ _,Le.refl _,⟨r.base,r.glob,r.inj,r.dom,fun n o e=>by rw[h]; exact r.obj n o e⟩,c,a,d,by rw[h]; exact zA4 _,fun b _ _=>by rw[h],
  fun n c a=>absurd (r.lt a) lw,fun _ _=>⟨id,rfl⟩⟩
def Ren.at(ρ:Ren)(n b s e:Nat):Ren:=⟨fun m=>if m=n then b else ρ.blk m,fun m=>if m=n then s else ρ.sh m,fun m=>if m=n then e else ρ.ex m,ρ.op,ρ.op1⟩
@[simp] theorem Ren.at_blk (ρ:Ren) (n b s e:Nat):(ρ.at n b s e).blk n=b:=by simp[Ren.at]
@[simp] theorem Ren.at_sh (ρ:Ren) (n b s e:Nat):(ρ.at n b s e).sh n=s:=by simp[Ren.at]
@[simp] theorem Ren.at_ex (ρ:Ren) (n b s e:Nat):(ρ.at n b s e).ex n=e:=by simp[Ren.at]
def Ren.lr(ρ:Ren)(n b s e:Nat):Ext n ρ (ρ.at n b s e) :=
 ⟨fun m h=>by simp[Ren.at,Nat.ne_of_lt h],fun m h=>by simp[Ren.at,Nat.ne_of_lt h],fun m h=>by simp[Ren.at,Nat.ne_of_lt h],fun m _=>by simp[Ren.at]⟩
def bJ{α:Type}{o:Option α}{x:α}(h:o=a9 x):o≠none:=by rw[h]; simp
def St.new{P:ip}{ρ:Ren}{H:aa}{w:i6}(r:Rel P ρ H w)(o:dO)(o':Obj)(s e:Nat)(v:l6 H.next o)
  (z:Fits P (ρ.at H.next w.heap.size s e) H.next o o'):St P ρ H w (ρ.at H.next w.heap.size s e) (H.new o) (w.alloc o'):=by
 have f:=Ren.lr ρ H.next w.heap.size s e;have c:∀ n,n≠H.next->(H.new o).get n=H.get n:=fun n d=>by rw[aa.fk,if_neg d]
 have cn:∀ {n},H.get n≠bi->n≠H.next:=fun h e=>absurd (r.lt h) lw;have k:(H.new o).get H.next=a9 o:=by rw[aa.fk,if_pos rfl]
 refine⟨f,⟨Nat.le_succ _,rfl,fun _ h=>h,fun n A _=>c n (by have:=r.base; omega),fun n d h=>by rw[c n lw]; exact h⟩,⟨Nat.le_succ_of_le r.base,⟨Nat.le_succ_of_le r.glob.1,fun g q=>?_⟩,?_,?_,?_⟩,rfl,rfl,rfl,by simp,fun b A _=>?_,?_,fun n h=>⟨id,c n (cn h.ne)⟩⟩
 .have:=r.glob.1;rw[f.blk g lw,f.sh g lw]; exact r.glob.2 g q
 .intro m n j d p;by_cases a:m=H.next<;>by_cases l:n=H.next
  .exact .inl (by rw[a,l])
  .rw[c n l]at d;subst a;rw[Ren.at_blk,f.blk n (r.lt d)]at p;have:=r.wq d;omega
  .rw[c m a]at j;subst l;rw[Ren.at_blk,f.blk m (r.lt j)]at p;have:=r.wq j;omega
  .rw[c m a]at j;rw[c n l]at d;rw[f.blk m (r.lt j),f.blk n (r.lt d)]at p;rw[c m a,c n l];exact r.inj m n j d p
 .intro n x hx;by_cases a:n=H.next
  .subst a;rw[k]at hx;cases hx;exact⟨zF3 _,v.mono (Nat.le_succ _)⟩
  .rw[c n a]at hx;have:=r.dom n x hx;exact⟨Nat.lt_succ_of_lt this.1,this.2.mono (Nat.le_succ _)⟩
 .intro n x hx;by_cases a:n=H.next
  .subst a;rw[k]at hx;cases hx;exact⟨o',by rw[Ren.at_blk]; show (w.heap.push o')[w.heap.size]?=a9 o'; simp,z⟩
  .rw[c n a]at hx;obtain⟨y,B,t⟩:=r.obj n x hx;have u:=r.dom n x hx;refine⟨y,?_,t.ext u.1 u.2 f⟩;rw[f.blk n u.1];have:=r.wq (bJ hx);simp only[World.alloc];rw[Array.getElem?_push,if_neg lw]; exact B
 .simp only[World.alloc];rw[Array.getElem?_push,if_neg lw]
 .intro n d i;by_cases a:n=H.next
  .subst a; exact .inl (by rw[Ren.at_blk]; exact zA4 _)
  .rw[c n a]at i;exact absurd (r.lt i) lw
def St.cH{P:ip}{ρ:Ren}{H:aa}{w w1:i6}(r:Rel P ρ H w){n:Nat}{o:dO}{o':Obj}(l:H.get n≠bi)(i:¬Fz (H.get n))(z:l6 H.next o)
  (A:Fits P ρ n o o') (B:w1.heap[ρ.blk n]?=a9 o') (J:w1.heap.size=w.heap.size) (d:∀ b,b≠ρ.blk n->w1.heap[b]?=w.heap[b]?)
  (C:w1.os=w.os) (D:w1.tape=w.tape) (E:w1.output=w.output):St P ρ H w ρ (H.cH n (a9 o)) w1:=by
 have j:∀ m,m≠n->(H.cH n (a9 o)).get m=H.get m:=fun m c=>by rw[aa.fC,if_neg c]
 have p:(H.cH n (a9 o)).get n=a9 o:=by rw[aa.fC,if_pos rfl]
 have f:∀ m,(H.cH n (a9 o)).get m≠bi->H.get m≠none:=fun m c=>by
  by_cases h:m=n
  .rw[h]; exact l
  .rw[j m h]at c; exact c
 have g:n<H.base->n∈(H.cH n (a9 o)).dirty:=fun s=>by simp[aa.eT,bd s]
 refine⟨Ext.refl _ _,⟨zA4 _,rfl,fun m c=>?_,fun m s c=>j m (fun e=>c (e▸g (e▸s))),fun m c h=>?_⟩,⟨r.base,r.glob,fun m k c F t=>(r.inj m k (f m c) (f k F) t).imp id fun⟨a,b⟩=>⟨by rw[j m (fun e=>i (e▸a))]; exact a,by rw[j k (fun e=>i (e▸b))]; exact b⟩,?_,?_⟩,C,D,E,by omega,fun b s G=>?_,fun m c u=>absurd (r.lt (f m u)) lw,fun m c=>?_⟩
 .simp only[aa.eT]; split
  .exact zB9 _ c
  .exact c
 .by_cases e:m=n
  .subst e; exact absurd h l
  .rw[j m e]; exact h
 .intro m x hx;by_cases e:m=n
  .subst e;rw[p]at hx;cases hx;exact⟨r.lt l,z⟩
  .rw[j m e]at hx; exact r.dom m x hx
 .intro m x hx;by_cases e:m=n
  .subst e;rw[p]at hx;cases hx;exact⟨o',B,A⟩
  .rw[j m e]at hx;obtain⟨y,I,v⟩:=r.obj m x hx;refine⟨y,?_,v⟩;rw[d _ (fun t=>(r.inj m n (bJ hx) l t).elim e fun h=>i h.2)]; exact I
 .by_cases e:b=ρ.blk n
  .exact absurd e.symm (G n (r.lt l) (by
    rcases zC0 n H.base with h|h
    .exact .inr (g h)
    .exact .inl h) l)
  .exact d b e
 .have q:m≠n:=fun e=>i (e▸c);refine⟨fun h=>?_,j m q⟩;simp only[aa.eT]at h;split at h
  .exact (zA8.1 h).resolve_left q
  .exact h
def St.del{P:ip}{ρ:Ren}{H:aa}{w:i6}(r:Rel P ρ H w)(n:Nat)(g:¬Fz (H.get n)):St P ρ H w ρ (H.cH n bi) w:=by
 have j:∀ m,m≠n->(H.cH n bi).get m=H.get m:=fun m c=>by rw[aa.fC,if_neg c]
 have l:(H.cH n bi).get n=none:=by rw[aa.fC,if_pos rfl]
 have f:∀ m x,(H.cH n bi).get m=a9 x->H.get m=a9 x:=fun m x c=>by
  by_cases h:m=n
  .rw[h,l]at c; cases c
  .rw[j m h]at c; exact c
 have d:∀ m,(H.cH n bi).get m≠bi->H.get m≠none:=fun m c=>by
  cases e:(H.cH n bi).get m with
  |none=>exact absurd e c
  |some x=>exact bJ (f m x e)
 have i:n<H.base->n∈(H.cH n bi).dirty:=fun p=>by simp[aa.eT,bd p]
 refine⟨Ext.refl _ _,⟨zA4 _,rfl,fun m c=>?_,fun m p c=>j m (fun e=>c (e▸i (e▸p))),fun m c h=>?_⟩,⟨r.base,r.glob,fun m k c s t=>(r.inj m k (d m c) (d k s) t).imp id fun⟨a,b⟩=>⟨by rw[j m (fun e=>g (e▸a))]; exact a,by rw[j k (fun e=>g (e▸b))]; exact b⟩,fun m x hx=>r.dom m x (f m x hx),fun m x hx=>r.obj m x (f m x hx)⟩,rfl,rfl,rfl,zA4 _,fun _ _ _=>rfl,fun m c q=>absurd (r.lt (d m q)) lw,fun m c=>?_⟩
 .simp only[aa.eT]; split
  .exact zB9 _ c
  .exact c
 .by_cases e:m=n
  .subst e; exact l
  .rw[j m e]; exact h
 .have o:m≠n:=fun e=>g (e▸c);refine⟨fun h=>?_,j m o⟩;simp only[aa.eT]at h;split at h
  .exact (zA8.1 h).resolve_left o
  .exact h
def St.move{P:ip}{ρ:Ren}{H:aa}{w w1:i6}(r:Rel P ρ H w){n:Nat}{o:dO}{o':Obj}(s e:Nat)(C:H.get n≠bi)(q:¬Fz (H.get n))(R:l6 H.next o)
  (S:Fits P (ρ.at H.next (ρ.blk n) s e) H.next o o') (T:w1.heap[ρ.blk n]?=a9 o') (hz:w1.heap.size=w.heap.size) (i:∀ b,b≠ρ.blk n->w1.heap[b]?=w.heap[b]?)
  (U:w1.os=w.os) (V:w1.tape=w.tape) (W:w1.output=w.output):St P ρ H w (ρ.at H.next (ρ.blk n) s e) ((H.cH n bi).new o) w1:=by
 have t:=Ren.lr ρ H.next (ρ.blk n) s e;have D:=r.lt C;have f:(H.cH n bi).next=H.next:=rfl;have E:((H.cH n bi).new o).get H.next=a9 o:=by rw[aa.fk,f,if_pos rfl]
 have F:((H.cH n bi).new o).get n=none:=by rw[aa.fk,f,if_neg lw,aa.fC,if_pos rfl]
 have v:∀ m,m≠n->m≠H.next->((H.cH n bi).new o).get m=H.get m:=fun m h X=>by rw[aa.fk,f,if_neg X,aa.fC,if_neg h]
 have j:n<H.base->n∈((H.cH n bi).new o).dirty:=fun I=>by simp[aa.oK,aa.eT,bd I]
 have z:H.base<=n\/n∈((H.cH n bi).new o).dirty:=by
  rcases zC0 n H.base with h|h
  .exact .inr (j h)
  .exact .inl h
 have a:∀ m,m≠H.next->((H.cH n bi).new o).get m≠bi->H.get m≠bi/\m≠n:=fun m h c=>by
  by_cases e:m=n
  .subst e; exact absurd F c
  .rw[v m e h]at c; exact⟨c,e⟩
 refine⟨t,⟨Nat.le_succ _,rfl,fun m c=>?_,fun m I c=>v m (fun e=>c (e▸j (e▸I))) (by have:=r.base; omega),fun m c h=>?_⟩,
  ⟨Nat.le_succ_of_le r.base,⟨Nat.le_succ_of_le r.glob.1,fun g K=>?_⟩,?_,?_,?_⟩,U,V,W,by omega,fun b I Y=>?_,?_,fun m c=>?_⟩
 .simp only[aa.oK,aa.eT]; split
  .exact zB9 _ c
  .exact c
 .by_cases e:m=n
  .subst e; exact F
  .rw[v m e lw]; exact h
 .have:=r.glob.1;rw[t.blk g lw,t.sh g lw]; exact r.glob.2 g K
 .intro m k c Q A;by_cases d:m=H.next<;>by_cases G:k=H.next
  .exact .inl (by rw[d,G])
  .obtain⟨l,L⟩:=a k G Q;subst d;rw[Ren.at_blk,t.blk k (r.lt l)]at A;exact ((r.inj n k C l A).elim (fun e=>absurd e.symm L) fun h=>absurd h.1 q)
  .obtain⟨p,u⟩:=a m d c;subst G;rw[Ren.at_blk,t.blk m (r.lt p)]at A;exact ((r.inj m n p C A).elim (fun e=>absurd e u) fun h=>absurd h.2 q)
  .obtain⟨p,Z⟩:=a m d c;obtain⟨l,j2⟩:=a k G Q;rw[t.blk m (r.lt p),t.blk k (r.lt l)]at A;rw[v m Z d,v k j2 G];exact r.inj m k p l A
 .intro m x hx;by_cases d:m=H.next
  .subst d;rw[E]at hx;cases hx;exact⟨zF3 _,R.mono (Nat.le_succ _)⟩
  .have J:=a m d (bJ hx);rw[v m J.2 d]at hx;have:=r.dom m x hx;exact⟨Nat.lt_succ_of_lt this.1,this.2.mono (Nat.le_succ _)⟩
 .intro m x hx;by_cases d:m=H.next
  .subst d;rw[E]at hx;cases hx;exact⟨o',by rw[Ren.at_blk]; exact T,S⟩
  .have J:=a m d (bJ hx);rw[v m J.2 d]at hx;obtain⟨y,hy,M⟩:=r.obj m x hx;have B:=r.dom m x hx;refine⟨y,?_,M.ext B.1 B.2 t⟩;rw[t.blk m B.1,i _ (fun A=>(r.inj m n (bJ hx) C A).elim J.2 fun h=>q h.2)]; exact hy
 .by_cases e:b=ρ.blk n
  .exact absurd e.symm (Y n D z C)
  .exact i b e
 .intro m c N;by_cases d:m=H.next
  .subst d; exact .inr ⟨n,D,C,z,by rw[Ren.at_blk]⟩
  .exact absurd (r.lt (a m d N).1) lw
 .have u:m≠n:=fun e=>q (e▸c);have O:m≠H.next:=fun e=>absurd (r.lt c.ne) lw;refine⟨fun h=>?_,v m u O⟩;simp only[aa.oK,aa.eT]at h;split at h
  .exact (zA8.1 h).resolve_left u
  .exact h
def ay{P:ip}{w:i6}{t:io}{d:TypeDesc}(h:P.underlying t=a9 d):(underlying t).run P w=.ok d w:=by simp[underlying,h]
def ct{P:ip}{w:i6}{t:io}{n:Nat}(h:br P t=a9 n):(sizeOf t).run P w=.ok n w:=by
 unfold br at h
 cases e:P.info? t with
 |none=>simp[e]at h
 |some i=>simp[e]at h; simp[sizeOf,typeInfo,e,h]
def bK{P:ip}{t:io}{n:Nat}(h:br P t=a9 n):P.cellsOf t=n:=by unfold br at h;simp[Program.cellsOf,h]
def kF{P:ip}{w:i6}{t:io}{i:TypeInfo}(h:P.info? t=a9 i):(typeInfo t).run P w=.ok i w:=by simp[typeInfo,h]
def o8{P:ip}{t:io}{n:Nat}(h:bytesOf P t=a9 n):∃ i,P.info? t=a9 i/\i.bytes=n:=by
 unfold bytesOf at h
 cases e:P.info? t with
 |none=>simp[e]at h
 |some i=>simp[e]at h; exact⟨i,rfl,h⟩
def ee{P:ip}{w:i6}{t:io}{v:go}(h:zeroOf P t=a9 v):(zeroValue t).run P w=.ok v w/\af v=true:=by
 unfold zeroOf at h
 cases e:P.info? t with
 |none=>simp[e]at h
 |some i =>
  simp only[e]at h
  cases a:i.zero with
  |none=>simp[a]at h
  |some z =>
   simp only[a]at h;split at h
   .rename_i b;simp only[i8]at h;subst h;exact⟨by simp[zeroValue,typeInfo,e,a],b⟩
   .cases h
def tI{P:ip}{w:i6}{t:io}{b:Bool}(h:fj P t=a9 b):(isAgg t).run P w=.ok b w:=by
 unfold fj at h;unfold isAgg
 cases e:P.underlying t with
 |none=>simp[e]at h
 |some d =>simp only[e]at h;simp only[Sem.run_bind,ay e,Result.andThen_ok];cases d<;>simp_all
def vP{α:Type}{P:ip}(s:Sem α):∀ {a:α},du P s=a9 a->∀ w,s.run P w=.ok a w:=by
 induction s with
 |pure x=>intro a h w; simp[du]at h; simp[h]
 |program k b=>intro a h w; simp only[du]at h; simp only[Sem.run]; exact b P h w
 |mark m k b=>intro a h w; simp only[du]at h; simp only[Sem.run]; exact b h w
 |load|store|new|shape|freeze|frozen|getObj|setObj|choose|sys|halt=>intro a h; simp[du]at h
def Iz{α:Type}{P:ip}(s:Sem α):∀ {v:go},qE P s=a9 v->∀ w,s.run P w=.halt (.panic v) w:=by
 induction s with
 |halt h =>intro v c w;cases h<;>simp[qE]at c;simp[c]
 |program k b=>intro a h w; simp only[qE]at h; simp only[Sem.run]; exact b P h w
 |mark m k b=>intro a h w; simp only[qE]at h; simp only[Sem.run]; exact b h w
 |load|store|new|shape|freeze|frozen|getObj|setObj|choose|sys|pure=>intro a h; simp[qE]at h
structure qy (P:ip) (ρ:Ren) (n:Nat) (v:RV) (e:io) (op:Bool) (w:i6) (c:Array go) (fz:Nat × Nat):Prop where
 at_:w.heap[ρ.blk n]?=a9 (.cells c e fz)
 cell:∀ i,i<v.n->c[i+ρ.sh n]?=a9 (ρ.val (v.get i))
 shut:op=ci->c.size=v.n/\ρ.sh n=0/\ρ.ex n=0/\fz=(0,0)
structure Cells (P:ip) (ρ:Ren) (n:Nat) (v:RV) (e:io) (op:Bool) (w:i6) (c:Array go) (fz:Nat × Nat):Prop extends qy P ρ n v e op w c fz where
 room:op=bv->ρ.ex n≠0->v.n+ρ.ex n*P.cellsOf e<=9223372036854775807*P.cellsOf e
 open_:op=bv->ρ.sh n+v.n+ρ.ex n*P.cellsOf e<=c.size/\∀ i,ρ.sh n<=i->i<ρ.sh n+v.n+ρ.ex n*P.cellsOf e->¬(fz.1<=i/\i<fz.2)
def eI{H:aa}{n:Nat}{v:RV}{e:io}{c:Bool}(h:bO H n=a9 (v,e,c)):∃ a b,H.get n=a9 ⟨.cells a e (0,b),c,v⟩:=by
 unfold bO at h;split at h
 .rename_i a f b o g d;simp only[i8,i9]at h;obtain⟨rfl,rfl,rfl⟩:=h;exact⟨a,b,d⟩
 .cases h
def yV{H:aa}{n:Nat}{v:RV}{e:io}{c:Bool}(h:aP H n=a9 (v,e,c)):∃ a b,H.get n=a9 ⟨.cells a e b,c,v⟩:=by
 unfold aP at h;split at h
 .rename_i a f b o g d;simp only[i8,i9]at h;obtain⟨rfl,rfl,rfl⟩:=h;exact⟨a,b,d⟩
 .cases h
def M3{H:aa}{n:Nat}{x:RV × io × Bool}(h:bO H n=a9 x):aP H n=a9 x:=by obtain⟨v,e,b⟩:=x;obtain⟨c,d,a⟩:=eI h;simp[aP,a]
def Q3{o:Obj}{c:RV}:TW ⟨o,ci,c⟩=false:=by
 unfold TW;split
 .rename_i h; simp only[dO.mk.injEq]at h; exact absurd h.2.1 nl
 .rfl
def tF{H:aa}{n:Nat}{x:dO}(c:H.get n=a9 x)(h:TW x=ci):¬Fz (H.get n):=by rintro⟨o,a,b⟩;rw[c]at a;cases a;rw[h]at b;cases b
def oJ{H:aa}{n:Nat}{x:RV × io × Bool}(h:bO H n=a9 x):¬Fz (H.get n):=by obtain⟨v,e,b⟩:=x;obtain⟨f,g,c⟩:=eI h;rintro⟨o,a,d⟩;rw[c]at a;cases a;cases b<;>simp[TW]at d
section
variable{P:ip}{ρ:Ren}{H:aa}{w:i6}
def Rel.cells(r:Rel P ρ H w){n:Nat}{v:RV}{e:io}{d:Bool}(h:bO H n=a9 (v,e,d)) :
  ∃ c a,Cells P ρ n v e d w c a:=by
 obtain⟨l,m,g⟩:=eI h;obtain⟨o',i,f⟩:=r.obj n _ g;simp only[Fits]at f;obtain⟨c,a,rfl,j,k,b⟩:=f;exact⟨c,a,⟨i,j,k⟩,fun h=>(b h trivial).1.2,fun h=>⟨(b h trivial).1.1,(b h trivial).2⟩⟩
def Rel.Dz(r:Rel P ρ H w){n:Nat}{v:RV}{e:io}{b:Bool}(h:aP H n=a9 (v,e,b)) :
  ∃ c a,qy P ρ n v e b w c a:=by
 obtain⟨k,l,f⟩:=yV h;obtain⟨o',g,d⟩:=r.obj n _ f;simp only[Fits]at d;obtain⟨c,a,rfl,i,j,m⟩:=d;exact⟨c,a,g,i,j⟩
def Rel.zK(r:Rel P ρ H w){n:Nat}{v:RV}{e:io}{a:Bool}(h:bO H n=a9 (v,e,a)):∀ i,i<v.n->aV H.next (v.get i)=true:=by obtain⟨c,d,b⟩:=eI h;have:=(r.dom n _ b).2;simpa only[l6]using this
def qy.lt{n:Nat}{v:RV}{e:io}{a:Bool}{c:Array go}{b:Nat × Nat}(h:qy P ρ n v e a w c b){i:Nat}(hi:i<v.n):i+ρ.sh n<c.size:=by
 have:=h.cell i hi;rcases zC0 (i+ρ.sh n) c.size with h1|h1
 .exact h1
 .simp[Array.getElem?_eq_none h1]at this
def qy.cell?{n:Nat}{v:RV}{e:io}{a:Bool}{c:Array go}{b:Nat × Nat}(h:qy P ρ n v e a w c b){i:Nat}(hi:i<v.n) :
  w.cell? ⟨ρ.blk n,i+ρ.sh n,bi⟩=a9 (ρ.val (v.get i)):=by
 simp[World.cell?,h.at_,h.cell i hi]
def Cells.ON{n:Nat}{v:RV}{e:io}{b:Bool}{c:Array go}{a:Nat × Nat}(h:Cells P ρ n v e b w c a){i:Nat}(d:ρ.sh n<=i)(f:i<ρ.sh n+v.n+ρ.ex n*P.cellsOf e):¬(a.1<=i/\i<a.2):=by
 cases b with
 |false=>have:=(h.shut rfl).2.2.2; subst this; simp
 |true=>exact (h.open_ rfl).2 i d f
def kJ(b off i:Nat):(Addr.mk b off bi).add i=⟨b,off+i,bi⟩:=by
 unfold Addr.add;split
 .subst_vars; rfl
 .rfl
def run_loadCellsFrom(b off:Nat)(f:Nat->go):∀(n i:Nat)(a:Array go),(∀ j,j<n->w.cell? ⟨b,off+(i+j),bi⟩=a9 (f (i+j))) ->
  (loadCellsFrom ⟨b,off,bi⟩ i n a).run P w=.ok (a++((List.range n).map fun j=>f (i+j)).toArray) w:=by
 intro n
 induction n with
 |zero=>intro i a _; simp[loadCellsFrom]
 |succ n d =>intro i a h;have c:=h 0 (Nat.succ_pos _);rw[zD5]at c;simp only[loadCellsFrom,Sem.run_bind,kJ,run_load,c,Result.andThen_ok];rw[d (i+1) _ (fun j e=>by have:=h (j+1) lw; rw[show i+1+j=i+(j+1) from by omega]; exact this)];congr 1;rw[List.range_succ_eq_map,zB8,List.map_map];apply Array.ext';simp only[Array.toList_append,Array.toList_push,zC8,List.singleton_append,zD5];congr 2;apply List.map_congr_left;intro j _;simp only[Function.comp];rw[show i+1+j=i+j.succ from by omega]
def PL(ρ:Ren)(v:RV)(i k:Nat):(v.ky i k).map ρ.val=(List.range k).map fun j=>ρ.val (v.get (i+j)):=by rw[RV.iI,List.map_map]; rfl
def qy.load{n:Nat}{v:RV}{e:io}{a:Bool}{c:Array go}{b:Nat × Nat}(h:qy P ρ n v e a w c b){off k:Nat}(d:off+k<=v.n) :
  (loadCells ⟨ρ.blk n,off+ρ.sh n,bi⟩ k).run P w=.ok ((v.ky off k).map ρ.val).toArray w:=by
 unfold loadCells
 rw[run_loadCellsFrom (ρ.blk n) (off+ρ.sh n) (fun j=>ρ.val (v.get (off+j))) k 0 #[] (fun j f=>by
  have:=h.cell? (i:=off+j) lw
  rw[show off+ρ.sh n+(0+j)=off+j+ρ.sh n from by omega,show 0+j=j from by omega]; exact this)]
 simp[PL]
def vT(r:Rel P ρ H w){t:io}{n off:Nat}{x:go}(h:ib P H t (li (a9 ⟨n,off,bi⟩))=a9 x) :
  (loadVar t ⟨ρ.blk n,off+ρ.sh n,bi⟩).run P w=.ok (ρ.val x) w:=by
 simp only[ib,zA1,zA2]at h;obtain⟨⟨v,e,i⟩,hc,b,hb,h⟩:=h;obtain⟨c,j,g⟩:=r.Dz hc
 cases b with
 |true =>
  simp only[zA2]at h;obtain⟨sz,a,h⟩:=h;split at h
  .rename_i d;simp only[i8]at h;subst h;simp only[loadVar,Sem.run_bind,tI hb,Result.andThen_ok,if_true,ct a,g.load (jl d),Sem.run_pure,Ren.val,Ren.eV,Ren.oN]
  .cases h
 |false =>
  simp only at h;split at h
  .rename_i f;simp only[i8]at h;subst h;simp only[loadVar,Sem.run_bind,tI hb,Result.andThen_ok,zD2,if_false,run_load,g.cell? (bT f)]
  .cases h
def wx{t:io}{p x:go}(h:ib P H t p=a9 x):∃ n off,p=li (a9 ⟨n,off,bi⟩):=by
 unfold ib at h;split at h
 .rename_i n off; exact⟨n,off,rfl⟩
 .cases h
def qU(ρ:Ren)(n off:Nat):ρ.val (li (a9 ⟨n,off,bi⟩))=li (a9 ⟨ρ.blk n,off+ρ.sh n,bi⟩):=by simp[Ren.val]
def N6(r:Rel P ρ H w){t:io}{p x:go}(h:ib P H t p=a9 x):(Instr.loadAt t (ρ.val p)).run P w=.ok (ρ.val x) w:=by obtain⟨n,off,rfl⟩:=wx h;rw[qU];simp[Instr.loadAt,Instr.sureAddr,vT r h]
def Ti(c:Array go)(i:Nat):List go->Array go
 |[]=>c
 |v::r=>Ti (c.setIfInBounds i v) (i+1) r
def Bg(l:List go):∀(c:Array go)(i:Nat),(Ti c i l).size=c.size:=by
 induction l with
 |nil=>intro c i; rfl
 |cons v r a=>intro c i; simp[Ti,a]
def Lf(l:List go):∀(c:Array go)(i j:Nat),i+l.length<=c.size->(Ti c i l)[j]?=if i<=j/\j<i+l.length then l[j-i]? else c[j]?:=by
 induction l with
 |nil=>intro c i j _; simp[Ti]; omega
 |cons v r d =>
  intro c i j h;simp only[zA9]at h ⊢;rw[Ti,d _ _ _ pp];by_cases a:i+1<=j/\j<i+1+r.length
  .rw[if_pos a,if_pos lw]
   obtain⟨k,rfl⟩:∃ k,j=i+1+k:=⟨j-(i+1),by omega⟩
   rw[show i+1+k-(i+1)=k from by omega,show i+1+k-i=k+1 from by omega];simp
  .rw[if_neg a,Array.getElem?_setIfInBounds];by_cases b:i=j
   .subst b;rw[if_pos rfl,if_pos lw,if_pos lw];simp
   .rw[if_neg b,if_neg lw]
def OF{v:go}(h:one v=bv):v.oneCell'=true:=by cases v<;>simp_all [one,Value.oneCell']
def pZ(b off:Nat)(e:io)(f:Nat × Nat):∀(vs:List go)(i:Nat)(w:i6)(c:Array go),w.heap[b]?=a9 (.cells c e f)->off+i+vs.length<=c.size ->
  (∀ v∈vs,one v=bv)->(∀ j,off+i<=j->j<off+i+vs.length->¬(f.1<=j/\j<f.2)) ->
  ∃ w',(storeCells ⟨b,off,bi⟩ vs i).run P w=.ok () w'/\w'.heap[b]?=a9 (.cells (Ti c (off+i) vs) e f)/\w'.heap.size=w.heap.size /\
   (∀ k,k≠b->w'.heap[k]?=w.heap[k]?)/\w'.os=w.os/\w'.tape=w.tape/\w'.output=w.output:=by
 intro vs
 induction vs with
 |nil=>intro i w c g _ _ _; exact⟨w,by simp[storeCells],by simpa[Ti]using g,rfl,fun _ _=>rfl,rfl,rfl,rfl⟩
 |cons v r t =>
  intro i w c g m a h;simp only[zA9]at m;have n:off+i<c.size:=by omega
  have d:w.cell? ⟨b,off+i,bi⟩=a9 c[off+i]:=by simp[World.cell?,g,n]
  have o:w.frozen? ⟨b,off+i,bi⟩=false:=by have:=h (off+i) (zA4 _) (by simp only[zA9]; omega);simp only[World.frozen?,g];simpa using this
  have l:(w.setCell ⟨b,off+i,bi⟩ v).heap[b]?=a9 (.cells (c.setIfInBounds (off+i) v) e f):=by simp[World.setCell,Array.getElem?_modify,g]
  obtain⟨w',p,q,u,y,z,A,B⟩:=t (i+1) (w.setCell ⟨b,off+i,bi⟩ v) (c.setIfInBounds (off+i) v) l pp (fun x hx=>a x (zB9 _ hx))
   (fun j p q=>h j lw (by simp only[zA9]; omega))
  refine⟨w',?_,?_,?_,?_,z,A,B⟩
  .simp only[storeCells,Sem.run_bind,kJ,run_store P w _ v _ (OF (a v (zF2 ..))),d,o,zD2,if_false,Result.andThen_ok];exact p
  .rw[q]; simp only[Ti]; rfl
  .rw[u]; simp
  .intro k s;rw[y k s];simp only[World.setCell,Array.getElem?_modify];rw[if_neg (fun e=>s e.symm)]
def pr(r:Rel P ρ H w){n off:Nat}{vs:List go}{H1:aa}(h:dT H n off vs=a9 H1) :
  ∃ w1,St P ρ H w ρ H1 w1/\(storeCells ⟨ρ.blk n,off+ρ.sh n,bi⟩ (vs.map ρ.val)).run P w=.ok () w1:=by
 simp only[dT,zA1,zA2]at h;obtain⟨⟨v,e,s⟩,hc,h⟩:=h;simp only at h;split at h
 .rename_i a;simp only[zA6]at a;obtain⟨⟨g,k⟩,hsc⟩:=a;have g:=jl g;simp only[i8]at h;subst h;obtain⟨c,p,b⟩:=r.cells hc;obtain⟨F,G,t⟩:=eI hc
  have m:ρ.sh n+v.n<=c.size:=by
   rcases Nat.eq_zero_or_pos v.n with I|hp
   .cases s with
    |false=>have:=b.shut rfl; omega
    |true=>have:=(b.open_ rfl).1; omega
   .have:=b.lt (i:=v.n-1) lw; omega
  obtain⟨w1,q,o,u,z,A,B,C⟩:=pZ (P:=P) (ρ.blk n) (off+ρ.sh n) e p (vs.map ρ.val) 0 w c b.at_ pp
   (fun x hx=>by
    obtain⟨y,D,rfl⟩:=zC1.1 hx
    rw[Ren.val_one]; exact zC3.1 k y D)
   (fun j q o=>b.ON lw (by simp only[zE1]at o; omega))
  refine⟨w1,?_,q⟩;refine St.cH r (bJ t) (oJ hc) ?_ ?_ o u z A B C
  .simp only[l6];intro i hi;rw[RV.qj]at hi;rw[RV.nI];split
   .rename_i d;have f:i-off<vs.length:=by omega
    have E:vs.getD (i-off) undef∈vs:=by simp[List.getD,f]
    exact ck.1 hsc _ E
   .exact r.zK hc i hi
  .simp only[Fits];refine⟨_,p,rfl,fun i hi=>?_,fun l=>?_,fun l=>?_⟩
   .rw[RV.qj]at hi;rw[Lf _ _ _ _ pp,RV.nI];simp only[zD5,zE1];by_cases d:off<=i/\i<off+vs.length
    .rw[if_pos lw,if_pos d];have f:i-off<vs.length:=by omega
     rw[show i+ρ.sh n-(off+ρ.sh n)=i-off from by omega];simp[List.getD,f]
    .rw[if_neg lw,if_neg d]; exact b.cell i hi
   .rw[Bg,RV.qj]; exact b.shut l
   .intro _; rw[Bg,RV.qj]; exact⟨⟨(b.open_ l).1,b.room l⟩,(b.open_ l).2⟩
 .cases h
def Jm(r:Rel P ρ H w){t:io}{p x:go}{H1:aa}(h:fw P H t p x=a9 H1) :
  ∃ w1,St P ρ H w ρ H1 w1/\(Instr.storeAt t (ρ.val p) (ρ.val x)).run P w=.ok () w1:=by
 unfold fw at h;split at h
 .rename_i n off;simp only[zA1,zA2]at h;obtain⟨sz,b,h⟩:=h;split at h
  .rename_i a;obtain⟨w1,d,e⟩:=pr r h;refine⟨w1,d,?_⟩;have c:(ρ.val x).cells.size=sz:=by rw[Ren.ot]; simpa using a
   rw[qU];simp only[Instr.storeAt,Instr.sureAddr,storeVar,Sem.run_bind,Sem.run_pure,Result.andThen_ok,ct b,c,ne_eq,not_true,if_false];rw[Ren.ot];simpa using e
  .cases h
 .cases h
def qR(r:Rel P ρ H w){e:io}{c:List go}{H1:aa}(h:cJ H e c ci=a9 H1) :
  St P ρ H w (ρ.at H.next w.heap.size 0 0) H1 (w.alloc (.cells (c.map ρ.val).toArray e)):=by
 unfold cJ at h;split at h
 .rename_i a;simp only[i8]at h;subst h;refine St.new r _ _ 0 0 ?_ ?_
  .simp only[l6,RV.n_ofList,RV.cM];intro i hi;exact ck.1 a _ (by simp[List.getD,hi])
  .simp only[Fits];refine⟨_,(0,0),rfl,fun i hi=>?_,fun _=>?_,fun h=>by cases h⟩
   .simp only[RV.n_ofList]at hi;rw[RV.cM,Ren.at_sh,je (Ren.lr ρ H.next w.heap.size 0 0) _ (ck.1 a _ (by simp[List.getD,hi]))];simp[List.getD,hi]
   .simp
 .cases h
def BP(r:Rel P ρ H w){e:io}{c:List go}{H1:aa}(h:cJ H e c bv=a9 H1)(a:Array go)(b:Nat)(f:a.size=b*P.cellsOf e)(g:c.length+b*P.cellsOf e<=9223372036854775807*P.cellsOf e) :
  St P ρ H w (ρ.at H.next w.heap.size 0 b) H1 (w.alloc (.cells ((c.map ρ.val).toArray++a) e)):=by
 unfold cJ at h;split at h
 .rename_i d;simp only[i8]at h;subst h;refine St.new r _ _ 0 b ?_ ?_
  .simp only[l6,RV.n_ofList,RV.cM];intro i hi;exact ck.1 d _ (by simp[List.getD,hi])
  .simp only[Fits];refine⟨_,(0,0),rfl,fun i hi=>?_,fun h=>(by cases h),fun _=>?_⟩
   .simp only[RV.n_ofList]at hi;rw[RV.cM,Ren.at_sh,je (Ren.lr ρ H.next w.heap.size 0 b) _ (ck.1 d _ (by simp[List.getD,hi]))];rw[Array.getElem?_append_left (by simpa using hi)];simp[List.getD,hi]
   .simp[f];exact fun _=>g
 .cases h
end
def Ren.tq(ρ:Ren)(d:Deferred):Deferred :=
 match d.target with
 |.collected r=>⟨.collected (ρ.blk r),d.args⟩
 |.fn f cap=>⟨.fn (ρ.fn f) (ρ.eV cap),ρ.eV d.args⟩
 |_=>d
def Ren.act(ρ:Ren)(a:ah):Act:=⟨ρ.tmps a.env,a.defers.map ρ.tq⟩
def jT(ρ:Ren)(e:RV)(t:Nat):(ρ.tmps e)[t]?=if t<e.n then a9 (ρ.val (e.get t)) else none:=by
 unfold Ren.tmps;by_cases h:t<e.n
 .simp[h]
 .simp[h]
def Ni(ρ:Ren)(e:RV)(t:Nat):(ρ.tmps e).getD t undef=if t<e.n then ρ.val (e.get t) else undef:=by rw[Array.getD_eq_getD_getElem?,jT];split<;>rfl
@[simp] theorem tmps_size (ρ:Ren) (e:RV):(ρ.tmps e).size=e.n:=by simp[Ren.tmps]
def od{a b:Nat}(h:¬a<b):Nat.blt a b=false:=by
 cases e:Nat.blt a b with
 |false=>rfl
 |true=>exact absurd (bT e) h
def uL(ρ:Ren)(a:ah)(t:Nat):(ρ.act a).tmps.getD t undef=ρ.val (a.tmp t):=by
 simp only[Ren.act,Ni,ah.tmp];by_cases h:t<a.env.n
 .simp[h,bd h]
 .simp[h,od h]
def GU(ρ:Ren)(e:RV)(d:Nat)(v:go):(ρ.tmps e).setIfInBounds d (ρ.val v)=ρ.tmps (if Nat.blt d e.n then e.set d v else e):=by
 apply Array.ext_getElem?;intro i;rw[Array.getElem?_setIfInBounds,jT,jT,tmps_size];by_cases h:d<e.n
 .rw[bd h,if_pos rfl,RV.n_set,RV.uh];by_cases a:d=i
  .subst a; simp[h]
  .have b:¬i=d:=fun h=>a h.symm;simp[a,b]
 .rw[od h];by_cases a:d=i
  .subst a; simp[h]
  .rw[if_neg a]; simp
def km(ρ:Ren)(a:ah)(dst:Option Tmp)(v:go):(ρ.act a).put dst (ρ.val v)=ρ.act (a.put dst v):=by
 cases dst with
 |none=>rfl
 |some d =>simp only[Act.put,ah.put_eq,Ren.act,GU];split<;>rfl
section
variable{P:ip}{ρ:Ren}{H:aa}{w:i6}
def aL(r:Rel P ρ H w){a:ah}{x:i7}{v:go}(h:aO P a x=a9 v):(ρ.act a).eval x=ρ.val v:=by
 cases x with
 |tmp t=>simp only[aO,i8]at h; subst h; exact uL ρ a t
 |const c =>
  simp only[aO]at h;split at h
  .rename_i b;simp only[i8]at h;subst h;rw[dM ρ _ b]; rfl
  .cases h
 |global g =>
  simp only[aO]at h;split at h
  .rename_i d;simp only[i8]at h;subst h;obtain⟨e,i⟩:=r.glob.2 g (bT d);simp[Act.eval,Ren.val,e,i]
  .cases h
 |func f=>simp only[aO,i8]at h; subst h; simp[Act.eval,Ren.val,Ren.fn,Ren.eV,Ren.iU]
def mw(r:Rel P ρ H w){a:ah}:∀ {xs:List i7} {vs:List go},fJ P a xs=a9 vs->xs.map (ρ.act a).eval=vs.map ρ.val
 |[],vs,h=>by simp only[fJ,i8]at h; subst h; rfl
 |x::xs,vs,h=>by simp only[fJ,zA1,zA2,i8]at h;obtain⟨v,b,d,c,rfl⟩:=h;simp[aL r b,mw r c]
def vB(r:Rel P ρ H w){a:ah}:∀ {xs:List (Nat × i7)} {vs:List (Nat × go)},iS P a xs=a9 vs->xs.map (fun p=>(p.1,(ρ.act a).eval p.2))=vs.map (fun p=>(p.1,ρ.val p.2))
 |[],vs,h=>by simp only[iS,i8]at h; subst h; rfl
 |(i,x)::xs,vs,h=>by simp only[iS,zA1,zA2,i8]at h;obtain⟨v,b,d,c,rfl⟩:=h;simp[aL r b,vB r c]
def qD(r:Rel P ρ H w){a:ah}{x:Option i7}{v:Option go}(h:mT P a x=a9 v):x.map (ρ.act a).eval=v.map ρ.val:=by
 cases x with
 |none=>simp only[mT,i8]at h; subst h; rfl
 |some x =>simp only[mT,zB5]at h;obtain⟨u,b,rfl⟩:=h;simp[aL r b]
def BH{t:io}{cs:List go}{off:Nat}{x:go}(h:CL P t cs off=a9 x):(part t (cs.map ρ.val).toArray off).run P w=.ok (ρ.val x) w:=by
 simp only[CL,zA1,zA2]at h;obtain⟨b,c,h⟩:=h
 cases b with
 |true =>simp only[zA2,i8]at h;obtain⟨sz,a,rfl⟩:=h;simp only[part,Sem.run_bind,tI c,Result.andThen_ok,if_true,ct a,Sem.run_pure,Ren.val,Ren.eV,Ren.oN];congr 2;apply Array.ext';simp only[Array.toList_extract,List.extract_eq_take_drop,List.map_take,List.map_drop];congr 1; omega
 |false =>simp only at h;simp[part,tI c,h]
def IK{t:io}{x v:go}{f:Nat}(h:vW P t x f=a9 v):(Instr.field t (ρ.val x) f).run P w=.ok (ρ.val v) w:=by
 unfold vW at h;split at h
 .rename_i a cs e;split at h
  .rename_i g c;have b:a[f]?=a9 g:=by simpa using c
   have i:=BH (w:=w) (ρ:=ρ) h;have d:ρ.val (.agg cs)=.agg (cs.toList.map ρ.val).toArray:=by rw[Ren.val,Ren.ed]; congr 1; apply Array.ext'; simp
   rw[d];simp[Instr.field,ay e,b,asAgg,i]
  .cases h
 .cases h
def KG(ρ:Ren)(a:Addr)(k:Nat):ρ.val (li (a9 (a.add k)))=li (a9 ((Addr.mk (ρ.blk a.block) (a.off+ρ.sh a.block) a.spot).add k)):=by
 unfold Addr.add;by_cases h:k=0
 .simp[h,Ren.val]
 .simp only[h,if_false,Ren.val];congr 3; omega
def A6{t:io}{x v:go}{f:Nat}(h:aJ P t x f=a9 v):(Instr.fieldAt t (ρ.val x) f).run P w=.ok (ρ.val v) w:=by
 unfold aJ at h;split at h
 .rename_i b a i;split at h
  .rename_i j d;have c:b[f]?=a9 j:=by simpa using d
   split at h
   .cases h
   .rename_i k cn l;simp only[i8]at h;subst h;have g:k≠0:=fun e=>cn e;rw[KG];simp only[Ren.val,Instr.fieldAt,Sem.run_bind,ay i,Result.andThen_ok,c,Instr.sureAddr,Sem.run_pure,fieldPlace,ct l,g,if_false]
   .cases h
  .cases h
 .cases h
def Uw(s:ByteArray)(n:Nat):s[n]?=s.data.toList[n]?:=by
 by_cases h:n<s.size
 .rw[getElem?_pos s n h,Array.getElem?_toList];exact (Array.getElem?_eq_getElem h).symm
 .rw[getElem?_neg s n h,Array.getElem?_toList];exact (Array.getElem?_eq_none (Nat.not_lt.1 h)).symm
def Je{t:io}{x i v:go}(h:DV P t x i=a9 v):(Instr.index t (ρ.val x) (ρ.val i)).run P w=.ok (ρ.val v) w:=by
 unfold DV at h;split at h
 .rename_i len g cs k n a;simp only[zA1,zA2]at h;obtain⟨sz,c,h⟩:=h;split at h
  .rename_i d;have j:=BH (w:=w) (ρ:=ρ) h;have e:ρ.val (.agg cs)=.agg (cs.toList.map ρ.val).toArray:=by rw[Ren.val,Ren.ed]; congr 1; apply Array.ext'; simp
   rw[e];simp[Instr.index,asIntOf,Ren.val,ay a,d,ct c,j]
  .cases h
 .rename_i s k n a;split at h
  .rename_i l;simp only[zB5]at h;obtain⟨b,m,rfl⟩:=h;have f:s[n.toNat]?=a9 b:=by rw[Uw]; exact m
   simp[Instr.index,asIntOf,Ren.val,ay a,l,f]
  .cases h
 .cases h
def AD{t:io}{x i v:go}(h:aW P t x i=a9 v):(Instr.indexAt t (ρ.val x) (ρ.val i)).run P w=.ok (ρ.val v) w:=by
 unfold aW at h;split at h
 .rename_i len d a k n e;simp only[zA1,zA2]at h;obtain⟨sz,b,h⟩:=h;split at h
  .rename_i c;simp only[i8]at h;subst h;rw[KG];simp[Instr.indexAt,asIntOf,Ren.val,ay e,c,ct b,Instr.sureAddr]
  .cases h
 .rename_i d a len cap k n e;simp only[zA1,zA2]at h;obtain⟨sz,b,h⟩:=h;split at h
  .rename_i c;simp only[i8]at h;subst h;have g:ρ.pJ a len cap=a.off:=Ren.oP (.inr lw);have f:ρ.C2 a len cap=none:=Ren.qb (.inr lw);simp[Instr.indexAt,asIntOf,Ren.val,g,f,ay e,c,ct b,kJ];omega
  .cases h
 .cases h
def oV{d k:Nat}(h:bound d bi=a9 k):k=d:=by simpa[bound]using h.symm
def mm{d k:Nat}{v:go}(h:bound d (a9 v)=a9 k):∃ kd,v=.int kd (k:Int):=by
 unfold bound at h;split at h
 .rename_i a; cases a
 .rename_i kd i a;split at h
  .rename_i b;cases a;simp only[i8]at h;exact⟨kd,by rw[<-h,Int.toNat_of_nonneg b]⟩
  .cases h
 .cases h
def run_sliceBound{kd:IntKind}{k y:Nat}(a:BoundsCode)(h:k<=y):(Instr.sliceBound (.int kd k) y a).run P w=.ok k w:=by simp[Instr.sliceBound,asIntOf,h]
def eX(b:Bool){len cap l h:Nat}{lo hi:Option go}(a:bound 0 lo=a9 l)(c:bound len hi=a9 h)(f:hi=bi\/h<=cap)(d:l<=h) :
  (Instr.sliceBounds b len cap (lo.map ρ.val) (hi.map ρ.val) bi).run P w=.ok (l,h,cap) w:=by
 cases hi with
 |none =>
  have:=oV c;subst this
  cases lo with
  |none=>have:=oV a; subst this; simp[Instr.sliceBounds]
  |some v=>obtain⟨kd,rfl⟩:=mm a; simp[Instr.sliceBounds,Ren.val,run_sliceBound _ d]
 |some u =>
  obtain⟨kd,rfl⟩:=mm c;have e:h<=cap:=by simpa using f
  cases lo with
  |none=>have:=oV a; subst this; simp[Instr.sliceBounds,Ren.val,run_sliceBound _ e]
  |some v=>obtain⟨kd,rfl⟩:=mm a; simp[Instr.sliceBounds,Ren.val,run_sliceBound _ d,run_sliceBound _ e]
def nM{len cap l h m:Nat}{kd:IntKind}{lo hi:Option go}(b:bound 0 lo=a9 l)(e:bound len hi=a9 h)(a:hi≠bi)(c:m<=cap)(d:h<=m)(f:l<=h) :
  (Instr.sliceBounds bv len cap (lo.map ρ.val) (hi.map ρ.val) (a9 (.int kd m))).run P w=.ok (l,h,m) w:=by
 cases hi with
 |none=>exact absurd rfl a
 |some u =>
  obtain⟨kd,rfl⟩:=mm e
  cases lo with
  |none=>have:=oV b; subst this; simp[Instr.sliceBounds,Ren.val,run_sliceBound _ c,run_sliceBound _ d]
  |some v=>obtain⟨kd,rfl⟩:=mm b; simp[Instr.sliceBounds,Ren.val,run_sliceBound _ c,run_sliceBound _ d,run_sliceBound _ f]
def lP(P:ip)(ρ:Ren)(H:aa)(w:i6)(s:Sem go)(v:go)(H1:aa):Prop :=
 ∃ a w1,St P ρ H w a H1 w1/\s.run P w=.ok (a.val v) w1
def lP.same(r:Rel P ρ H w){s:Sem go}{v:go}(h:s.run P w=.ok (ρ.val v) w):lP P ρ H w s v H:=⟨ρ,w,St.refl r,h⟩
def pb{n:Nat}{b:Bool}(h:jq H n=a9 b):∃ v e,aP H n=a9 (v,e,b):=by
 unfold jq at h;split at h
 .rename_i c e f o v a;simp only[i8]at h;subst h;exact⟨v,e,by simp[aP,a]⟩
 .cases h
def vQ(r:Rel P ρ H w){a:Addr}{len cap:Nat}(h:cX H a=a9 bv):ρ.val (lm (a9 a) len cap)=lm (a9 ⟨ρ.blk a.block,a.off+ρ.sh a.block,bi⟩) len cap:=by
 unfold cX at h;split at h
 .rename_i d; obtain⟨i,j,f⟩:=a; simp only at d; subst d; simp[Ren.val]
 .cases h
 .rename_i d;simp only[zB5]at h;obtain⟨b,k,l⟩:=h;have g:b=false:=by cases b<;>simp_all
  subst g;obtain⟨v,e,m⟩:=pb k;obtain⟨c,o,n⟩:=r.Dz m;obtain⟨i,j,f⟩:=a; simp only at d; subst d;have:=(n.shut rfl).2.2.1;simp only at this;simp[Ren.val,this]
def E6{a:Addr}{len cap:Nat}(h:fR H a len cap=a9 bv):cX H a=a9 true:=by
 unfold fR at h;split at h
 .split at h
  .split at h<;>cases h
  .cases h
 .exact h
def inexact{a:Addr}(h:cX H a=a9 ci):a.spot=bi/\jq H a.block=a9 true:=by
 unfold cX at h;split at h
 .cases h
 .cases h
 .rename_i c;simp only[zB5]at h;obtain⟨b,d,e⟩:=h;have:b=true:=by cases b<;>simp_all
  subst this;exact⟨c,d⟩
def M8{a:Addr}{len cap:Nat}(h:fR H a len cap=a9 ci):jq H a.block=a9 bv/\(a.spot=bi\/∃ k,a.spot=a9 (k+1)/\len=0/\cap=0):=by
 unfold fR at h;split at h
 .rename_i k c;split at h
  .rename_i b;have b:len+cap=0:=Nat.eq_of_beq_eq_true b;split at h
   .rename_i d;exact⟨d,.inr ⟨k,c,by omega,by omega⟩⟩
   .cases h
  .cases h
 .exact⟨(inexact h).2,.inl (inexact h).1⟩
def Jj(b o m l sz:Nat):(if m=l then a9 (Addr.mk b o bi) else (a9 (Addr.mk b o bi)).map (·.add (l*sz)))=a9 ⟨b,if m=l then o else o+l*sz,bi⟩:=by
 by_cases h:m=l
 .simp[h]
 .simp[h,kJ]
def LM(c:Prop)[Decidable c](a b s:Nat):(if c then a+s else a+s+b)=(if c then a else a+b)+s:=by split<;>omega
def FF(r:Rel P ρ H w){t e:io}{sz:Nat}{a:Option Addr}{len cap m:Nat}{kd:IntKind}{lo hi:Option go}{v:go}{H1:aa}
  (g:P.underlying t=a9 (.slice e)) (b:br P e=a9 sz) (c:hi≠bi) (h:yD H sz a len cap lo hi m=a9 (v,H1)) :
  lP P ρ H w (Instr.slice t (ρ.val (.slice a len cap)) (lo.map ρ.val) (hi.map ρ.val) (a9 (.int kd m))) v H1:=by
 simp only[yD,zA1,zA2]at h;obtain⟨l,i,p,d,h⟩:=h;split at h
 .rename_i o;obtain⟨j,c2,k,n⟩:=o
  cases a with
  |none =>simp only[i8,i9]at h;obtain⟨rfl,rfl⟩:=h;refine lP.same r ?_;simp only[Ren.val,Instr.slice,Sem.run_bind,ay g,Result.andThen_ok,nM i d c j c2 k,ct b,Sem.run_pure,Option.map_none,ite_self]
  |some a =>simp only[i8,i9]at h;obtain⟨rfl,rfl⟩:=h;refine lP.same r ?_;have f:m<=ρ.rB a len cap:=zC4 j Ren.DW;simp only[Ren.val,Instr.slice,Sem.run_bind,ay g,Result.andThen_ok,nM i d c f c2 k,ct b,Sem.run_pure];simp only[Ren.oP (.inl (n a rfl)),Ren.qb (.inl (n a rfl)),Ren.spS_zero,Ren.offS_zero,Ren.capS_zero,Jj,LM]
 .cases h
def Gq(r:Rel P ρ H w){t e:io}{sz:Nat}{a:Option Addr}{len cap:Nat}{lo hi:Option go}{v:go}{H1:aa}
  (m:P.underlying t=a9 (.slice e)) (d:br P e=a9 sz) (h:et H sz a len cap lo hi=a9 (v,H1)) :
  lP P ρ H w (Instr.slice t (ρ.val (.slice a len cap)) (lo.map ρ.val) (hi.map ρ.val) bi) v H1:=by
 simp only[et,zA1,zA2]at h;obtain⟨l,n,i,f,h⟩:=h;split at h
 .rename_i o;obtain⟨y,c2⟩:=o
  cases a with
  |none =>simp only[i8,i9]at h;obtain⟨rfl,rfl⟩:=h;refine lP.same r ?_;simp only[Ren.val,Instr.slice,Sem.run_bind,ay m,Result.andThen_ok,eX bv n f (.inr y) c2,ct d,Sem.run_pure,Option.map_none,ite_self]
  |some a =>
   obtain⟨C,p⟩:=ac (cX H a);simp only[p]at h
   cases C with
   |none =>
    simp only at h;split at h
    .rename_i o;obtain⟨rfl,rfl,_⟩:=o;simp only[i8,i9]at h;obtain⟨rfl,rfl⟩:=h;refine lP.same r ?_;have z:=Ren.DW (ρ:=ρ) (a:=a) (len:=i) (cap:=cap);simp only[Ren.val,Instr.slice,Sem.run_bind,ay m,Result.andThen_ok,eX (cap:=ρ.rB a i cap) bv n f (.inr lw) c2,ct d,Sem.run_pure];simp[Addr.add]
    .cases h
   |some b =>
    cases b with
    |true =>
    simp only[i8,i9]at h;obtain⟨rfl,rfl⟩:=h;refine lP.same r ?_;rw[vQ r p];simp only[Instr.slice,Sem.run_bind,ay m,Result.andThen_ok,eX bv n f (.inr y) c2,ct d,Sem.run_pure,Jj,Ren.val,Ren.spS_zero,Ren.offS_zero,Ren.capS_zero,LM]
    |false =>
    obtain⟨A,E⟩:=inexact p;have j:ρ.val (lm (a9 a) len cap)=lm (a9 ⟨ρ.blk a.block,a.off+ρ.sh a.block,bi⟩) len (cap+ρ.ex a.block):=by obtain⟨F,G,D⟩:=a; simp only at A; subst A; simp[Ren.val]
    have c:(Instr.slice t (ρ.val (lm (a9 a) len cap)) (lo.map ρ.val) (hi.map ρ.val) bi).run P w =
      .ok (lm (a9 ⟨ρ.blk a.block,if cap+ρ.ex a.block=l then a.off+ρ.sh a.block else a.off+ρ.sh a.block+l*sz,bi⟩) (i-l) (cap+ρ.ex a.block-l)) w:=by
     rw[j];simp only[Instr.slice,Sem.run_bind,ay m,Result.andThen_ok,eX (cap:=cap+ρ.ex a.block) bv n f (.inr lw) c2,ct d,Sem.run_pure,Jj]
    simp only at h;split at h
    .rename_i g;simp only[i8,i9]at h;obtain⟨rfl,rfl⟩:=h;refine lP.same r ?_;rw[c];subst g;simp[Ren.val]
    .split at h
     .rename_i g q;simp only[i8,i9]at h;obtain⟨rfl,rfl⟩:=h;refine lP.same r ?_;rw[c,if_neg lw];simp only[Ren.val,Ren.offS_none,Ren.spS_none,Ren.capS_none];rw[show a.off+ρ.sh a.block+l*sz=a.off+l*sz+ρ.sh a.block from by omega,show cap+ρ.ex a.block-l=cap-l+ρ.ex a.block from by omega]
     .rename_i g q;have s:l=cap:=by omega
      have u:i=l:=by omega
      split at h
      .cases h
      rename_i k;simp only[i8,i9]at h;obtain⟨rfl,rfl⟩:=h
      have x:ρ.C2 ⟨a.block,a.off+l*sz,a9 (a.off+1)⟩ 0 0=none:=Ren.Sf (by
       have:=Nat.mul_pos (Nat.pos_of_ne_zero g) (Nat.pos_of_ne_zero k);show a.off+l*sz≠0
       omega)
      refine lP.same r ?_;rw[c];subst u;subst s;simp only[Ren.val,x,Ren.pJ,Ren.rB,true_and,if_true,zG8,and_self];by_cases B:ρ.ex a.block=0
      .simp[B]
      .simp only[B,if_false];rw[if_neg lw];rw[show i+ρ.ex a.block-i=ρ.ex a.block from by omega,show a.off+ρ.sh a.block+i*sz=a.off+i*sz+ρ.sh a.block from by omega]
 .cases h
end
section
variable{P:ip}{ρ:Ren}{H:aa}{w:i6}
def IZ(r:Rel P ρ H w){t:io}{x:go}{lo hi y:Option go}{v:go}{H1:aa}(h:bX P H t x lo hi y=a9 (v,H1)) :
  lP P ρ H w (Instr.sliceAt t (ρ.val x) (lo.map ρ.val) (hi.map ρ.val) (y.map ρ.val)) v H1:=by
 unfold bX at h;split at h
 .rename_i s d;simp only[zA1,zA2]at h;obtain⟨l,k,A,f,h⟩:=h;split at h
  .rename_i j;simp only[i8,i9]at h;obtain⟨rfl,rfl⟩:=h;refine lP.same r ?_;simp only[Instr.sliceAt,Instr.slice,Sem.run_bind,ay d,Result.andThen_ok,Ren.val,Option.map_none,Option.isSome_none,zD2,if_false,eX ci k f (.inr j.1) j.2,Sem.run_pure]
  .cases h
 .rename_i e a len cap d;simp only[zA1,zA2]at h;obtain⟨sz,c,h⟩:=h;obtain⟨g,w1,i,p⟩:=Gq r d c h;refine⟨g,w1,i,?_⟩;rw[<-p];simp only[Instr.sliceAt,Sem.run_bind,ay d,Result.andThen_ok,Option.map_none]
 .rename_i e a len cap kd m d;simp only[zA1]at h;split at h
  .rename_i q;simp only[zA2]at h;obtain⟨sz,c,h⟩:=h;have u:hi≠none:=by intro e; rw[e]at q; simp at q
   obtain⟨g,w1,i,p⟩:=FF (kd:=kd) r d c u h;refine⟨g,w1,i,?_⟩;rw[<-p];simp only[Instr.sliceAt,Sem.run_bind,ay d,Result.andThen_ok,zB2,Ren.val,Int.toNat_of_nonneg q.1]
  .cases h
 .rename_i n e a d;simp only[zA1,zA2]at h;obtain⟨l,k,A,f,sz,c,h⟩:=h;split at h
  .rename_i j;obtain⟨B,c2,z⟩:=j;simp only[i8,i9]at h;obtain⟨rfl,rfl⟩:=h;refine lP.same r ?_;obtain⟨b,o,s⟩:=a;simp only at z;subst z;simp only[Instr.sliceAt,Sem.run_bind,ay d,Result.andThen_ok,Ren.val,Instr.sureAddr,Sem.run_pure,Option.map_none,eX ci k f (.inr B) c2,ct c,kJ];congr 4;split<;>simp<;>omega
  .cases h
 .cases h
def pD(ρ:Ren)(off:Nat):∀(l:List go)(k:Nat)(cells:Array go),
  ((l.map ρ.val).zipIdx k).foldl (fun cs (x:go × Nat)=>cs.setIfInBounds (off+x.2) x.1) (cells.map ρ.val) =
   ((l.zipIdx k).foldl (fun cs (x:go × Nat)=>cs.setIfInBounds (off+x.2) x.1) cells).map ρ.val
 |[],k,cells=>by simp
 |v::l,k,cells=>by
  simp only[zB8,List.zipIdx_cons,List.foldl_cons];have:(cells.map ρ.val).setIfInBounds (off+k) (ρ.val v)=(cells.setIfInBounds (off+k) v).map ρ.val:=by simp
  rw[this,pD ρ off l (k+1)]
def ur(ρ:Ren)(a:Nat->Option (Nat × Nat)):∀(b:List (Nat × go))(cells:Array go),
  Instr.fill a (cells.map ρ.val) (b.map fun p=>(p.1,ρ.val p.2))=(Instr.fill a cells b).map fun c=>c.map ρ.val
 |[],cells=>by simp[Instr.fill]
 |(i,v)::b,cells=>by
  simp only[zB8,Instr.fill]
  cases h:a i with
  |none=>rfl
  |some os =>
   obtain⟨off,d⟩:=os;simp only[Ren.ot,Array.size_map];split
   .rfl
   .have f:=pD ρ off v.cells.toList 0 cells
    have g:(v.cells.map ρ.val).zipIdx.foldl (fun cs (x:go × Nat)=>cs.setIfInBounds (off+x.2) x.1) (cells.map ρ.val) =
      (v.cells.zipIdx.foldl (fun cs (x:go × Nat)=>cs.setIfInBounds (off+x.2) x.1) cells).map ρ.val:=by
     rw[<-Array.foldl_toList,<-Array.foldl_toList];simpa using f
    have e:=ur ρ a b (v.cells.zipIdx.foldl (fun cs (x:go × Nat)=>cs.setIfInBounds (off+x.2) x.1) cells);rw[<-g]at e;exact e
def zS(ρ:Ren){z:go}(h:af z=bv):z.cells.map ρ.val=z.cells:=by rw[<-Ren.ot,dM ρ z h]
def Ix{t:io}{a:List (Nat × go)}{v:go}(h:cY P t a=a9 v) :
  (Instr.build t (a.map fun p=>(p.1,ρ.val p.2)).toArray).run P w=.ok (ρ.val v) w:=by
 simp only[cY,zA1,zA2]at h;obtain⟨z,m,h⟩:=h;obtain⟨c,d⟩:=ee (w:=w) m;split at h
 .rename_i f g;simp only[zA2,zB5]at h;obtain⟨b,n,cells,j,rfl⟩:=h;have e:=ur ρ (b[·]?) a z.cells;rw[zS ρ d,j]at e;simp only[Instr.build,Sem.run_bind,c,Result.andThen_ok,ay g,vP _ n,e,zB2,Sem.run_pure,Ren.val,Ren.ed]
 .rename_i len l g;simp only[zA2,zB5]at h;obtain⟨sz,k,cells,j,rfl⟩:=h;have e:=ur ρ (fun i=>a9 (i*sz,sz)) a z.cells;rw[zS ρ d,j]at e;simp only[Instr.build,Sem.run_bind,c,Result.andThen_ok,ay g,ct k,e,zB2,Sem.run_pure,Ren.val,Ren.ed]
 .cases h
def jW(z:List go)(n:Nat):(bf z n).length=n*z.length:=by
 induction n with
 |zero=>simp[bf]
 |succ n a=>simp[bf,a,Nat.succ_mul]; omega
def yX(z:List go):∀(n i:Nat),i<n*z.length->(bf z n)[i]?=z[i % z.length]?
 |0,i,h=>by simp at h
 |n+1,i,h=>by
  have a:0<z.length:=by
   rcases Nat.eq_zero_or_pos z.length with h0|h0
   .rw[h0]at h; simp at h
   .exact h0
  by_cases hi:i<z.length
  .rw[bf,List.getElem?_append_left hi,Nat.mod_eq_of_lt hi]
  .rw[bf,zG5 lw,yX z n (i-z.length) (by rw[Nat.succ_mul]at h; omega)];rw[<-Nat.mod_eq_sub_mod lw]
def kD(z:Array go)(n:Nat):(Array.range (n*z.size)).map (fun i=>z[i % z.size]!)=(bf z.toList n).toArray:=by
 apply Array.ext_getElem?;intro i;by_cases h:i<n*z.size
 .have a:0<z.size:=by
   rcases Nat.eq_zero_or_pos z.size with h0|h0
   .rw[h0]at h; simp at h
   .exact h0
  have b:i % z.size<z.size:=Nat.mod_lt _ a;have:=yX z.toList n i (by simpa using h);simp only[List.getElem?_toArray,this];simp[h,b]
 .rw[Array.getElem?_eq_none (by simpa using h),Array.getElem?_eq_none (by simpa[jW]using h)]
def oC(ρ:Ren)(z:List go)(h:z.map ρ.val=z)(n:Nat):(bf z n).map ρ.val=bf z n:=by
 induction n with
 |zero=>rfl
 |succ n a=>simp[bf,a,h]
def tm(ρ:Ren){z:go}(h:af z=bv):z.cells.toList.map ρ.val=z.cells.toList:=by have:=congrArg Array.toList (zS ρ h);simpa using this
def L9(ρ:Ren)(n b s e:Nat):(ρ.at n b s e).val (li (a9 ⟨n,0,bi⟩))=li (a9 ⟨b,s,bi⟩):=by simp[qU]
def ye(r:Rel P ρ H w){t:io}{len:Nat}{a:List (Nat × go)}{v:go}{H1:aa}(h:bN P H t len a=a9 (v,H1)) :
  lP P ρ H w (Instr.buildSlice t len (a.map fun p=>(p.1,ρ.val p.2)).toArray) v H1:=by
 simp only[bN,zA1,zA2]at h;obtain⟨d,u,h⟩:=h;split at h
 .rename_i e;simp only[zA2]at h;obtain⟨sz,b,z,y,h⟩:=h;split at h
  .rename_i A;obtain⟨C,c2⟩:=A;simp only[zA2,i8,i9]at h;obtain⟨cells,k,g,B,rfl,rfl⟩:=h;obtain⟨l,m⟩:=ee (w:=w) y;have c:=ur ρ (fun i=>a9 (i*sz,sz)) a (bf z.cells.toList len).toArray;rw[k]at c;have n:(bf z.cells.toList len).toArray.map ρ.val=(bf z.cells.toList len).toArray:=by simp[oC ρ _ (tm ρ m) len]
   rw[n]at c;refine⟨_,_,qR r B,?_⟩;have f:¬(len*sz>2 ^ 24):=by omega
   have x:Array.map ρ.val cells=(cells.toList.map ρ.val).toArray:=by apply Array.ext'; simp
   have o:Array.range 0=#[]:=rfl;by_cases q:len*sz=0
   .have j:(bf z.cells.toList len)=[]:=zE5 (by rw[jW,c2]; exact q);rw[j]at c;simp only[Instr.buildSlice,Sem.run_bind,ay u,Result.andThen_ok,ct b,q,if_true];simp[c,newRow,Ren.val,o,x]
   .have s:(Array.range (len*sz)).map (fun i=>z.cells[i % z.cells.size]!)=(bf z.cells.toList len).toArray:=by
     have:sz=z.cells.size:=by simpa using c2.symm
     rw[this]; exact kD _ _
    simp only[Instr.buildSlice,Sem.run_bind,ay u,Result.andThen_ok,ct b,f,if_false,Sem.run_pure,q,l,s,c,zB2];simp[newRow,Ren.val,x]
  .cases h
 .cases h
end
section
variable{P:ip}{ρ:Ren}{H:aa}{w:i6}
def wrap_small{n:Int}(c:0<=n)(d:n<=140737488351232):IntKind.i64.wrap n=n:=by
 have:n % (2 ^ IntKind.i64.bits:Int)=n:=by
  have e:(2 ^ IntKind.i64.bits:Int)=18446744073709551616:=by decide
  rw[e]; omega
 have a:(2 ^ (IntKind.i64.bits-1):Int)=9223372036854775808:=by decide
 simp only[IntKind.wrap,this,a];split
 .rename_i b;simp only[zA6,decide_eq_true_eq]at b;omega
 .rfl
def Bb{n b:Nat}(h:small n b=bv):n*b<=140737488351232/\n<=140737488351232:=by simp only[small,zA6]at h;exact⟨jl h.1,jl h.2⟩
def z8(r:Rel P ρ H w){t:io}{l c v:go}{H1:aa}(h:fS P H t l c=a9 (v,H1)) :
  lP P ρ H w (Instr.makeSlice t (ρ.val l) (ρ.val c)) v H1:=by
 unfold fS at h;split at h
 .rename_i l c;simp only[zA1,zA2]at h;obtain⟨d,q,h⟩:=h;split at h
  .rename_i e;simp only[zA2]at h;obtain⟨by1,k,sz,b,z,B,h⟩:=h;split at h
   .rename_i C;obtain⟨D,c2,E,s⟩:=C;simp only[zA2,i8,i9]at h;obtain⟨g,F,rfl,rfl⟩:=h;obtain⟨m,n⟩:=ee (w:=w) B;obtain⟨G,a,f⟩:=o8 k;obtain⟨J,s2⟩:=Bb E;have u:IntKind.i64.wrap l=l:=wrap_small D lw;have x:IntKind.i64.wrap c=c:=wrap_small lw lw
    have y:¬((by1:Int)*c>2 ^ 48):=by
     have:((by1:Int)*c)=((c.toNat*by1:Nat):Int):=by rw[Int.natCast_mul,Int.toNat_of_nonneg lw,Int.mul_comm]
     rw[this]; omega
    refine⟨_,_,qR r F,?_⟩;have I:(f7 (c<0)||f7 ((by1:Int)*c>2 ^ 48))=false:=by simp; omega
    have A:¬(((f7 (c<0)||f7 ((by1:Int)*c>2 ^ 48))||f7 (l<0)||f7 (l>c))=bv):=by rw[I]; simp; omega
    by_cases o:c.toNat*sz=0
    .have j:(bf z.cells.toList c.toNat)=[]:=zE5 (by rw[jW,s]; exact o);simp only[Ren.val,Instr.makeSlice,Sem.run_bind,ay q,Result.andThen_ok,asInt,asIntOf,Sem.run_pure,kF a,f,u,x,A,j];simp[newRow,ct b,o,show Array.range 0=#[] from rfl]
    .have p:(Array.range (c.toNat*sz)).map (fun i=>z.cells[i % z.cells.size]!)=(bf z.cells.toList c.toNat).toArray:=by
      have:sz=z.cells.size:=by simpa using s.symm
      rw[this]; exact kD _ _
     simp only[Ren.val,Instr.makeSlice,Sem.run_bind,ay q,Result.andThen_ok,asInt,asIntOf,Sem.run_pure,kF a,f,u,x,A,oC ρ _ (tm ρ n)];simp[newRow,ct b,o,m,p]
   .cases h
  .cases h
 .cases h
def yh{x v:go}{xt t:io}{ok:Bool}(h:iu P x t ok=a9 v):(Instr.typeAssert (ρ.val x) xt t ok).run P w=.ok (ρ.val v) w:=by
 unfold iu at h;split at h
 .rename_i want u y f;split at h
  .rename_i i hi;split at h
   .rename_i j;simp only[i8]at h;subst h;cases ok<;>simp[Instr.typeAssert,Ren.val,ay f,kF hi,j,Ren.ed]
   .rename_i m j;split at h
    .rename_i a;simp only[zB5]at h;obtain⟨z,g,rfl⟩:=h;obtain⟨b,c⟩:=ee (w:=w) g;simp[Instr.typeAssert,Ren.val,ay f,kF hi,j,Ren.ed,a,b,dM ρ z c]
    .cases h
  .cases h
 .rename_i d f;split at h
  .rename_i a;simp only[zB5]at h;obtain⟨z,g,rfl⟩:=h;obtain⟨b,c⟩:=ee (w:=w) g;cases d<;>simp[Instr.typeAssert,Ren.val,ay f,Ren.ed,a,b,dM ρ z c]
  .cases h
 .rename_i d u y e f;split at h
  .rename_i k;simp only[i8]at h;subst h
   cases d<;>cases ok<;>first
    |(exact absurd rfl (e _)) 
    |simp[Instr.typeAssert,Ren.val,ay f,Ren.ed,k]
  .rename_i cn;split at h
   .rename_i a;simp only[zB5]at h;obtain⟨z,g,rfl⟩:=h;obtain⟨b,c⟩:=ee (w:=w) g
    cases d<;>first
     |(exact absurd rfl (e _))
     |simp[Instr.typeAssert,Ren.val,ay f,Ren.ed,a,cn,b,dM ρ z c]
   .cases h
 .cases h
end
section
variable{P:ip}{ρ:Ren}{H:aa}{w:i6}
def H5(P:ip)(ρ:Ren)(H:aa)(w:i6)(s:Sem go)(x:de)(H1:aa):Prop :=
 ∃ a w1,St P ρ H w a H1 w1/\match x with
  |.value v=>s.run P w=.ok (a.val v) w1
  |.panic v=>s.run P w=.halt (.panic (a.val v)) w1
  |_=>False
def H5.val(r:Rel P ρ H w){s:Sem go}{v:go}(h:s.run P w=.ok (ρ.val v) w):H5 P ρ H w s (.value v) H:=⟨ρ,w,St.refl r,h⟩
def H5.of{s:Sem go}{v:go}{H1:aa}(h:lP P ρ H w s v H1):H5 P ρ H w s (.value v) H1:=h
def Ah(r:Rel P ρ H w){n:Nat}(h:jq H n=a9 ci) :
  H.get n≠bi/\¬Fz (H.get n)/\ρ.sh n=0/\(∀ o,w.frozen? ⟨ρ.blk n,o,bi⟩=ci)/\(∀ o s,w.frozen? ⟨ρ.blk n,o,s⟩=ci)/\∃ e k,w.shape? (ρ.blk n)=a9 (e,k):=by
 obtain⟨v,e,b⟩:=pb h;obtain⟨c,l,a⟩:=r.Dz b;obtain⟨m,p,d⟩:=yV b;obtain⟨q,g,t,i⟩:=a.shut rfl;subst i;refine⟨bJ d,(fun⟨o,f,j⟩=>by rw[d]at f; cases f; simp[TW]at j),g,fun o=>by simp[World.frozen?,a.at_],fun o s=>by simp[World.frozen?,a.at_],e,c.size,by simp[World.shape?,a.at_]⟩
def DA(r:Rel P ρ H w){a b:Addr}(d:jq H a.block=a9 ci)(f:jq H b.block=a9 ci) :
  (sameAddr ⟨ρ.blk a.block,a.off+ρ.sh a.block,a.spot⟩ ⟨ρ.blk b.block,b.off+ρ.sh b.block,b.spot⟩).run P w=.ok (a == b) w:=by
 obtain⟨g,i,q,s,j,t,u,k⟩:=Ah r d;obtain⟨l,v,x,y,m,z,A,n⟩:=Ah r f;by_cases h:a.block=b.block
 .have o:(ρ.blk a.block == ρ.blk b.block)=true:=by simp[h]
  simp only[sameAddr,o,if_true,Sem.run_pure];congr 1;rw[Bool.eq_iff_iff];simp only[beq_iff_eq];obtain⟨B,C,p⟩:=a;obtain⟨D,E,F⟩:=b;simp only at h ⊢;subst h;simp
 .have cn:(ρ.blk a.block == ρ.blk b.block)=false:=by
   simp only[beq_eq_false_iff_ne];exact fun e=>(r.inj _ _ g l e).elim h fun e=>i e.1
  have c:(a == b)=false:=by simp only[beq_eq_false_iff_ne];exact fun e=>h (by rw[e])
  simp[sameAddr,cn,j,m,noView,viewAt,k,n,mayBeOne,stringish,c]
def KY(r:Rel P ρ H w):∀(d:Nat){t:io}{x y:go}{b:Bool},Sr P H d t x y=a9 b->∀ k,d<=k->(Op.equalIn k t (ρ.val x) (ρ.val y)).run P w=.ok b w
 |0,t,x,y,b,h,k,m=>by simp[Sr]at h
 |d+1,t,x,y,b,h,0,m=>by omega
 |d+1,t,x,y,b,h,k+1,m=>by
  unfold Sr at h;split at h
  .rename_i e q a;simp only[i8]at h;subst h;cases q<;>simp[Op.equalIn,ay a,Ren.val]
  .rename_i e q a;simp only[i8]at h;subst h;simp[Op.equalIn,ay a,Ren.val]
  .rename_i e p q a;split at h
   .rename_i sz g o s;simp only[i8]at h;subst h;simp only[Op.equalIn,Ren.val,Sem.run_bind,ay a,Result.andThen_ok,ct g];simp[DA r o s]
   .cases h
  .rename_i e u v q z c2 a;simp only[i8]at h;subst h;cases q<;>simp[Op.equalIn,ay a,Ren.val]
  .rename_i e q u v z c2 a;simp only[i8]at h;subst h;simp[Op.equalIn,ay a,Ren.val]
  .rename_i j l q a;simp only[i8]at h;subst h;cases q<;>simp[Op.equalIn,ay a,Ren.val]
  .rename_i j l q a;simp only[i8]at h;subst h;simp[Op.equalIn,ay a,Ren.val]
  .rename_i j l A B C D a;simp only[i8]at h;subst h;simp[Op.equalIn,ay a,Ren.val]
  .rename_i j l A B C D a;simp only[i8]at h;subst h;simp[Op.equalIn,ay a,Ren.val]
  .rename_i n E F a;simp only[i8]at h;subst h;simp[Op.equalIn,ay a,Ren.val]
  .rename_i n E F a;simp only[i8]at h;subst h;simp[Op.equalIn,ay a,Ren.val]
  .rename_i n G I ty J a;split at h
   .rename_i cn;simp only[i8]at h;subst h;simp[Op.equalIn,ay a,Ren.val,cn]
   .rename_i c;have c:G=ty:=by simpa using c
    subst c;split at h
    .rename_i i hi;split at h
     .rename_i f;have:=KY r d h k lw;simp[Op.equalIn,ay a,Ren.val,kF hi,f,this]
     .cases h
    .cases h
  .cases h
def dX:go->Bool
 |.pointer _=>bv
 |.slice _ _ _=>bv
 |.map _=>bv
 |.func _ _ _=>bv
 |.nilFunc=>bv
 |.iface _ _=>bv
 |.nilIface=>bv
 |_=>ci
def FA{d:Nat}{t:io}{x y:go}{b:Bool}(h:Sr P H d t x y=a9 b):dX x=bv/\dX y=true:=by
 cases d with
 |zero=>simp[Sr]at h
 |succ d =>
  unfold Sr at h
  split at h<;>first
   |exact⟨rfl,rfl⟩
   |cases h
def xC(ρ:Ren){x:go}(h:dX x=bv):dX (ρ.val x)=true:=by
 cases x with
 |pointer a=>cases a<;>simp[Ren.val,dX]
 |slice a _ _=>cases a<;>simp[Ren.val,dX]
 |map a=>cases a<;>simp[Ren.val,dX]
 |func f a b=>simp[Ren.val,dX]
 |nilFunc=>simp[Ren.val,dX]
 |iface t v=>simp[Ren.val,dX]
 |nilIface=>simp[Ren.val,dX]
 |_=>simp[dX]at h
def binOp_eql{t:io}{x y:go}(h:dX x=bv):binOp .eql t x y=(do pure (ls (<-Op.equal t x y))):=by
 cases x<;>first
  |rfl
  |(simp[dX]at h; done)
def binOp_neq{t:io}{x y:go}(h:dX x=bv):binOp .neq t x y=(do pure (ls (!(<-Op.equal t x y)))):=by
 cases x<;>first
  |rfl
  |(simp[dX]at h; done)
def gJ(a b:go):Bool :=
 match a,b with
 |.nilIface,.nilIface=>ci
 |.agg _,.agg _=>ci
 |_,_=>bv
def UN{c:Prop}[Decidable c]{A B:Sem Unit}(a:c->A.run P w=.ok () w)(b:¬c->B.run P w=.ok () w):(if c then A else B).run P w=.ok () w:=by
 by_cases h:c
 .rw[if_pos h]; exact a h
 .rw[if_neg h]; exact b h
def qF{c:BinOp}{t:io}{x y:i7}{a b:go}(h:gJ a b=bv):(eqGuard c t x y a b).run P w=.ok () w:=by
 unfold eqGuard;refine UN (fun _=>rfl) (fun _=>?_);split
 .simp[gJ]at h
 .simp[gJ]at h
 .rfl
def EH(ρ:Ren){x y:go}(hx:dX x=bv)(c:dX y=bv)(h:¬(x=.nilIface/\y=.nilIface)):gJ (ρ.val x) (ρ.val y)=true:=by
 cases x with
 |pointer a=>cases a<;>simp[Ren.val,gJ]
 |slice a _ _=>cases a<;>simp[Ren.val,gJ]
 |map a=>cases a<;>simp[Ren.val,gJ]
 |func f a b=>simp[Ren.val,gJ]
 |nilFunc=>simp[Ren.val,gJ]
 |iface t v=>simp[Ren.val,gJ]
 |nilIface =>
  cases y with
  |nilIface=>exact absurd ⟨rfl,rfl⟩ h
  |pointer a=>cases a<;>simp[Ren.val,gJ]
  |slice a _ _=>cases a<;>simp[Ren.val,gJ]
  |map a=>cases a<;>simp[Ren.val,gJ]
  |chan a=>simp[dX]at c
  |_=>simp[Ren.val,gJ]
 |_=>simp[dX]at hx
def Dq(r:Rel P ρ H w){a:BinOp}{t:io}{x y:i7}{p q v:go}(h:tp P H a t p q=a9 v) :
  (do eqGuard a t x y (ρ.val p) (ρ.val q); binOp a t (ρ.val p) (ρ.val q):Sem go).run P w=.ok (ρ.val v) w:=by
 have c:∀ b,Sr P H 100 t p q=a9 b->yd a b=a9 v->¬(p=.nilIface/\q=.nilIface) ->
   (do eqGuard a t x y (ρ.val p) (ρ.val q); binOp a t (ρ.val p) (ρ.val q):Sem go).run P w=.ok (ρ.val v) w:=by
  intro b f d j;obtain⟨hx,k⟩:=FA f;have i:=KY r 100 f Op.maxDepth ol;simp only[Sem.run_bind,qF (EH ρ hx k j),Result.andThen_ok];cases a<;>simp[yd]at d
  .subst d;rw[binOp_eql (xC ρ hx)];simp[Op.equal,i,Ren.val]
  .subst d;rw[binOp_neq (xC ρ hx)];simp[Op.equal,i,Ren.val]
 unfold tp at h;split at h
 .cases h
 .cases h
 .rename_i l g;simp only[zA2]at h;obtain⟨b,f,d⟩:=h;exact c b f d (fun e=>g e.1 e.2)
def Pe(r:Rel P ρ H w){c:BinOp}{t:io}{x y:i7}{p q v:go}(h:fV P H c t p q=a9 v) :
  (do eqGuard c t x y (ρ.val p) (ρ.val q); binOp c t (ρ.val p) (ρ.val q):Sem go).run P w=.ok (ρ.val v) w:=by
 unfold fV at h;split at h
 .rename_i k a m b;split at h
  .rename_i f;subst f;have d:(eqGuard c t x y (.int k a) (.int k b)).run P w=.ok () w:=qF rfl;simp only[Ren.val,Sem.run_bind,d,Result.andThen_ok]
   cases c<;>simp only[eO,i8]at h<;>first
    |(subst h; simp[binOp,Op.intArith,Op.intCmp,Ren.val]; done)
    | (split at h
       .cases h
       .rename_i g;simp only[i8]at h;subst h
        simp[binOp,Op.intDiv,g,Ren.val])
    |cases h
  .cases h
 .rename_i a b;split at h
  .rename_i i;have d:(eqGuard c t x y (ls a) (ls b)).run P w=.ok () w:=qF rfl;simp only[Ren.val,Sem.run_bind,d,Result.andThen_ok]
   have e:(Op.equal t (ls a) (ls b)).run P w=.ok (a == b) w:=by
    have:∀ k,(Op.equalIn (k+1) t (ls a) (ls b)).run P w=.ok (a == b) w:=fun k=>by simp[Op.equalIn,ay i]
    exact this 9999
   have j:binOp .eql t (ls a) (ls b)=(do pure (ls (<-Op.equal t (ls a) (ls b)))):=rfl;have l:binOp .neq t (ls a) (ls b)=(do pure (ls (!(<-Op.equal t (ls a) (ls b))))):=rfl
   cases c<;>simp only[yd,i8]at h<;>first
    |(subst h; rw[j]; simp only[Sem.run_bind,e,Result.andThen_ok,Sem.run_pure,Ren.val]; done)
    |(subst h; rw[l]; simp only[Sem.run_bind,e,Result.andThen_ok,Sem.run_pure,Ren.val]; done)
    |cases h
  .cases h
 .exact Dq r h
def sD(r:Rel P ρ H w){s:Sem go}{x:de}(h:la P s=a9 x):H5 P ρ H w s x H:=by
 unfold la at h;split at h
 .rename_i v a;split at h
  .rename_i b;simp only[i8]at h;subst h;exact H5.val r (by rw[vP s a w,dM ρ v b])
  .cases h
 .split at h
  .rename_i v a;split at h
   .rename_i b;simp only[i8]at h;subst h;exact⟨ρ,w,St.refl r,by show s.run P w=.halt (.panic (ρ.val v)) w; rw[Iz s a w,dM ρ v b]⟩
   .cases h
  .cases h
def Qm(r:Rel P ρ H w){a:BinOp}{t:io}{x y:i7}{p q:go}{c:de}{H1:aa}(h:Ea P H a t x y p q=a9 (c,H1)) :
  H5 P ρ H w (do eqGuard a t x y (ρ.val p) (ρ.val q); binOp a t (ρ.val p) (ρ.val q)) c H1:=by
 unfold Ea at h;split at h
 .rename_i v d;simp only[i8,i9]at h;obtain⟨rfl,rfl⟩:=h;exact H5.val r (Pe r d)
 .split at h
  .rename_i b;simp only[zA6]at b;simp only[zB5,i9]at h;obtain⟨z,e,rfl,rfl⟩:=h;rw[dM ρ p b.1,dM ρ q b.2];exact sD r e
  .cases h
def SR(r:Rel P ρ H w){a:UnOp}{p:go}{b:de}{H1:aa}(h:Ve P H a p=a9 (b,H1)) :
  H5 P ρ H w (Op.unary a (ρ.val p)) b H1:=by
 unfold Ve at h;split at h
 .simp only[i8,i9]at h;obtain⟨rfl,rfl⟩:=h;exact H5.val r (by simp[Op.unary,Ren.val])
 .simp only[i8,i9]at h;obtain⟨rfl,rfl⟩:=h;exact H5.val r (by simp[Op.unary,Op.intArith,Ren.val])
 .split at h
  .rename_i c;simp only[zB5,i9]at h;obtain⟨z,d,rfl,rfl⟩:=h;rw[dM ρ _ c];exact sD r d
  .cases h
def Ii(r:Rel P ρ H w){t:io}{p q:go}{b:de}{H1:aa}(h:vn P H t p q=a9 (b,H1)) :
  H5 P ρ H w (Instr.index t (ρ.val p) (ρ.val q)) b H1:=by
 unfold vn at h;split at h
 .rename_i v c;simp only[i8,i9]at h;obtain⟨rfl,rfl⟩:=h;exact H5.val r (Je c)
 .split at h
  .rename_i a;simp only[zA6]at a;simp only[zB5,i9]at h;obtain⟨z,d,rfl,rfl⟩:=h;rw[dM ρ p a.1,dM ρ q a.2];exact sD r d
  .cases h
end
section
variable{P:ip}{ρ:Ren}{H:aa}{w:i6}
def IG(ρ:Ren)(l:List UInt8):(ak l).map ρ.val=ak l:=by simp only[ak,List.map_map];apply List.map_congr_left;intro b _;simp[Ren.val]
def ji(r:Rel P ρ H w){sz n:Nat}{x:go}{l:List go}(h:cK H sz n x=a9 l)(f:∀ k,jD x=a9 k->n<=k) :
  (Builtin.firstCells sz n (ρ.val x)).run P w=.ok (l.map ρ.val).toArray w:=by
 unfold cK at h;split at h
 .rename_i a len cap;have f:=f len rfl
  cases n with
  |zero =>rw[if_pos rfl]at h;simp only[i8]at h;subst h;simp only[Ren.val,Builtin.firstCells,zH1];rfl
  |succ n =>
   rw[if_neg (Nat.succ_ne_zero n)]at h;simp only[zA1,zA2]at h;obtain⟨⟨v,e,j⟩,hc,h⟩:=h;obtain⟨c,m,g⟩:=r.Dz hc;simp only at h;split at h
   .rename_i b;simp only[i8]at h;subst h;have i:ρ.pJ a len cap=a.off:=Ren.oP (.inr lw);have d:ρ.C2 a len cap=none:=Ren.qb (.inr lw);simp only[Ren.val,i,d,Builtin.firstCells,g.load (jl b)]
   .cases h
 .simp only[i8]at h;subst h;simp[Ren.val,Builtin.firstCells]
 .rename_i s;simp only[i8]at h;subst h;simp only[Ren.val,Builtin.firstCells,Sem.run_pure,IG];congr 1;apply Array.ext';simp[ak,ByteArray.data_extract]
 .cases h
def ui{x:go}{n:Nat}(h:jD x=a9 n):(Builtin.lenOf (ρ.val x)).run P w=.ok n w:=by
 unfold jD at h;split at h
 .rename_i a b c;simp only[i8]at h;subst h;cases a<;>simp[Ren.val,Builtin.lenOf]
 .simp only[i8]at h;subst h;simp[Ren.val,Builtin.lenOf]
 .cases h
theorem Ff(n k c:Nat):Builtin.growBy n (k+1) c=if c ≥ n then c else Builtin.growBy n k (c+(c+768) / 4):=rfl
def Mh{n c B:Nat}(k:Nat)(e:n<=B)(a:c<=B)(b:∀ x,x<n->x+(x+768) / 4<=B):Builtin.growBy n k c<=B:=by
 induction k generalizing c with
 |zero=>exact a
 |succ k d =>
  rw[Ff];split
  .exact a
  .exact d (b c lw)
def Ig{n c:Nat}(h:c<n):Builtin.nextslicecap n c<=2*n:=by
 unfold Builtin.nextslicecap;split
 .omega
 .split
  .omega
  .exact Mh _ lw lw (fun x hx=>by omega)
def nn(a gO:Nat)(e:io)(t:Nat)(h:a<=9000000000000000000):(Question.appendCap a gO e).cut t<=9223372036854775807:=by have b:=Nat.mod_lt t (show 0<2 ^ 63-a by omega);simp only[Question.cut];omega
def sR(a gO:Nat)(e:io)(t:Nat):a<=(Question.appendCap a gO e).cut t:=by simp[Question.cut]
def jd(e:io)(sz:Nat)(f:Option Addr)(len cap n:Nat)(zeros:Bool)(x:go)(c:Sem (Array go)):Sem Value:=do
 let b:=len+n
 if b<=cap then
  let new <-c
  if let a9 a:=f then storeCells (a.add (len*sz)) new.toList
  pure (.slice f b cap)
 else
  if (b:Int)>IntKind.i64.max/\(zeros\/(<-typeInfo e).bytes=0) then runtimePanic (.error "growslice: len out of range")
  if Builtin.nextslicecap b cap*(<-typeInfo e).bytes>2 ^ 48 then (if zeros then runtimePanic (.error "growslice: len out of range") else do
   if !(<-Builtin.mayShare sz len n f x) then mark .noRoom
   unsupported (.resourceLimit "append: a slice or a string whose bytes no memory bears"))
  let d <-choose (.appendCap b cap e)
  askRoom (d*(<-typeInfo e).bytes)
  let gO <-Builtin.firstCells sz len (.slice f len cap)
  let new <-c
  let rest:=Builtin.zeroCells (<-zeroValue e).cells (d-b)
  pure (lm (a9 (<-newRow e (gO++new++rest))) b d)
def append_eq{ts:Array io}{ty st xt e:io}{rest:List io}{sz:Nat}{s x:go}{a:Option Addr}{len cap n:Nat}{d:TypeDesc}(b:ts.toList=st::xt::rest)(f:P.underlying st=a9 (.slice e))(c:br P e=a9 sz)
  (hx:P.underlying xt=a9 d) (g:∀ k,d≠.int k) (h:s=.slice a len cap) (i:(Builtin.lenOf x).run P w=.ok n w) :
  (Builtin.append_ ts ty #[s,x]).run P w=(jd e sz a len cap n ci x (Builtin.firstCells sz n x)).run P w:=by
 obtain⟨l⟩:=ts;simp only at b;subst b h;unfold Builtin.append_ jd;simp only[List.getElem?_toArray,zG1,zH8,Sem.run_bind,ay f,Result.andThen_ok,ct c,ay hx,Sem.run_pure];have:(match d with|.int _=>bv|_=>ci)=false:=by cases d<;>first|rfl|exact absurd rfl (g _)
 simp only[zD2,if_false,zF4,if_true];rw[Sem.run_bind,i];rfl
def Jz{ts:Array io}{ty st xt e:io}{rest:List io}{sz by1:Nat}{s:go}{a:Option Addr}{len cap:Nat}{k:IntKind}{l:Int}(b:ts.toList=st::xt::rest)(i:P.underlying st=a9 (.slice e))(d:br P e=a9 sz)
  (hx:P.underlying xt=a9 (.int k)) (j:s=.slice a len cap) (m:0<=l) (f:l<=140737488351232) (n:bytesOf P e=a9 by1) (o:l*by1<=140737488351232) :
  (Builtin.append_ ts ty #[s,jp kw l]).run P w=(jd e sz a len cap l.toNat bv (jp kw l) (if l.toNat*sz=0 then pure #[] else do pure (Builtin.zeroCells (<-zeroValue e).cells l.toNat))).run P w:=by
 obtain⟨r⟩:=ts;simp only at b;subst b j;obtain⟨g,c,h⟩:=o8 n;have p:¬(l<0):=by omega
 have q:¬(l*(g.bytes:Int)>2 ^ 48):=by rw[h]; omega
 unfold Builtin.append_ jd;simp only[List.getElem?_toArray,zG1,zH8,Sem.run_bind,ay i,Result.andThen_ok,ct d,ay hx,Sem.run_pure,if_true,asInt,asIntOf,wrap_small m f,p,if_false,kF c,q,zD1,zD2];rfl
def sW{e:io}{sz len cap n:Nat}{zeros:Bool}{x:go}{a:Addr}{b:Sem (Array go)}{new:List go}{w1:i6}(c:len+n<=cap)(d:b.run P w=.ok new.toArray w)
  (f:(storeCells (a.add (len*sz)) new).run P w=.ok () w1):(jd e sz (a9 a) len cap n zeros x b).run P w=.ok (lm (a9 a) (len+n) cap) w1:=by
 unfold jd;simp only[c,if_true,Sem.run_bind,d,Result.andThen_ok,f,Sem.run_pure]
def Hk{e:io}{sz len cap:Nat}{zeros:Bool}{x:go}{a:Sem (Array go)}{new:Array go}(c:len+0<=cap)(d:a.run P w=.ok new w) :
  (jd e sz bi len cap 0 zeros x a).run P w=.ok (lm bi len cap) w:=by
 have b:len<=cap:=by omega
 unfold jd;simp only[zD5,b,if_true,Sem.run_bind,d,Result.andThen_ok,Sem.run_pure]
def Hf{e:io}{sz len cap n by1:Nat}{zeros:Bool}{x:go}{d:Option Addr}{g:Sem (Array go)}{gO new:List go}{z:go}(k:¬len+n<=cap)(l:small (len+n) by1=bv)(r:bytesOf P e=a9 by1)
  (s:zeroOf P e=a9 z) (t:z.cells.toList.length=sz) (u:(Builtin.firstCells sz len (.slice d len cap)).run P w.drew=.ok gO.toArray w.drew) (v:g.run P w.drew=.ok new.toArray w.drew) :
  ∃ b,len+n+b<=9223372036854775807/\(jd e sz d len cap n zeros x g).run P w=.ok (lm (a9 ⟨w.heap.size,0,bi⟩) (len+n) (len+n+b)) (w.drew.alloc (.cells ((gO++new).toArray++(bf z.cells.toList b).toArray) e)):=by
 obtain⟨a,h,m⟩:=o8 r;obtain⟨D,s2⟩:=Bb l;obtain⟨o,y⟩:=ee (w:=w.drew) s
 have A:¬(((len+n:Nat):Int)>IntKind.i64.max/\(zeros=bv\/a.bytes=0)):=by
  have:IntKind.i64.max=9223372036854775807:=by decide
  rw[this]; omega
 have B:¬(Builtin.nextslicecap (len+n) cap*a.bytes>2 ^ 48):=by
  have C:=Ig (n:=len+n) (c:=cap) lw;have E:Builtin.nextslicecap (len+n) cap*a.bytes<=(2*(len+n))*a.bytes:=Nat.mul_le_mul_right _ C;have F:(2*(len+n))*a.bytes=2*((len+n)*by1):=by rw[m,Nat.mul_assoc]
  omega
 have i:=sR (len+n) cap e (w.tape w.drawn (.appendCap (len+n) cap e))
 obtain⟨b,j⟩:∃ b,(Question.appendCap (len+n) cap e).cut (w.tape w.drawn (.appendCap (len+n) cap e))=len+n+b:=⟨_,(Nat.add_sub_cancel' i).symm⟩
 refine⟨b,j▸nn _ _ _ _ lw,?_⟩;have p:Builtin.zeroCells z.cells b=(bf z.cells.toList b).toArray:=by unfold Builtin.zeroCells;exact kD _ _
 have q:(Question.appendCap (len+n) cap e).forced=false:=rfl;unfold jd;simp only[k,if_false,Sem.run_bind,kF h,Result.andThen_ok,Sem.run_ite,A,B,run_choose,q,zD2,j];have f:({w with drawn:=w.drawn+1}:i6)=w.drew:=rfl;simp only[f,Result.andThen_ok,run_askRoom,u,v,o,zG2,p,newRow,Sem.run_bind,run_newObj,Sem.run_pure];simp;rfl
def Rel.heap{w':i6}(r:Rel P ρ H w)(h:w'.heap=w.heap):Rel P ρ H w':=⟨r.base,r.glob,r.inj,r.dom,fun n o a=>by rw[h]; exact r.obj n o a⟩
def tP(r:Rel P ρ H w):St P ρ H w ρ H w.drew:=St.world r rfl rfl rfl rfl
def oq(ρ:Ren)(n b s e len cap:Nat):(ρ.at n b s e).val (lm (a9 ⟨n,0,bi⟩) len cap)=lm (a9 ⟨b,s,bi⟩) len (cap+e):=by simp[Ren.val]
def ss(r:Rel P ρ H w){e:io}{sz len cap n by1:Nat}{zeros:Bool}{x:go}{a:Option Addr}{b:Sem (Array go)}{gO new:List go}{z:go}{g:aa}
  (j:¬len+n<=cap) (k:small (len+n) by1=bv) (o:bytesOf P e=a9 by1) (c:br P e=a9 sz)
  (p:zeroOf P e=a9 z) (d:z.cells.toList.length=sz) (q:(Builtin.firstCells sz len (.slice a len cap)).run P w.drew=.ok (gO.map ρ.val).toArray w.drew)
  (s:b.run P w.drew=.ok (new.map ρ.val).toArray w.drew) (t:cJ H e (gO++new) bv=a9 g) (f:(gO++new).length=(len+n)*sz) :
  lP P ρ H w (jd e sz a len cap n zeros x b) (lm (a9 ⟨H.next,0,bi⟩) (len+n) (len+n)) g:=by
 obtain⟨m,h,i⟩:=Hf (x:=x) (zeros:=zeros) j k o p d q s
 have l:=BP (r.heap (w':=w.drew) rfl) t (bf z.cells.toList m).toArray m (by simp[jW,d,bK c]) (by
  rw[f,bK c,<-Nat.add_mul]
  exact Nat.mul_le_mul_right _ h)
 refine⟨_,_,(tP r).trans l,?_⟩;rw[i,oq];simp
def uX(r:Rel P ρ H w){e:io}{sz len cap n by1 l:Nat}{zeros:Bool}{x:go}{D q:Option Addr}{Z:Sem (Array go)}{new:List go}{z v:go}{H1:aa}
  (u:ρ.val (.slice D len cap)=.slice q len l) (K:small (len+n) by1=bv) (hb:bytesOf P e=a9 by1) (s:br P e=a9 sz)
  (hz:zeroOf P e=a9 z) (L:z.cells.toList.length=sz) (d:new.length=n*sz) (m:∀ w',w'.heap=w.heap->Z.run P w'=.ok (new.map ρ.val).toArray w')
  (h:dv H e sz D len cap n new=a9 (v,H1)):lP P ρ H w (jd e sz q len l n zeros x Z) v H1:=by
 unfold dv at h;split at h
 .rename_i M;split at h
  .split at h
   .rename_i N;subst N;simp only[i8,i9]at h;obtain⟨rfl,rfl⟩:=h;simp only[Ren.val,Value.slice.injEq,true_and]at u;obtain⟨rfl,rfl⟩:=u;refine lP.same r ?_;rw[Hk M (m w rfl)];simp[Ren.val]
   .cases h
  .rename_i a;simp only[zA1,zA2,i8,i9]at h;obtain⟨g,A,rfl,rfl⟩:=h;obtain⟨w1,O,t⟩:=pr r A;simp only[Ren.val,Value.slice.injEq,true_and]at u;obtain⟨rfl,rfl⟩:=u;refine⟨ρ,w1,O,?_⟩;have E:len+n<=ρ.rB a len cap:=zC4 M Ren.DW;by_cases hz0:len+n=0
   .have N:n=0:=by omega
    have Q:len=0:=by omega
    subst N;subst Q;have hnil:new=[]:=zE5 (by simpa using d);subst hnil;have hw:w1=w:=by have:(storeCells (Addr.mk (ρ.blk a.block) (a.off+0*sz+ρ.sh a.block) bi) ([].map ρ.val)).run P w=.ok () w:=rfl;rw[this]at t;exact (Result.ok.inj t).2.symm
    subst hw;rw[sW E (m _ rfl) (w1:=w1) rfl];simp[Ren.val]
   have o:cap≠0:=by omega
   have ho:ρ.pJ a len cap=a.off:=Ren.y6 o;have hos:ρ.C2 a len cap=none:=Ren.EN o;have R:(storeCells (Addr.add ⟨ρ.blk a.block,ρ.pJ a len cap+ρ.sh a.block,ρ.C2 a len cap⟩ (len*sz)) (new.map ρ.val)).run P w=.ok () w1:=by rw[hos,kJ,ho,show a.off+ρ.sh a.block+len*sz=a.off+len*sz+ρ.sh a.block from by omega]; exact t
   rw[sW E (m w rfl) (w1:=w1) R];simp[Ren.val,Ren.EN o,Ren.y6 o,Ren.PD (len:=len) (len':=len+n) o]
 .rename_i hgt;simp only[zA1,zA2]at h;obtain⟨gO,f,h⟩:=h;split at h
  .rename_i hc;simp only[zA6,decide_eq_true_eq]at hc;obtain⟨⟨B,hone1⟩,hone2⟩:=hc;have S:(gO++new).length=(len+n)*sz:=by rw[zB3,B,d,Nat.add_mul]
   have T:(Builtin.firstCells sz len (.slice q len l)).run P w.drew=.ok (gO.map ρ.val).toArray w.drew:=by rw[<-u]; exact ji (w:=w.drew) (r.heap rfl) f (fun k hk=>by simp only[jD,i8]at hk; omega)
   split at h
   .simp only[zA2,i8,i9]at h;obtain⟨g,A,rfl,rfl⟩:=h;have p:l=cap:=by simpa[Ren.val]using (congrArg (fun v=>match v with|.slice _ _ c=>c|_=>0) u).symm
    subst p;exact ss r hgt K hb s hz L T (m _ rfl) A S
   .rename_i a;simp only[zA2]at h;obtain⟨b,hb',h⟩:=h
    cases b with
    |true =>
     simp only[zA2,i8,i9]at h;obtain⟨g,A,rfl,rfl⟩:=h;rw[vQ r (E6 hb')]at u;have p:l=cap:=by simpa using (congrArg (fun v=>match v with|.slice _ _ c=>c|_=>0) u).symm
     subst p;exact ss r hgt K hb s hz L T (m _ rfl) A S
    |false =>
     simp only[zA2]at h;obtain⟨⟨v0,e0,o0⟩,o,h⟩:=h;obtain⟨ho,hs⟩:=M8 hb';obtain⟨v1,e1,U⟩:=pb ho;have:(v0,e0,o0)=(v1,e1,bv):=by rw[M3 o]at U; simpa using U
     cases this;simp only at h;split at h
     .rename_i V;obtain⟨rfl,F⟩:=V;have F:=jl F;simp only[zA2,i8,i9]at h;obtain⟨g,A,rfl,rfl⟩:=h
      have p:l=cap+ρ.ex a.block/\(len+n<=l->q=a9 ⟨ρ.blk a.block,a.off+ρ.sh a.block,bi⟩):=by
       obtain⟨ab,ao,asp⟩:=a; simp only at hs
       rcases hs with rfl|⟨k,rfl,rfl,rfl⟩
       .simp only[Ren.val,Ren.offS_none,Ren.spS_none,Ren.capS_none,Value.slice.injEq,true_and]at u;exact⟨u.2.symm,fun _=>u.1.symm⟩
       .simp only[Ren.val,Ren.pJ,Ren.rB,and_self,true_and,if_true,Value.slice.injEq]at u;refine⟨by rw[<-u.2,zC2],fun M=>?_⟩;rw[<-u.1];have cn:ρ.ex ab≠0:=by rw[u.2]; omega
        rw[if_neg cn,Ren.Un cn]
      obtain⟨p,W⟩:=p;by_cases X:len+n<=l
      .obtain⟨c,fz,hC⟩:=r.cells o;obtain⟨cc,ff,hg0⟩:=eI o;obtain⟨Y,hfz⟩:=hC.open_ rfl;rw[bK s]at Y;have har:(len+n)*sz<=(cap+ρ.ex a.block)*sz:=Nat.mul_le_mul_right _ lw;have hadd:(len+n)*sz=len*sz+n*sz:=Nat.add_mul _ _ _;have hadd2:(cap+ρ.ex a.block)*sz=cap*sz+ρ.ex a.block*sz:=Nat.add_mul _ _ _;have hsub:(cap+ρ.ex a.block-(len+n))*sz=(cap+ρ.ex a.block)*sz-(len+n)*sz:=Nat.sub_mul _ _ _
       obtain⟨w1,h1,h2,h3,h4,h5,h6,h7⟩:=pZ (P:=P) (ρ.blk a.block) (a.off+ρ.sh a.block+len*sz) e0 fz (new.map ρ.val) 0 w c hC.at_ (by simp[d]; omega)
        (fun y hy=>by
         obtain⟨y0,hy0,rfl⟩:=zC1.1 hy
         rw[Ren.val_one]; exact zC3.1 hone2 y0 hy0)
        (fun j h1 h2=>hC.ON lw (by rw[bK s]; simp only[zE1,d]at h2; omega))
       unfold cJ at A;split at A
       .rename_i hsc;simp only[i8]at A;subst A;have G:∀ y∈gO++new,aV H.next y=true:=ck.1 hsc;have hext:=Ren.lr ρ H.next (ρ.blk a.block) (a.off+ρ.sh a.block) (cap+ρ.ex a.block-(len+n));refine⟨ρ.at H.next (ρ.blk a.block) (a.off+ρ.sh a.block) (cap+ρ.ex a.block-(len+n)),w1,St.move r _ _ (bJ hg0) (oJ o) ?_ ?_ h2 h3 h4 h5 h6 h7,?_⟩
        .simp only[l6,RV.n_ofList,RV.cM];intro i hi;exact G _ (by simp only[List.getD,zB0 hi,zH9]; exact List.getElem_mem _)
        .simp only[Fits];refine⟨_,fz,rfl,fun i hi=>?_,fun h=>(by cases h),fun _ _=>⟨?_,?_⟩⟩
         .simp only[RV.n_ofList]at hi;have hi':=hi;simp only[zB3,B,d]at hi';rw[RV.cM,Ren.at_sh,je hext _ (G _ (by simp only[List.getD,zB0 hi,zH9]; exact List.getElem_mem _))];rw[Lf _ _ _ _ (by simp[d]; omega)];simp only[zD5,zE1,d];by_cases C:i<len*sz
          .rw[if_neg lw];have Q:len≠0:=by rintro rfl; rw[zH1]at C; exact absurd C (Nat.not_lt_zero _)
           simp only[cK,if_neg Q,zA1,zA2]at f;obtain⟨⟨v2,e2,o2⟩,hc2,f⟩:=f;rw[U]at hc2;cases hc2;simp only at f;split at f
           .rename_i I;have I:=jl I;simp only[i8]at f;subst f;have hcc:=hC.cell (a.off+i) lw;rw[show i+(a.off+ρ.sh a.block)=a.off+i+ρ.sh a.block from by omega,hcc];rw[List.getD,List.getElem?_append_left (by simpa using C)];have:=RV.qV v0 a.off (len*sz) i C;rw[List.getD]at this;rw[this]
           .cases f
          .rw[if_pos lw];rw[List.getD,zG5 lw,B];rw[show i+(a.off+ρ.sh a.block)-(a.off+ρ.sh a.block+len*sz)=i-len*sz from by omega];have hlt:i-len*sz<new.length:=by omega
           simp[hlt]
         .simp only[Ren.at_sh,Ren.at_ex,RV.n_ofList,zB3,B,d,Bg,bK s];refine⟨by omega,fun hex=>?_⟩;have hrm:=hC.room rfl lw;rw[bK s]at hrm;omega
         .intro i h1 h2;simp only[Ren.at_sh,Ren.at_ex,RV.n_ofList,zB3,B,d,bK s]at h1 h2;exact hfz i lw (by rw[bK s]; omega)
        .rw[oq,W X,sW (new:=new.map ρ.val) X (m w rfl) (w1:=w1) (by rw[kJ]; exact h1)];rw[p,show len+n+(cap+ρ.ex a.block-(len+n))=cap+ρ.ex a.block from by omega]
       .cases A
      .have J:=St.del r a.block (oJ o);have hn:=ss (x:=x) (zeros:=zeros) J.rel X K hb s hz L T (m _ rfl) A S;obtain⟨ρ1,w1,O,t⟩:=hn;exact⟨ρ1,w1,J.trans O,t⟩
     .cases h
  .cases h
end
section
variable{P:ip}{ρ:Ren}{H:aa}{w:i6}
def Cb(ρ:Ren)(b:Option Addr)(len cap:Nat):∃ c d,ρ.val (.slice b len cap)=.slice c len d:=by
 cases b with
 |none=>exact⟨bi,cap,by simp[Ren.val]⟩
 |some a=>exact⟨_,_,by rw[Ren.val]⟩
def Hh(r:Rel P ρ H w){ts:Array io}{ty:io}{s x v:go}{H1:aa}(h:e7 P H ts s x=a9 (v,H1)) :
  lP P ρ H w (Builtin.append_ ts ty #[ρ.val s,ρ.val x]) v H1:=by
 unfold e7 at h;split at h
 .rename_i st xt rest o len cap p;simp only[zA1,zA2]at h;obtain⟨d,M,h⟩:=h;split at h
  .rename_i e;simp only[zA2]at h;obtain⟨sz,g,by1,i,z,y,b,a,h⟩:=h;obtain⟨Q,D⟩:=ee (w:=w) y;obtain⟨E,N,A⟩:=Cb ρ o len cap;split at h
   .rename_i l;split at h
    .rename_i F;obtain⟨B,c2,q⟩:=F;obtain⟨S,s2⟩:=Bb c2
     have c:∃ k,P.underlying xt=a9 (.int k):=by
      unfold fE at a;split at a
      .rename_i k C; exact⟨k,C⟩
      .cases a
      .cases a
     obtain⟨k,c⟩:=c
     have G:l*(by1:Int)<=140737488351232:=by
      have T:l.toNat*by1<=(len+l.toNat)*by1:=Nat.mul_le_mul_right _ lw;have R:l*(by1:Int)=((l.toNat*by1:Nat):Int):=by rw[Int.natCast_mul,Int.toNat_of_nonneg B]
      rw[R]; omega
     have t:∀ w':i6,w'.heap=w.heap->(if l.toNat*sz=0 then (pure #[]:Sem (Array go)) else do pure (Builtin.zeroCells (<-zeroValue e).cells l.toNat)).run P w'=.ok ((bf z.cells.toList l.toNat).map ρ.val).toArray w':=by
      intro w' _;rw[oC ρ _ (tm ρ D)];by_cases I:l.toNat*sz=0
      .have:(bf z.cells.toList l.toNat)=[]:=zE5 (by rw[jW,q]; exact I);simp[I,this]
      .have J:Builtin.zeroCells z.cells l.toNat=(bf z.cells.toList l.toNat).toArray:=by
        unfold Builtin.zeroCells;exact kD _ _
       simp[I,(ee (w:=w') y).1,J]
     obtain⟨j,w1,m,f⟩:=uX (x:=jp kw l) (zeros:=true) r A c2 i g y q (by rw[jW,q]) t h;refine⟨j,w1,m,?_⟩;rw[<-f,A,Ren.val];exact Jz p M g c rfl B lw i G
    .cases h
   .cases h
   .simp only[zA2]at h;obtain⟨n,O,new,u,h⟩:=h;split at h
    .rename_i F;obtain⟨B,c2,q⟩:=F
     have c:∃ d,P.underlying xt=a9 d/\∀ k,d≠.int k:=by
      unfold fE at a;split at a
      .cases a
      .rename_i d cn K; exact⟨d,K,fun k e=>cn k e⟩
      .cases a
     obtain⟨d,c,K⟩:=c;obtain⟨j,w1,m,f⟩:=uX (x:=ρ.val x) (zeros:=false) r A c2 i g y q B (fun w' L=>ji (w:=w') (r.heap L) u (fun k C=>by rw[O]at C; cases C; exact zA4 _)) h;refine⟨j,w1,m,?_⟩;rw[<-f];exact append_eq p M g c K A (ui O)
    .cases h
  .cases h
 .cases h
def HJ{H:aa}{sz:Nat}{v:go}{l:List go}(h:cK H sz 0 v=a9 l):l=[]:=by
 unfold cK at h;split at h
 .rw[if_pos rfl]at h;simpa using h.symm
 .simpa using h.symm
 .simpa[ak]using h.symm
 .cases h
def NG(r:Rel P ρ H w){ts:Array io}{ty:io}{d s v:go}{H1:aa}(h:CW P H ts d s=a9 (v,H1)) :
  lP P ρ H w (Builtin.copy_ ts ty #[ρ.val d,ρ.val s]) v H1:=by
 unfold CW at h;split at h
 .rename_i dt rest o dl cap p;obtain⟨lt⟩:=ts;simp only at p;subst p;simp only[zA1,zA2]at h;obtain⟨B,x,h⟩:=h;split at h
  .rename_i e;simp only[zA2]at h;obtain⟨sz,m,sl,i,cs,f,h⟩:=h;have j:∀ k,jD s=a9 k->zF9 sl dl<=k:=fun k z=>by rw[i]at z; cases z; exact Nat.min_le_left _ _
   cases o with
   |none =>simp only[i8,i9]at h;obtain⟨rfl,rfl⟩:=h;refine lP.same r ?_;simp[Builtin.copy_,ay x,Ren.val,ui i,ct m,ji r f j,goInt]
   |some a =>
    simp only at h;split at h
    case isFalse l =>
     have gQ:dl=0:=Nat.eq_zero_of_not_pos (fun C=>l (.inr lw));subst gQ;simp only[i8,i9]at h;obtain⟨rfl,rfl⟩:=h;refine lP.same r ?_;have q:zF9 sl 0=0:=Nat.min_eq_right (zB7 _);rw[q]at f j;have t:=HJ f;subst t;have n:∀ b:Addr,(storeCells b []).run P w=.ok () w:=fun _=>rfl;simp only[Builtin.copy_,List.getElem?_toArray,zG1,zH8,Sem.run_bind,ay x,Result.andThen_ok,ui i,ct m,q,ji r f j,zE7,n,Sem.run_pure,goInt,Ren.val];rfl
    rename_i l;simp only[zA2,i8,i9]at h;obtain⟨g,A,rfl,rfl⟩:=h;obtain⟨w1,n,u⟩:=pr r A;refine⟨ρ,w1,n,?_⟩
    have y:∃ c,ρ.val (lm (a9 a) dl cap)=lm (a9 ⟨ρ.blk a.block,a.off+ρ.sh a.block,bi⟩) dl c:=⟨_,by rw[Ren.val,Ren.oP l,Ren.qb l]⟩
    obtain⟨c,y⟩:=y;rw[y];simp only[Builtin.copy_,List.getElem?_toArray,zG1,zH8,Sem.run_bind,ay x,Result.andThen_ok,ui i,ct m,ji r f j,u,Sem.run_pure,goInt,Ren.val]
  .cases h
 .cases h
def Re(r:Rel P ρ H w){ts:Array io}{ty t:io}{rest:List io}{x v:go}(d:ts.toList=t::rest)(h:Hs P H t x=a9 v) :
  (Builtin.len_ ts ty #[ρ.val x]).run P w=.ok (ρ.val v) w:=by
 obtain⟨lt⟩:=ts;simp only at d;subst d;unfold Hs at h;split at h
 .rename_i e a n c b;simp only[i8]at h;subst h;obtain⟨o,p,i⟩:=Cb ρ a n c;rw[i];simp[Builtin.len_,ay b,goInt,Ren.val]
 .rename_i s b;simp only[i8]at h;subst h;simp[Builtin.len_,ay b,goInt,Ren.val]
 .rename_i k e b;simp only[i8]at h;subst h;simp[Builtin.len_,ay b,goInt,Ren.val]
 .rename_i k e m b;split at h
  .rename_i q f u y j;simp only[i8]at h;subst h;obtain⟨o',l,g⟩:=r.obj _ _ j;simp only[Fits]at g;subst g;simp[Builtin.len_,ay b,goInt,Ren.val,getObj,Sem.run,l]
  .cases h
 .rename_i n e b;simp only[i8]at h;subst h;simp[Builtin.len_,ay b,goInt,Ren.val]
 .cases h
def QX(r:Rel P ρ H w){ts:Array io}{ty t:io}{rest:List io}{x v:go}(b:ts.toList=t::rest)(h:QV P H t x=a9 v) :
  (Builtin.cap_ ts ty #[ρ.val x]).run P w=.ok (ρ.val v) w:=by
 obtain⟨lt⟩:=ts;simp only at b;subst b;unfold QV at h;split at h
 .rename_i e n c d;simp only[i8]at h;subst h;simp[Builtin.cap_,ay d,goInt,Ren.val]
 .rename_i e a n c d;split at h
  .rename_i hx;simp only[i8]at h;subst h;rw[vQ r hx];simp[Builtin.cap_,ay d,goInt,Ren.val]
  .cases h
 .rename_i n e d;simp only[i8]at h;subst h;simp[Builtin.cap_,ay d,goInt,Ren.val]
 .cases h
def Oe{ts:Array io}{ty:io}{args:List go}{v:go}(h:gI bv args=a9 v):(Builtin.max_ ts ty (args.map ρ.val).toArray).run P w=.ok (ρ.val v) w:=by
 unfold gI at h;split at h
 .rename_i k x a y;simp only[if_true,i8]at h;subst h;simp[Builtin.max_,Builtin.max2,Ren.val]
 .cases h
def Q4{ts:Array io}{ty:io}{args:List go}{v:go}(h:gI ci args=a9 v):(Builtin.min_ ts ty (args.map ρ.val).toArray).run P w=.ok (ρ.val v) w:=by
 unfold gI at h;split at h
 .rename_i k x a y;simp only[zD2,if_false,i8]at h;subst h;simp[Builtin.min_,Builtin.min2,Ren.val]
 .cases h
def iO(a:Ren)(x:de)(b:Result Next)(w1:i6):Prop :=
 match x with
 |.value v=>b=.ok (.value (a.val v)) w1
 |.skip=>b=.ok .skip w1
 |.enter f args=>b=.ok (.enter f (args.map a.val).toArray) w1
 |.round rd=>∃ fn,b=.ok (.round (a.blk rd.l) fn (a.tmps rd.env) rd.assign rd.body) w1
 |.panic v=>b=.halt (.panic (a.val v)) w1
def lC(P:ip)(ρ:Ren)(H:aa)(w:i6)(s:Sem Next)(x:de)(H1:aa):Prop :=
 ∃ a w1,St P ρ H w a H1 w1/\iO a x (s.run P w) w1
def lC.of{s:Sem go}{x:de}{H1:aa}(h:H5 P ρ H w s x H1):lC P ρ H w (do pure (.value (<-s))) x H1:=by obtain⟨a,w1,b,c⟩:=h;refine⟨a,w1,b,?_⟩;cases x<;>simp_all [iO]
def lC.N5{s:Sem go}{v:go}{H1:aa}(h:lP P ρ H w s v H1):lC P ρ H w (do pure (.value (<-s))) (.value v) H1:=lC.of (H5.of h)
def lC.val(r:Rel P ρ H w){s:Sem go}{v:go}(h:s.run P w=.ok (ρ.val v) w):lC P ρ H w (do pure (.value (<-s))) (.value v) H:=lC.of (H5.val r h)
end
section
variable{P:ip}{ρ:Ren}{H:aa}{w:i6}
def JL{e:io}(b:P.cellsOf e=1)(count off n:Nat)(c:off+n<=count):liesAt P P.depth e (count / P.cellsOf e) off e n=true:=by have a:P.depth=(2*(P.types.size+Made.depth)+1)+1:=rfl;rw[a];simp only[liesAt,zH5];left;rw[a];simp[rowAt,b,c,sameLayout,Nat.mod_one]
def Jl{u:io}{sz:Nat}(b:P.cellsOf u=sz)(c:0<sz):liesAt P P.depth u (sz / P.cellsOf u) 0 u 1=true:=by have a:P.depth=(2*(P.types.size+Made.depth)+1)+1:=rfl;rw[a];simp only[liesAt,zH5];left;rw[a];simp[rowAt,b,sameLayout,Nat.div_self c];omega
def px:∀ {cs:List go} {l:List UInt8},cB cs=a9 l->l.length=cs.length/\∀ (j:Nat) v,cs[j]?=a9 v->∃ n,v=.int .u8 n/\l[j]?=a9 (UInt8.ofNat n.toNat)
 |[],l,h=>by cases h; exact⟨rfl,fun j v h=>by simp at h⟩
 |v::cs,l,h=>by
  cases v with
  |int k n =>
   cases k<;>simp only[cB,zB5,reduceCtorEq]at h;obtain⟨r,b,rfl⟩:=h;obtain⟨c,d⟩:=px b;refine⟨by simp[c],fun j v a=>?_⟩
   cases j with
   |zero=>simp only[zG1,i8]at a; subst a; exact⟨n,rfl,rfl⟩
   |succ j=>simpa using d j v (by simpa using a)
  |_=>simp[cB]at h
def Ab:∀(l:List UInt8)(a:Addr)(b:ByteArray),(∀ j x,l[j]?=a9 x->∃ n,w.cell? (a.add j)=a9 (.int .u8 n)/\x=n.toNat.toUInt8) ->
  (loadBytes a b l.length).run P w=.ok ⟨b.data++l.toArray⟩ w
 |[],a,b,_=>by simp[loadBytes]
 |x::l,a,b,h=>by
  obtain⟨n,d,hx⟩:∃ n,w.cell? a=a9 (.int .u8 n)/\x=n.toNat.toUInt8:=by have:=h 0 x rfl;simpa[Addr.add]using this
  have f:=Ab l (a.add 1) (b.push x) (fun j y g=>by
   have:=h (j+1) y (by simpa using g)
   have e:(a.add 1).add j=a.add (j+1):=by
    unfold Addr.add;by_cases c:j=0
    .subst c; simp
    .simp[c]; omega
   rw[e]; exact this)
  simp only[zA9,loadBytes,Sem.run_bind,run_load,d,Result.andThen,<-hx];rw[f];congr 1;apply ByteArray.ext;simp[ByteArray.push]
def AN{x v:go}{ts:Array io}{ty:io}(h:oB x=a9 v):(Builtin.unsafeSliceData_ ts ty ([x].map ρ.val).toArray).run P w=.ok (ρ.val v) w:=by
 unfold oB at h;split at h
 .cases h; rfl
 .rename_i n off sp len c;cases h;have b:=Ren.y6 (ρ:=ρ) (a:=⟨n,off,sp⟩) (len:=len) (cap:=c+1) (Nat.succ_ne_zero c);have d:=Ren.EN (ρ:=ρ) (a:=⟨n,off,sp⟩) (len:=len) (cap:=c+1) (Nat.succ_ne_zero c);have f:=Ren.DW (ρ:=ρ) (a:=⟨n,off,sp⟩) (len:=len) (cap:=c+1);simp only[zB8,zE7,Ren.val,b,d];have e:ρ.rB ⟨n,off,sp⟩ len (c+1)≠0:=by omega
  exact Lib.run_unsafeSliceData_row w ts ty ⟨ρ.blk n,off+ρ.sh n,bi⟩ len _ e
 .cases h
def Nk{b:Nat}{c:Array go}{e:io}{f:Nat × Nat}(h:w.heap[b]?=a9 (.cells c e f))(off n:Nat)(g:n≠0) :
  (∃ d,(w.freeze ⟨b,off,bi⟩ n).heap[b]?=a9 (.cells c e d))/\(w.freeze ⟨b,off,bi⟩ n).heap.size=w.heap.size/\(∀ a,a≠b->(w.freeze ⟨b,off,bi⟩ n).heap[a]?=w.heap[a]?) /\
   (w.freeze ⟨b,off,bi⟩ n).os=w.os/\(w.freeze ⟨b,off,bi⟩ n).tape=w.tape/\(w.freeze ⟨b,off,bi⟩ n).output=w.output:=by
 unfold World.freeze;rw[if_neg g];refine⟨?_,by simp,fun a i=>?_,rfl,rfl,rfl⟩
 .obtain⟨lo,hi⟩:=f;simp[Array.getElem?_modify,h]
 .simp only[Array.getElem?_modify];rw[if_neg (fun e=>i e.symm)]
def Bp{pt ty:io}{rest:List io}:(Builtin.unsafeString_ ⟨pt::rest⟩ ty #[li bi,jp kw 0]).run P w=.ok (.string .empty) w:=by
 have a:IntKind.i64.max=9223372036854775807:=rfl
 obtain⟨A,B,C,b⟩:∃ (A:Sem PUnit) (B:Sem PUnit) (C:Sem go),Builtin.unsafeString_ ⟨pt::rest⟩ ty #[li bi,jp kw 0] =
   (do
    let n <-asInt (jp kw 0)
    if n<0 then A
    if n>IntKind.i64.max then B
    if n=0 then pure (.string .empty)
    else C):=⟨_,_,_,rfl⟩
 rw[b];simp[asInt,asIntOf,a]
def qo{pt ty:io}{rest:List io}{a:Addr}{n:Int} : ∃ (A : Sem PUnit) (B : Sem PUnit) (C : Sem go), Builtin.unsafeString_ ⟨pt :: rest⟩ ty #[li (a9 a), jp kw n] =
   (do
    let n <-asInt (jp kw n)
    if n<0 then A
    if n>IntKind.i64.max then B
    if n=0 then pure (.string .empty)
    else if <-variablesAt a (<-elemOf pt) n.toNat then do
     let s <-loadBytes a .empty n.toNat
     freeze a n.toNat
     pure (.string s)
    else C):=⟨_,_,_,rfl⟩
def tM{ts:Array io}{pt ty e:io}{rest:List io}(d:ts.toList=pt::rest)(o:P.underlying pt=a9 (.pointer e))(p:P.cellsOf e=1)(g off cells:Nat)(k:w.shape? g=a9 (e,cells))(l:List UInt8)(q:l.length≠0)(r:off+l.length<=cells)(s:l.length<=9223372036854775807)
  (b:∀ j x,l[j]?=a9 x->∃ n,w.cell? ((⟨g,off,bi⟩:Addr).add j)=a9 (.int .u8 n)/\x=n.toNat.toUInt8) :
  (Builtin.unsafeString_ ts ty #[li (a9 ⟨g,off,bi⟩),jp kw l.length]).run P w=.ok (.string ⟨l.toArray⟩) (w.freeze ⟨g,off,bi⟩ l.length):=by
 have m:=Ab (P:=P) l ⟨g,off,bi⟩ .empty b;have c:=JL (P:=P) p cells off l.length r;have f:¬(9223372036854775807:Int)<(l.length:Int):=by omega
 have h:IntKind.i64.max=9223372036854775807:=rfl;have i:¬(l.length:Int)<0:=by omega
 have t:l≠[]:=fun e=>q (by rw[e]; rfl);obtain⟨ts⟩:=ts;simp only at d;subst d;obtain⟨A,B,C,u⟩:=qo (pt:=pt) (ty:=ty) (rest:=rest) (a:=⟨g,off,bi⟩) (n:=(l.length:Int));rw[u];simp[asInt,asIntOf,h,f,i,t,variablesAt,k,elemOf,run_underlying o,c,m]
def Bo(r:Rel P ρ H w){ts:Array io}{ty:io}{p n v:go}{H1:aa}(h:o6 P H ts p n=a9 (v,H1)) :
  lP P ρ H w (Builtin.unsafeString_ ts ty ([p,n].map ρ.val).toArray) v H1:=by
 unfold o6 at h;have m:IntKind.i64.max=9223372036854775807:=rfl;split at h
 .rename_i pt rest d;simp only[i8,i9]at h;obtain⟨rfl,rfl⟩:=h;refine lP.same r ?_;obtain⟨ts⟩:=ts;simp only at d;subst d;simp only[zB8,zE7,Ren.val];exact Bp
 .rename_i pt rest b off n d;simp only[zA1,zA2]at h;obtain⟨u,E,h⟩:=h;split at h
  .rename_i e';simp only[zA2]at h;obtain⟨u2,S,h⟩:=h;split at h
   .simp only[zA2]at h;obtain⟨u3,F,h⟩:=h;split at h
    .split at h
     .rename_i z e q o c D;split at h
      .rename_i G;subst G;simp only[i8,i9]at h;obtain⟨rfl,rfl⟩:=h;refine lP.same r ?_;obtain⟨ts⟩:=ts;simp only at d;subst d;simp only[zB8,zE7,Ren.val];obtain⟨A,B,C,T⟩:=qo (pt:=pt) (ty:=ty) (rest:=rest) (a:=⟨ρ.blk b,off+ρ.sh b,bi⟩) (n:=0);rw[T];simp[asInt,asIntOf,m]
      .split at h
       .rename_i U;obtain⟨V,hn,W,s⟩:=U;subst V;have s:=jl s;simp only[zA2,i8,i9]at h;obtain⟨l,X,rfl,rfl⟩:=h;obtain⟨t,g⟩:=px X;rw[RV.length_gets]at t;obtain⟨o',I,f⟩:=r.obj _ _ D;simp only[Fits]at f;obtain⟨cs,fz,rfl,y,J,K⟩:=f
        have L:ρ.sh b+c.n<=cs.size:=by
         cases o with
         |false=>obtain⟨k1,k2,_⟩:=J rfl; omega
         |true=>have:=(K rfl trivial).1.1; omega
        have M:n=(l.length:Int):=by omega
        obtain⟨⟨N,Y⟩,m2,m3,m4,m5,m6⟩:=Nk I (off+ρ.sh b) l.length lw;have O:¬Fz (H.get b):=tF D (by cases o<;>rfl);refine⟨ρ,_,St.cH r (bJ D) O (o:=⟨.cells z e (1,q),bv,c⟩) (o':=.cells cs e N) ?_ ?_ Y m2 m3 m4 m5 m6,?_⟩
        .exact (r.dom _ _ D).2
        .simp only[Fits];exact⟨cs,_,rfl,y,fun h=>(by cases h),fun _ h=>(by cases h)⟩
        .simp only[zB8,zE7,Ren.val];rw[M];have Q:w.shape? (ρ.blk b)=a9 (e,cs.size):=by unfold World.shape?; rw[I]
         refine tM d E (bK F) _ _ _ Q l lw lw lw fun j x hx=>?_;have i:j<n.toNat:=by have:=(zF5.1 hx).1; omega
         obtain⟨k,Z,R⟩:=g j ((c.ky off n.toNat)[j]'(by simpa using i)) (zB0 _);refine⟨k,?_,?_⟩
         .have e3:c.get (off+j)=.int .u8 k:=by
           have:=RV.qV c off n.toNat j i;rw[<-this,zC9,zB0 (by simpa using i),Z]; rfl
          have:=y (off+j) lw;rw[e3,Ren.val]at this
          have ea:(⟨ρ.blk b,off+ρ.sh b,bi⟩:Addr).add j=⟨ρ.blk b,off+j+ρ.sh b,bi⟩:=by
           unfold Addr.add;by_cases i:j=0
           .subst i; simp
           .simp[i]; omega
          rw[ea];unfold World.cell?;rw[I];exact this
         .rw[hx]at R;cases R;rfl
       .cases h
     .cases h
    .cases h
   .cases h
  .cases h
 .cases h
def zv{a:Addr}{c:Array go}{e:io}{f:Nat × Nat}(d:w.heap[a.block]?=a9 (.cells c e f)):(Conv.seenAt a).run P w=.ok a w:=by
 have b:w.shape? a.block=a9 (e,c.size):=by unfold World.shape?; rw[d]
 have g:(viewAt a.block).run P w=.ok bi w:=by unfold viewAt;simp[b]
 unfold Conv.seenAt;simp[g]
def DD{s d t:io}{a:Addr}{c:Array go}{e:io}{f:Nat × Nat}{sz:Nat}(i:P.underlying s=a9 (.pointer t))(j:P.underlying d=a9 .unsafePointer)(h:w.heap[a.block]?=a9 (.cells c e f))(n:a.spot=bi)(o:a.off<c.size)(k:br P t=a9 sz)(p:0<sz) :
  (Conv.unsafePointer s d (li (a9 a))).run P w=.ok (li (a9 a)) w:=by
 have b:w.shape? a.block=a9 (e,c.size):=by unfold World.shape?; rw[h]
 have l:(cellsIn a.block).run P w=.ok (a9 c.size) w:=by unfold cellsIn;simp[b]
 have m:¬c.size<=a.off:=by omega
 have g:sz≠0:=by omega
 unfold Conv.unsafePointer;simp[Sem.run_bind,ay i,ay j,zv h,l,ct k,m,g]
def EC{s d u:io}{a:Addr}{c:Array go}{f:Nat × Nat}{sz:Nat}(h:P.underlying s=a9 .unsafePointer)(i:P.underlying d=a9 (.pointer u))(e:w.heap[a.block]?=a9 (.cells c u f))(j:a.off=0)(g:br P u=a9 sz)(k:0<sz)(l:c.size=sz) :
  (Conv.unsafePointer s d (li (a9 a))).run P w=.ok (li (a9 a)) w:=by
 have b:w.shape? a.block=a9 (u,c.size):=by unfold World.shape?; rw[e]
 have m:=Jl (P:=P) (bK g) k;unfold Conv.unsafePointer;simp[Sem.run_bind,ay h,ay i,zv e,ct g,variablesAt,b,j,l,m]
def F4{g:FuncId}{name:String}(h:K5 P g name=bv):∃ fn,P.funcs[g]?=a9 fn/\fn.body.isNone=bv/\fn.name=name/\fn.origin = "" := by
 unfold K5 at h;split at h
 .rename_i fn a;simp only[zA6,beq_iff_eq]at h;exact⟨fn,a,h.1.1,h.1.2,h.2⟩
 .cases h
def N0{fn:Func}(a:fn.name = "internal/abi.NoEscape")(b:fn.origin = ""):Extern.findNext fn=bi/\Extern.find fn=a9 Extern.AbiNoEscape.same:=by unfold Extern.findNext Extern.find;simp only[a,b];exact⟨by kernel_rfl,by kernel_rfl⟩
def II{fn:Func}(a:fn.name = "internal/bytealg.MakeNoZero")(b:fn.origin = ""):Extern.findNext fn=bi/\Extern.find fn=a9 (Extern.BytealgMakeNoZero.makeNoZero fn.params fn.resultTypes):=by unfold Extern.findNext Extern.find;simp only[a,b];exact⟨by kernel_rfl,by kernel_rfl⟩
def FC(r:Rel P ρ H w){g:FuncId}{args:List go}{x:de}{H1:aa}(h:oF P H g args=a9 (x,H1)) :
  lC P ρ H w (callFunc g (args.map ρ.val).toArray) x H1:=by
 unfold oF at h;split at h
 .rename_i a;split at h
  .rename_i j;simp only[i8,i9]at h;obtain⟨rfl,rfl⟩:=h;obtain⟨fn,f,l,b,m⟩:=F4 j;obtain⟨o,p⟩:=N0 b m;refine⟨ρ,w,St.refl r,?_⟩;have:=run_callFunc_extern f (by rw[b]; decide) l o p ([Value.pointer (a9 a)].map ρ.val).toArray w;simp only[iO];rw[this];have z:Extern.AbiNoEscape.same ([Value.pointer (a9 a)].map ρ.val).toArray=pure (ρ.val (li (a9 a))):=rfl;rw[z];simp only[Sem.run_pure,Result.andThen_ok]
  .cases h
 .rename_i n;split at h
  .rename_i u;simp only[zA6,decide_eq_true_eq]at u;obtain⟨⟨j,A⟩,hn1⟩:=u;obtain⟨fn,f,l,b,m⟩:=F4 j;obtain⟨o,p⟩:=II b m;rw[f]at h;simp only at h;split at h
   .rename_i t q;split at h
    .rename_i e B;split at h
     .rename_i c;simp only[i8,i9]at h;obtain⟨rfl,rfl⟩:=h;have C:fn.resultTypes=#[t]:=by apply Array.ext';rw[q]
      obtain⟨k,rfl⟩:∃ k:Nat,n=k:=⟨n.toNat,by omega⟩
      obtain⟨cs,d,D,s⟩:=Lib.run_makeNoZero (P:=P) w fn.params t e B k lw;have v:=tP r;have s2:=v.trans (tP v.rel)
      have E:=St.new s2.rel ⟨.cells #[] e (0,0),bv,⟨[],0⟩⟩ (.cells cs e) 0 cs.size (by intro i hi; exact absurd hi (Nat.not_lt_zero i)) (by
       simp only[Fits];refine⟨_,_,rfl,fun i hi=>absurd hi (Nat.not_lt_zero i),fun h=>(by cases h),fun _ _=>⟨⟨?_,fun _=>?_⟩,fun i _ _=>?_⟩⟩
       .simp[bK c]
       .have:=s (by simp only[maxLen]; omega);simp only[maxLen]at this;simp[bK c];omega
       .simp only; omega)
      refine⟨_,_,s2.trans E,?_⟩;have:=run_callFunc_extern f (by rw[b]; decide) l o p ([Value.int kw (k:Int)].map ρ.val).toArray w;have F:([Value.int kw (k:Int)].map ρ.val).toArray=#[jp kw (k:Int)]:=by simp[Ren.val]
      simp only[iO];rw[this,C,F,d];have y:=oq ρ H.next w.drew.drew.heap.size 0 cs.size k 0;rw[zC2]at y;simp only[Result.andThen_ok,zG7];rw[y];rfl
     .cases h
    .cases h
   .cases h
  .cases h
 .cases h
end
section
variable{P:ip}{ρ:Ren}{H:aa}{w:i6}
def RB(s:ByteArray):∀(b i:Nat)(a:Array go),(∀ v∈a.toList,af v=bv)->∀ v∈(Conv.runesFrom s b i a).toList,af v=true:=by
 intro b
 induction b with
 |zero=>intro i a h; simpa[Conv.runesFrom]using h
 |succ b d =>
  intro i a h;simp only[Conv.runesFrom];split
  .refine d _ _ ?_;intro v c;simp only[Array.toList_push,zB1,zA5]at c;rcases c with c|rfl
   .exact h v c
   .rfl
  .exact h
def RA(r:Rel P ρ H w){e:io}{c:List go}{H1:aa}(h:cJ H e c bv=a9 H1)(a:Array go)(b:Nat)(f:a.size=b*P.cellsOf e)(g:c.length+b*P.cellsOf e<=9223372036854775807*P.cellsOf e) :
  St P ρ H w (ρ.at H.next w.heap.size 0 b) H1 (w.alloc (.cells ((c.map ρ.val).toArray++a) e (c.length+a.size,c.length+a.size+1))):=by
 unfold cJ at h;split at h
 .rename_i d;simp only[i8]at h;subst h;refine St.new r _ _ 0 b ?_ ?_
  .simp only[l6,RV.n_ofList,RV.cM];intro i hi;exact ck.1 d _ (by simp[List.getD,hi])
  .simp only[Fits];refine⟨_,_,rfl,fun i hi=>?_,fun h=>(by cases h),fun _=>?_⟩
   .simp only[RV.n_ofList]at hi;rw[RV.cM,Ren.at_sh,je (Ren.lr ρ H.next w.heap.size 0 b) _ (ck.1 d _ (by simp[List.getD,hi]))];rw[Array.getElem?_append_left (by simpa using hi)];simp[List.getD,hi]
   .simp[f];exact⟨fun _=>g,by omega⟩
 .cases h
theorem run_shape(b:Nat):(shape b).run P w=.ok (w.shape? b) w:=rfl
theorem run_freeze(a:Addr)(n:Nat):(freeze a n).run P w=.ok () (w.freeze a n):=rfl
theorem AA(o:Obj):(w.alloc o).heap=w.heap.push o:=rfl
def PM(o:Obj):(w.alloc o).heap[w.heap.size]?=a9 o:=by rw[AA]; simp
def Fj(c:Array go)(e:io):(markStringish ⟨w.heap.size,0,bi⟩).run P (w.alloc (.cells c e))=.ok () (w.alloc (.cells c e (c.size,c.size+1))):=by
 have a:(w.alloc (.cells c e)).shape? w.heap.size=a9 (e,c.size):=by unfold World.shape?;rw[PM]
 unfold markStringish;simp only[Sem.run_bind,run_shape,a,Result.andThen_ok,run_freeze];congr 1;unfold World.freeze;rw[if_neg ol,AA]
 have:∀ f:Obj->Obj,(w.heap.push (.cells c e)).modify w.heap.size f=w.heap.push (f (.cells c e)):=by
  intro f;apply Array.ext_getElem?;intro i;rw[Array.getElem?_modify];by_cases hi:w.heap.size=i
  .subst hi; simp
  .rw[if_neg hi,Array.getElem?_push,Array.getElem?_push,if_neg (fun h=>hi h.symm),if_neg (fun h=>hi h.symm)]
 simp only[this];simp;rfl
def GG{b:Nat}{c:Array go}{e:io}(h:w.heap[b]?=a9 (.cells c e (0,0)))(off:Nat) :
  (markStringish ⟨b,off,bi⟩).run P w=.ok () (w.freeze ⟨b,c.size,bi⟩ 1)/\(w.freeze ⟨b,c.size,bi⟩ 1).heap[b]?=a9 (.cells c e (c.size,c.size+1))/\(w.freeze ⟨b,c.size,bi⟩ 1).heap.size=w.heap.size/\(∀ a,a≠b->(w.freeze ⟨b,c.size,bi⟩ 1).heap[a]?=w.heap[a]?) /\
   (w.freeze ⟨b,c.size,bi⟩ 1).os=w.os/\(w.freeze ⟨b,c.size,bi⟩ 1).tape=w.tape:=by
 have d:w.shape? b=a9 (e,c.size):=by unfold World.shape?;rw[h]
 refine⟨?_,?_,?_,fun a f=>?_,?_,?_⟩
 .unfold markStringish;simp only[Sem.run_bind,run_shape,d,Result.andThen_ok,run_freeze]
 .unfold World.freeze;rw[if_neg ol];simp[Array.getElem?_modify,h]
 .unfold World.freeze;rw[if_neg ol];simp
 .unfold World.freeze;rw[if_neg ol];simp only[Array.getElem?_modify];rw[if_neg (fun e=>f e.symm)]
 .unfold World.freeze; rw[if_neg ol]
 .unfold World.freeze; rw[if_neg ol]
def Jb(s:ByteArray):(ak s.data.toList).toArray=s.data.map fun b=>(.int .u8 b.toNat:go):=by unfold ak;apply Array.ext';simp
def JH(r:Rel P ρ H w){e:io}{s:ByteArray}{g:aa}(c:br P e=a9 1)(k:cJ H e (ak s.data.toList) bv=a9 g)(m:s.size<=1000000000) :
  lP P ρ H w (Conv.stringToBytes e s) (lm (a9 ⟨H.next,0,bi⟩) s.size s.size) g:=by
 have d:=sR s.size 0 e (w.tape w.drawn (.appendCap s.size 0 e))
 obtain⟨f,h⟩:∃ f,(Question.appendCap s.size 0 e).cut (w.tape w.drawn (.appendCap s.size 0 e))=s.size+f:=⟨_,(Nat.add_sub_cancel' d).symm⟩
 have i:(Question.appendCap s.size 0 e).forced=false:=rfl
 have j:=RA (r.heap (w':=w.drew) rfl) k (Array.replicate f (.int .u8 0)) f (by simp[bK c]) (by
  rw[bK c,zF0,zF0];have:=nn s.size 0 e (w.tape w.drawn (.appendCap s.size 0 e)) lw;have n:(ak s.data.toList).length=s.size:=by unfold ak; simp
  omega)
 refine⟨_,_,(tP r).trans j,?_⟩;unfold Conv.stringToBytes;simp only[Sem.run_bind,run_choose,i,zD2,if_false,h];have a:({w with drawn:=w.drawn+1}:i6)=w.drew:=rfl;simp only[a,Result.andThen_ok,newRow,Sem.run_bind,run_newObj,Sem.run_pure,zG2];have:=Fj (P:=P) (w:=w.drew) ((s.data.map fun b=>(.int .u8 b.toNat:go))++Array.replicate f (.int .u8 0)) e;have l:((ak s.data.toList).map ρ.val).toArray=s.data.map fun b=>(.int .u8 b.toNat:go):=by rw[<-Jb];congr 1;unfold ak;rw[List.map_map];apply List.map_congr_left;intro b _;simp[Ren.val]
 refine (congrArg (fun q=>Result.andThen q _) this).trans ?_;rw[oq,l];simp only[Result.andThen_ok];simp[ak]
def Js(r:Rel P ρ H w){e:io}{s:ByteArray}{g:aa}(c:br P e=a9 1)(m:cJ H e (Conv.runesFrom s s.size 0 #[]).toList bv=a9 g)(n:(Conv.runesFrom s s.size 0 #[]).toList.length<=1000000000) :
  lP P ρ H w (Conv.stringToRunes e s) (lm (a9 ⟨H.next,0,bi⟩) (Conv.runesFrom s s.size 0 #[]).toList.length (Conv.runesFrom s s.size 0 #[]).toList.length) g:=by
 generalize d:Conv.runesFrom s s.size 0 #[]=a at m n;have f:=sR a.size 0 e (w.tape w.drawn (.appendCap a.size 0 e))
 obtain⟨h,i⟩:∃ h,(Question.appendCap a.size 0 e).cut (w.tape w.drawn (.appendCap a.size 0 e))=a.size+h:=⟨_,(Nat.add_sub_cancel' f).symm⟩
 have j:(Question.appendCap a.size 0 e).forced=false:=rfl
 have k:=BP (r.heap (w':=w.drew) rfl) m (Array.replicate h (.int .i32 0)) h (by simp[bK c]) (by
  rw[bK c,zF0,zF0];have q:a.toList.length=a.size:=by simp
  have:=nn a.size 0 e (w.tape w.drawn (.appendCap a.size 0 e)) lw
  omega)
 refine⟨_,_,(tP r).trans k,?_⟩;unfold Conv.stringToRunes;simp only[d,Sem.run_bind,run_choose,j,zD2,if_false,i];have b:({w with drawn:=w.drawn+1}:i6)=w.drew:=rfl;simp only[b,Result.andThen_ok,newRow,Sem.run_bind,run_newObj,Sem.run_pure,zG2];have l:∀ v∈a.toList,af v=true:=by rw[<-d]; exact RB s s.size 0 #[] nl
 have o:(a.toList.map ρ.val).toArray=a:=by
  have:a.toList.map ρ.val=a.toList:=by
   conv=>rhs; rw[<-List.map_id a.toList]
   apply List.map_congr_left;intro v p;exact dM ρ v (l v p)
  rw[this]
 rw[oq,o];simp;rfl
def CH{β:Type}(f:go->β->Sem (ForInStep β))(g:go->β->β):∀(l:List go)(b:β),(∀ v∈l,∀ b,(f v b).run P w=.ok (.yield (g v b)) w) ->
  (forIn l.toArray b f).run P w=.ok (l.foldl (fun b v=>g v b) b) w:=by
 intro l
 induction l with
 |nil=>intro b _; simp
 |cons v l a =>intro b h;have:=a (g v b) (fun u d c=>h u (zB9 _ d) c);simp only[List.forIn_toArray]at this ⊢;simp only[List.forIn_cons,Sem.run_bind,h v (zF2 ..) b,Result.andThen_ok,List.foldl_cons,this]
def Sy(a:List UInt8)(b:UInt8):(ByteArray.mk a.toArray).push b=⟨(a++[b]).toArray⟩:=by simp[ByteArray.push]
def NN(a:List UInt8)(b:ByteArray):(ByteArray.mk a.toArray)++b=⟨(a++b.data.toList).toArray⟩:=by apply ByteArray.ext;simp[ByteArray.data_append]
def I2(ρ:Ren):∀(cs:List go)(l a:List UInt8),cB cs=a9 l ->
  (cs.map ρ.val).foldl (fun (s:ByteArray) (v:go)=>match v with|.int .u8 n=>s.push (UInt8.ofNat n.toNat)|_=>s) ⟨a.toArray⟩=⟨(a++l).toArray⟩/\∀ v∈cs.map ρ.val,∃ n,v=.int .u8 n:=by
 intro cs
 induction cs with
 |nil=>intro l a h; simp only[cB,i8]at h; subst h; simp
 |cons c cs d =>
  intro l a h;unfold cB at h;split at h
  .cases ‹c::cs=[]›
  .rename_i n r b;cases b;simp only[zB5]at h;obtain⟨e,f,rfl⟩:=h;obtain⟨g,i⟩:=d e (a++[UInt8.ofNat n.toNat]) f;refine⟨?_,?_⟩
   .simp only[zB8,Ren.val,List.foldl_cons,Sy];rw[g];simp
   .intro v hv;simp only[zB8,zA8]at hv;rcases hv with rfl|hv
    .exact⟨n,by rw[Ren.val]⟩
    .exact i v hv
  .cases h
def JE(ρ:Ren):∀(cs:List go)(l a:List UInt8),fW cs=a9 l ->
  (cs.map ρ.val).foldl (fun (s:ByteArray) (v:go)=>match v with|.int .i32 n=>s++Utf8.encode n|_=>s) ⟨a.toArray⟩=⟨(a++l).toArray⟩/\∀ v∈cs.map ρ.val,∃ n,v=.int .i32 n:=by
 intro cs
 induction cs with
 |nil=>intro l a h; simp only[fW,i8]at h; subst h; simp
 |cons c cs d =>
  intro l a h;unfold fW at h;split at h
  .cases ‹c::cs=[]›
  .rename_i n r b;cases b;simp only[zB5]at h;obtain⟨e,f,rfl⟩:=h;obtain⟨g,i⟩:=d e (a++(Utf8.encode n).data.toList) f;refine⟨?_,?_⟩
   .simp only[zB8,Ren.val,List.foldl_cons,NN];rw[g];simp
   .intro v hv;simp only[zB8,zA8]at hv;rcases hv with rfl|hv
    .exact⟨n,by rw[Ren.val]⟩
    .exact i v hv
  .cases h
def Jg(r:Rel P ρ H w){a:Option Addr}{len cap:Nat}{cs:List go}{l:List UInt8}(d:cK H 1 len (.slice a len len)=a9 cs)(e:fW cs=a9 l) :
  (Conv.runesToString (ρ.val (.slice a len cap))).run P w=.ok (.string ⟨l.toArray⟩) w:=by
 have c:=ji r d (fun k f=>by simp only[jD,i8]at f; omega)
 cases a with
 |none =>simp only[cK,i8]at d;subst d;simp only[fW,i8]at e;subst e;simp only[Ren.val,Conv.runesToString,Sem.run_pure];rfl
 |some a =>
  simp only[Ren.val,Builtin.firstCells,zF0]at c
  replace c:(loadCells ⟨ρ.blk a.block,ρ.pJ a len cap+ρ.sh a.block,ρ.C2 a len cap⟩ len).run P w=.ok (cs.map ρ.val).toArray w:=by
   cases len with
   |zero=>exact c
   |succ len=>rw[Ren.oP (.inr (Nat.succ_ne_zero _)),Ren.qb (.inr (Nat.succ_ne_zero _))]at c ⊢; exact c
  simp only[Ren.val,Conv.runesToString,Sem.run_bind,c,Result.andThen_ok];obtain⟨g,h⟩:=JE ρ cs l [] e
  rw[CH _ (fun v s=>match v with|.int .i32 n=>s++Utf8.encode n|_=>s) _ _ (fun v i b=>by
   obtain⟨n,rfl⟩:=h v i
   simp)]
  have j:ByteArray.empty=⟨([]:List UInt8).toArray⟩:=rfl;simp only[Result.andThen_ok,Sem.run_pure,j];rw[g];simp
def Mz(r:Rel P ρ H w){a:Option Addr}{len cap:Nat}{cs:List go}{l:List UInt8}(d:cK H 1 len (.slice a len len)=a9 cs)(e:cB cs=a9 l) :
  (Conv.bytesToString (ρ.val (.slice a len cap))).run P w=.ok (.string ⟨l.toArray⟩) w:=by
 have c:=ji r d (fun k f=>by simp only[jD,i8]at f; omega)
 cases a with
 |none =>simp only[cK,i8]at d;subst d;simp only[cB,i8]at e;subst e;simp only[Ren.val,Conv.bytesToString,Sem.run_pure];rfl
 |some a =>
  simp only[Ren.val,Builtin.firstCells,zF0]at c
  replace c:(loadCells ⟨ρ.blk a.block,ρ.pJ a len cap+ρ.sh a.block,ρ.C2 a len cap⟩ len).run P w=.ok (cs.map ρ.val).toArray w:=by
   cases len with
   |zero=>exact c
   |succ len=>rw[Ren.oP (.inr (Nat.succ_ne_zero _)),Ren.qb (.inr (Nat.succ_ne_zero _))]at c ⊢; exact c
  simp only[Ren.val,Conv.bytesToString,Sem.run_bind,c,Result.andThen_ok];obtain⟨g,h⟩:=I2 ρ cs l [] e
  rw[CH _ (fun v s=>match v with|.int .u8 n=>s.push (UInt8.ofNat n.toNat)|_=>s) _ _ (fun v i b=>by
   obtain⟨n,rfl⟩:=h v i
   simp)]
  have j:ByteArray.empty=⟨([]:List UInt8).toArray⟩:=rfl;simp only[Result.andThen_ok,Sem.run_pure,j];rw[g];simp
def DX(r:Rel P ρ H w){s d:io}{x v:go}{H1:aa}(h:bB P H s d x=a9 (v,H1)):lP P ρ H w (convert s d (ρ.val x)) v H1:=by
 unfold bB at h;split at h
 .rename_i N k ks n m p;simp only[i8,i9]at h;obtain⟨rfl,rfl⟩:=h;refine lP.same r ?_;simp[convert,Sem.run_bind,ay m,ay p,Ren.val,Conv.intToInt]
 .rename_i N str m p;simp only[i8,i9]at h;obtain⟨rfl,rfl⟩:=h;refine lP.same r ?_;simp[convert,Sem.run_bind,ay m,ay p,Ren.val]
 .rename_i N ks n m p;simp only[i8,i9]at h;obtain⟨rfl,rfl⟩:=h;refine lP.same r ?_;simp[convert,Sem.run_bind,ay m,ay p,Ren.val,Conv.intToString]
 .rename_i N e str m p;split at h
  .rename_i C;simp only[zA1,zA2]at h;obtain⟨sz,y,h⟩:=h;split at h
   .split at h
    .rename_i E;simp only[zA2,i8,i9]at h;obtain⟨g,A,rfl,rfl⟩:=h;obtain⟨F,w1,G,O⟩:=JH r y A (jl E);refine⟨F,w1,G,?_⟩;rw[<-O];simp[convert,Sem.run_bind,ay m,ay p,ay C,Ren.val]
    .cases h
   .cases h
  .rename_i C;simp only[zA1,zA2]at h;obtain⟨sz,y,h⟩:=h;split at h
   .split at h
    .rename_i E;simp only[zA2,i8,i9]at h;obtain⟨g,A,rfl,rfl⟩:=h;obtain⟨F,w1,G,O⟩:=Js r y A (jl E);refine⟨F,w1,G,?_⟩;rw[<-O];simp[convert,Sem.run_bind,ay m,ay p,ay C,Ren.val]
    .cases h
   .cases h
  .cases h
 .rename_i e a len cap m p;simp only[zA1,zA2]at h;obtain⟨cs,B,h⟩:=h;split at h
  .rename_i C;simp only[zB5,i9]at h;obtain⟨l,Q,rfl,rfl⟩:=h;refine lP.same r ?_;have:=Mz (cap:=cap) r B Q;rw[Ren.val,<-this];cases a<;>simp[convert,Sem.run_bind,ay m,ay p,ay C,Ren.val]
  .rename_i C;simp only[zB5,i9]at h;obtain⟨l,Q,rfl,rfl⟩:=h;refine lP.same r ?_;have:=Jg (cap:=cap) r B Q;rw[Ren.val,<-this];cases a<;>simp[convert,Sem.run_bind,ay m,ay p,ay C,Ren.val]
  .cases h
 .rename_i e0 e a len cap m p;simp only[zA1,zA2]at h;obtain⟨u,C,h⟩:=h;split at h
  .split at h
   .rename_i z ty q c A;split at h
    .rename_i B;simp only[zA6]at B;obtain⟨I,R⟩:=B;have I:=Nat.eq_of_beq_eq_true I;subst I;have K:e0=e:=by rw[m]at p; simpa using p
     subst K;simp only[i8,i9]at h;obtain⟨rfl,rfl⟩:=h;obtain⟨o',L,j⟩:=r.obj _ _ A;simp only[Fits]at j;obtain⟨cs,U,rfl,D,J,_⟩:=j;obtain⟨V,S,M,W⟩:=J trivial;subst W;obtain⟨m1,m2,m3,m4,m5,m6⟩:=GG (P:=P) L (ρ.pJ a len cap+ρ.sh a.block);refine⟨ρ,_,St.cH r (bJ A) (tF A Q3) (o:=⟨.cells z ty q,bv,c⟩) (o':=.cells cs ty (cs.size,cs.size+1)) ?_ ?_ m2 m3 m4 m5 m6 rfl,?_⟩
     .exact (r.dom _ _ A).2
     .simp only[Fits];refine⟨cs,_,rfl,D,fun h=>(by cases h),fun _ _=>⟨⟨?_,fun h=>absurd M h⟩,fun i _ hi=>?_⟩⟩
      .rw[V,S,M]; simp
      .rw[S,M]at hi; simp only; omega
     .rw[Ren.val];rw[Ren.qb (.inl (Nat.eq_of_beq_eq_true R))];simp only[convert,Sem.run_bind,ay m,ay C,Result.andThen_ok,beq_self_eq_true,m1,Sem.run_pure]
    .cases h
   .cases h
  .cases h
 .rename_i t m p;simp only[i8,i9]at h;obtain⟨rfl,rfl⟩:=h;refine lP.same r ?_;simp[convert,Conv.unsafePointer,Sem.run_bind,ay m,ay p,Ren.val]
 .rename_i t n off m p;simp only[zA1,zA2]at h;obtain⟨sz,y,⟨c,e,o⟩,B,h⟩:=h;split at h
  .rename_i b;simp only[zA6]at b;simp only[i8,i9]at h;obtain⟨rfl,rfl⟩:=h
   obtain⟨X,Y,A⟩:∃ X Y,H.get n=a9 ⟨.cells X e Y,o,c⟩:=by
    unfold aP at B;split at B
    .rename_i z e' f o' v' A;simp only[i8,i9]at B;obtain⟨rfl,rfl,rfl⟩:=B;exact⟨z,f,A⟩
    .cases B
   obtain⟨o',L,j⟩:=r.obj _ _ A;simp only[Fits]at j;obtain⟨cs,U,rfl,D,_,_⟩:=j
   have T:off+ρ.sh n<cs.size:=by
    have:=D off (bT b.2);rcases zC0 (off+ρ.sh n) cs.size with h|h
    .exact h
    .rw[Array.getElem?_eq_none h]at this; cases this
   refine lP.same r ?_;have:=DD (P:=P) (w:=w) (a:=⟨ρ.blk n,off+ρ.sh n,bi⟩) m p L rfl T y (bT b.1);simp only[Ren.val,convert,Sem.run_bind,ay m,ay p,Result.andThen_ok];exact this
  .cases h
 .rename_i t m p;simp only[i8,i9]at h;obtain⟨rfl,rfl⟩:=h;refine lP.same r ?_;simp[convert,Conv.unsafePointer,Sem.run_bind,ay m,ay p,Ren.val]
 .rename_i u n m p;simp only[zA1,zA2]at h;obtain⟨sz,y,h⟩:=h;split at h
  .rename_i z e f c A;split at h
   .rename_i b;simp only[zA6]at b;obtain⟨⟨K,Z⟩,h0⟩:=b;have K:=Nat.eq_of_beq_eq_true K;subst K;have Z:=Nat.eq_of_beq_eq_true Z;simp only[i8,i9]at h;obtain⟨rfl,rfl⟩:=h;obtain⟨o',L,j⟩:=r.obj _ _ A;simp only[Fits]at j;obtain⟨cs,U,rfl,D,J,_⟩:=j;obtain⟨V,S,M,W⟩:=J trivial;refine lP.same r ?_;have:=EC (P:=P) (w:=w) (a:=⟨ρ.blk n,0+ρ.sh n,bi⟩) m p L (by simp only; omega) y (bT h0) lw;simp only[Ren.val,convert,Sem.run_bind,ay m,ay p,Result.andThen_ok];exact this
   .cases h
  .cases h
 .cases h
def jm{r:Nat}{o o':Obj}(h:w.heap[r]?=a9 o)(a:∀ c e f,o≠.cells c e f):(setObj r o').run P w=.ok () {w with heap:=w.heap.setIfInBounds r o'}:=by
 cases o<;>first
  |(exact absurd rfl (a _ _ _))
  |simp only[setObj,Sem.run,h]
def ie(r:Nat)(o o':Obj)(h:w.heap[r]?=a9 o) :
  ({w with heap:=w.heap.setIfInBounds r o'}:i6).heap[r]?=a9 o'/\({w with heap:=w.heap.setIfInBounds r o'}:i6).heap.size=w.heap.size /\
   ∀ b,b≠r->({w with heap:=w.heap.setIfInBounds r o'}:i6).heap[b]?=w.heap[b]?:=by
 have a:r<w.heap.size:=by
  rcases zC0 r w.heap.size with h1|h1
  .exact h1
  .simp[Array.getElem?_eq_none h1]at h
 refine⟨by simp[a],by simp,fun b c=>?_⟩;simp only[Array.getElem?_setIfInBounds];rw[if_neg (fun e=>c e.symm)]
def AZ{n:Nat}{o:Obj}(h:w.heap[n]?=a9 o)(a:∀ c e f,o≠.cells c e f):(getObj n).run P w=.ok o w:=by
 cases o<;>first
  |(exact absurd rfl (a _ _ _))
  |simp only[getObj,Sem.run,h]
def Iq(r:Rel P ρ H w){t:io}{x v:go}{H1:aa}(h:sU P H t x=a9 (v,H1)):lP P ρ H w (Instr.range t (ρ.val x)) v H1:=by
 unfold sU at h;split at h
 .rename_i s a;simp only[i8,i9]at h;obtain⟨rfl,rfl⟩:=h;refine⟨_,_,St.new r ⟨.stringIter s 0,ci,⟨[],0⟩⟩ (.stringIter s 0) 0 0 (by simp[l6]) (by simp[Fits]),?_⟩;simp only[Instr.range,Sem.run_bind,ay a,Result.andThen_ok,Ren.val,Sem.run_pure,run_newObj];simp[Ren.at]
 .cases h
def Mx(r:Rel P ρ H w){i v:go}{s:Bool}{ty:io}{H1:aa}(h:tH H i s=a9 (v,H1)):lP P ρ H w (Instr.next (ρ.val i) s ty) v H1:=by
 unfold tH at h;split at h
 .rename_i n;split at h
  .rename_i str a o p f;obtain⟨o',g,j⟩:=r.obj _ _ f;simp only[Fits]at j;obtain⟨rfl,b⟩:=j;have d:=AZ (P:=P) g (fun _ _ _=>by simp);split at h
   .rename_i c;simp only[i8,i9]at h;obtain⟨rfl,rfl⟩:=h;obtain⟨k,l,m⟩:=ie (w:=w) (ρ.blk n) _ (.stringIter str (a+(Utf8.decode str a).2)) g;refine⟨ρ,_,St.cH r (bJ f) (tF f rfl) (by simp[l6]) (by simp[Fits,b]) k l m rfl rfl rfl,?_⟩;have e:=jm (P:=P) (o':=.stringIter str (a+(Utf8.decode str a).2)) g (fun _ _ _=>by simp);simp only[Instr.next,Ren.val,b,zC2,Sem.run_bind,d,Result.andThen_ok,if_pos c,e,Sem.run_pure];simp[goInt,Ren.eV,Ren.iU,Ren.val]
   .rename_i c;simp only[i8,i9]at h;obtain⟨rfl,rfl⟩:=h;refine lP.same r ?_;simp only[Instr.next,Ren.val,b,zC2,Sem.run_bind,d,Result.andThen_ok,if_neg c,Sem.run_pure];simp[Ren.eV,Ren.iU,Ren.val]
  .cases h
 .cases h
def pL(ρ:Ren)(kd:TypeDesc)(k:go):∀(a:List MapEntry)(i:Nat),Instr.findNow kd k (a.map ρ.entry) i=(Instr.findNow kd k a i).map (fun o=>o.map fun p=>(p.1,ρ.val p.2)):=by
 intro a
 induction a with
 |nil=>intro i; simp[Instr.findNow]
 |cons e a c =>
  intro i;simp only[zB8,Instr.findNow];have:(ρ.entry e).key=e.key:=rfl;rw[this]
  cases Instr.sameNow kd k e.key with
  |none=>rfl
  |some b =>
   cases b with
   |true=>simp[Ren.entry]
   |false=>simp only[c]
def H8(kd:TypeDesc)(k:go):∀(a:List MapEntry)(i j:Nat)(v:go),Instr.findNow kd k a i=a9 (a9 (j,v))->∃ e,a[j-i]?=a9 e/\i<=j/\Instr.sameNow kd k e.key=a9 true:=by
 intro a
 induction a with
 |nil=>intro i j v h; simp[Instr.findNow]at h
 |cons e a b =>
  intro i j v h;simp only[Instr.findNow]at h;split at h
  .rename_i c;simp only[i8,i9]at h;obtain⟨rfl,rfl⟩:=h;exact⟨e,by simp,zA4 _,c⟩
  .obtain⟨x,d,g,f⟩:=b (i+1) j v h;refine⟨x,?_,by omega,f⟩;rw[show j-i=(j-(i+1))+1 from by omega];simpa using d
  .cases h
def Vw{a b:ByteArray}(h:(a == b)=bv):a=b:=by
 obtain⟨x⟩:=a;obtain⟨y⟩:=b;have e:x=y:=by simpa using (show (x == y)=bv from h)
 rw[e]
def NH{kd:TypeDesc}{k e:go}(h:Instr.sameNow kd k e=a9 bv):Instr.sameBits 10000 e k=true:=by
 unfold Instr.sameNow at h;split at h
 .rename_i a b c d;split at h
  .rename_i f;subst f;simp only[i8,beq_iff_eq]at h;subst h;simp[Instr.sameBits]
  .cases h
 .simp only[i8]at h;have:=Vw h;subst this;simpa[Instr.sameBits]using h
 .simp only[i8,beq_iff_eq]at h;subst h;simp[Instr.sameBits]
 .cases h
def uD(ρ:Ren){k:go}(h:qg k=bv):ρ.val k=k:=by cases k<;>simp[qg]at h<;>rw[Ren.val]
def run_checkKey{kd:TypeDesc}{t:io}{k:go}{b:Bool}(a:P.underlying t=a9 kd)(c:mQ kd=bv):(Instr.checkKey b 10000 t k).run P w=.ok () w:=by rw[show (10000:Nat)=9999+1 from rfl,Instr.checkKey];simp only[Sem.run_bind,ay a,Result.andThen_ok];cases kd<;>simp only[mQ,zD2]at c<;>simp
def run_findKey{kd:TypeDesc}{t:io}{k:go}{a:List MapEntry}{o:Option (Nat × go)}(b:P.underlying t=a9 kd)(h:Instr.findNow kd k a 0=a9 o):(Instr.findKey t k a).run P w=.ok o w:=by simp[Instr.findKey,Sem.run_bind,ay b,h]
def vS(r:Rel P ρ H w){n:Nat}{b:Array MapEntry}{a:Nat}{o:Bool}{v:RV}(e:H.get n=a9 ⟨.map b a,o,v⟩) :
  w.heap[ρ.blk n]?=a9 (.map (b.map ρ.entry) a)/\(getObj (ρ.blk n)).run P w=.ok (.map (b.map ρ.entry) a) w:=by
 obtain⟨o',c,d⟩:=r.obj _ _ e;simp only[Fits]at d;subst d;exact⟨c,AZ (P:=P) c (fun _ _ _=>by simp)⟩
def tT(c d:io)(a:go)(b:Bool)(e:Array MapEntry):Sem Value:=do
 Instr.checkKey e.isEmpty 10000 c a
 let (v,ok) <-match <-Instr.findKey c a e.toList with
  |some (_,v)=>pure (v,bv)
  |none=>pure (<-zeroValue d,ci)
 pure (if b then .tuple #[v,ls ok] else v)
def FD(r:Rel P ρ H w){t:io}{x k v:go}{ok:Bool}(h:mR P H t x k ok=a9 v):(Instr.lookup t (ρ.val x) (ρ.val k) ok).run P w=.ok (ρ.val v) w:=by
 unfold mR at h;split at h
 .rename_i d f m s;simp only[zA1,zA2]at h;obtain⟨q,b,kd,e,h⟩:=h;split at h
  .rename_i g;simp only[zA6]at g
   have u:(Instr.lookup t (ρ.val (.map m)) (ρ.val k) ok).run P w=(tT d f (ρ.val k) ok (q.map ρ.entry)).run P w:=by
    unfold Instr.lookup;simp only[Sem.run_bind,ay s,Result.andThen_ok]
    cases m with
    |none =>
     simp only[CF,i8]at b;subst b;simp only[Ren.val,Sem.run_bind,Sem.run_pure,Result.andThen_ok];have y:(#[]:Array MapEntry).map ρ.entry=#[]:=by simp
     rw[y];simp only[tT,Sem.run_bind];generalize Instr.checkKey _ 10000 d (ρ.val k)=c;rfl
    |some n =>
     simp only[CF]at b;split at b
     .rename_i A D o E B;simp only[i8]at b;subst b;simp only[Ren.val,Sem.run_bind,(vS r B).2,Result.andThen_ok,Sem.run_pure];simp only[tT,Sem.run_bind];generalize Instr.checkKey _ 10000 d (ρ.val k)=c;rfl
     .cases b
   have a:=pL ρ kd k q.toList 0;rw[u];unfold tT;simp only[Sem.run_bind,Result.andThen_ok,uD ρ g.1,run_checkKey e g.2,Array.toList_map];split at h
   .rename_i i F j;rw[j]at a;simp only[zB2]at a;simp only[run_findKey e a,Result.andThen_ok];simp only[i8]at h;subst h;cases ok<;>simp[Ren.val,Ren.eV,Ren.iU]
   .rename_i j;rw[j]at a;simp only[zB2,Option.map_none]at a;simp only[zB5]at h;obtain⟨z,C,rfl⟩:=h;obtain⟨l,p⟩:=ee (w:=w) C;simp only[run_findKey e a,Result.andThen_ok,Sem.run_bind,l,Sem.run_pure];cases ok<;>simp[Ren.val,Ren.eV,Ren.iU,dM ρ z p]
   .cases h
  .cases h
 .cases h
def qn(r:Rel P ρ H w){t:io}{x k v:go}{H1:aa}(h:b6 P H t x k v=a9 H1) :
  ∃ w1,St P ρ H w ρ H1 w1/\(Instr.mapUpdate t (ρ.val x) (ρ.val k) (ρ.val v)).run P w=.ok () w1:=by
 unfold b6 at h;split at h
 .rename_i key G n I;split at h
  .rename_i d a o M q;simp only[zA1,zA2]at h;obtain⟨kd,f,h⟩:=h;obtain⟨z,s⟩:=vS r q;have l:=(r.dom _ _ q).2;simp only[l6]at l;split at h
   .rename_i g;simp only[zA6]at g;have b:=pL ρ kd k d.toList 0;split at h
    .rename_i i J A;simp only[i8]at h;subst h;rw[A]at b;simp only[zB2]at b;obtain⟨e,K,_,m⟩:=H8 kd k d.toList 0 i J A;have B:d[i]?=a9 e:=by simpa using K
     have c:=jm (P:=P) (o':=.map ((d.map ρ.entry).modify i fun e=>{e with key:=k,val:=ρ.val v}) a) z (fun _ _ _=>by simp);obtain⟨C,D,E⟩:=ie (w:=w) (ρ.blk n) _ (.map ((d.map ρ.entry).modify i fun e=>{e with key:=k,val:=ρ.val v}) a) z;refine⟨_,St.cH r (bJ q) (tF q rfl) ?_ ?_ C D E rfl rfl rfl,?_⟩
     .simp only[l6];intro F p;obtain⟨j,u⟩:=Array.getElem?_of_mem p;rw[Array.getElem?_modify]at u;split at u
      .simp only[zB5]at u;obtain⟨N,_,rfl⟩:=u;exact⟨g.1.1,g.2⟩
      .exact l F (Array.mem_of_getElem? u)
     .simp only[Fits];congr 1;apply Array.ext_getElem?;intro j;simp only[Array.getElem?_map,Array.getElem?_modify];split
      .cases d[j]?<;>simp[Ren.entry]
      .rfl
     .unfold Instr.mapUpdate;simp only[Sem.run_bind,ay I,Result.andThen_ok,Ren.val,s,uD ρ g.1.1,run_checkKey f g.1.2,Array.toList_map,run_findKey f b];have y:(((d.map ρ.entry)[i]?.map (·.key)).getD k)=e.key:=by rw[Array.getElem?_map,B]; rfl
      simp only[y,Instr.keyThatStays,NH m,if_true,Sem.run_pure,Result.andThen_ok,c]
    .rename_i A;simp only[i8]at h;subst h;rw[A]at b;simp only[zB2,Option.map_none]at b;have c:=jm (P:=P) (o':=.map ((d.map ρ.entry).push {key:=k,val:=ρ.val v,born:=a}) (a+1)) z (fun _ _ _=>by simp);obtain⟨C,D,E⟩:=ie (w:=w) (ρ.blk n) _ (.map ((d.map ρ.entry).push {key:=k,val:=ρ.val v,born:=a}) (a+1)) z;refine⟨_,St.cH r (bJ q) (tF q rfl) ?_ ?_ C D E rfl rfl rfl,?_⟩
     .simp only[l6];intro F p;rcases Array.mem_push.1 p with L|rfl
      .exact l F L
      .exact⟨g.1.1,g.2⟩
     .simp[Fits,Ren.entry]
     .unfold Instr.mapUpdate;simp only[Sem.run_bind,ay I,Result.andThen_ok,Ren.val,s,uD ρ g.1.1,run_checkKey f g.1.2,Array.toList_map,run_findKey f b,c]
    .cases h
   .cases h
  .cases h
 .cases h
def zf(r:Rel P ρ H w):lP P ρ H w (do pure (.map (a9 (<-newObj (.map #[] 0))))) (.map (a9 H.next)) (H.new ⟨.map #[] 0,ci,⟨[],0⟩⟩):=by refine⟨_,_,St.new r ⟨.map #[] 0,ci,⟨[],0⟩⟩ (.map #[] 0) 0 0 (by simp[l6]) (by simp[Fits]),?_⟩;simp only[Sem.run_bind,run_newObj,Result.andThen_ok,Sem.run_pure];simp[Ren.at,Ren.val]
def Dn{α β:Type}(f:α->β):∀(l:List α)(i:Nat),(l.map f).eraseIdx i=(l.eraseIdx i).map f
 |[],_=>by simp
 |_::_,0=>by simp
 |_::l,i+1=>by simp[Dn f l i]
def FN(r:Rel P ρ H w){ts:Array io}{ty t:io}{rest:List io}(j:ts.toList=t::rest){m k v:go}{H1:aa}(h:yB P H t m k=a9 (v,H1)) :
  lP P ρ H w (Builtin.delete_ ts ty ([m,k].map ρ.val).toArray) v H1:=by
 obtain⟨l⟩:=ts;simp only at j;subst j;unfold yB at h;split at h
 .rename_i D B n C;split at h
  .rename_i p b o F g;simp only[zA1,zA2]at h;obtain⟨kd,d,h⟩:=h;obtain⟨u,q⟩:=vS r g;have f:=(r.dom _ _ g).2;simp only[l6]at f;split at h
   .rename_i s;simp only[zA6]at s;have a:=pL ρ kd k p.toList 0;split at h
    .rename_i i G x;simp only[i8,i9]at h;obtain⟨rfl,rfl⟩:=h;rw[x]at a;simp only[zB2]at a;have c:=jm (P:=P) (o':=.map ((p.map ρ.entry).eraseIdxIfInBounds i) b) u (fun _ _ _=>by simp);obtain⟨y,z,A⟩:=ie (w:=w) (ρ.blk n) _ (.map ((p.map ρ.entry).eraseIdxIfInBounds i) b) u;refine⟨ρ,_,St.cH r (bJ g) (tF g rfl) ?_ ?_ y z A rfl rfl rfl,?_⟩
     .simp only[l6];intro E e;refine f E ?_;unfold Array.eraseIdxIfInBounds at e;split at e
      .exact Array.mem_of_mem_eraseIdx e
      .exact e
     .simp only[Fits];congr 1;apply Array.ext';simp[Dn]
     .unfold Builtin.delete_;simp only[zB8,zE7,List.getElem?_toArray,zG1,zH8,Sem.run_bind,ay C,Result.andThen_ok,Ren.val,q,uD ρ s.1,run_checkKey d s.2,Array.toList_map,run_findKey d a,c,Sem.run_pure];simp[Ren.eV,Ren.iU]
    .rename_i x;simp only[i8,i9]at h;obtain⟨rfl,rfl⟩:=h;rw[x]at a;simp only[zB2,Option.map_none]at a;have c:=jm (P:=P) (o':=.map (p.map ρ.entry) b) u (fun _ _ _=>by simp);obtain⟨y,z,A⟩:=ie (w:=w) (ρ.blk n) _ (.map (p.map ρ.entry) b) u;refine⟨ρ,_,St.cH r (bJ g) (tF g rfl) ?_ ?_ y z A rfl rfl rfl,?_⟩
     .simp only[l6];exact f
     .simp[Fits]
     .unfold Builtin.delete_;simp only[zB8,zE7,List.getElem?_toArray,zG1,zH8,Sem.run_bind,ay C,Result.andThen_ok,Ren.val,q,uD ρ s.1,run_checkKey d s.2,Array.toList_map,run_findKey d a,c,Sem.run_pure];simp[Ren.eV,Ren.iU]
    .cases h
   .cases h
  .cases h
 .cases h
def Jr(r:Rel P ρ H w){ts:Array io}{ty t:io}{rest:List io}(d:ts.toList=t::rest){x v:go}{H1:aa}(h:Ec P H t x=a9 (v,H1)) :
  lP P ρ H w (Builtin.clear_ ts ty ([x].map ρ.val).toArray) v H1:=by
 obtain⟨l⟩:=ts;simp only at d;subst d;unfold Ec at h;split at h
 .rename_i e n c f;simp only[i8,i9]at h;obtain⟨rfl,rfl⟩:=h;refine lP.same r ?_;simp[Builtin.clear_,Ren.val,ay f,Ren.eV,Ren.iU]
 .rename_i e a n c f;split at h
  .simp only[i8,i9]at h;obtain⟨rfl,rfl⟩:=h;refine lP.same r ?_;simp[Builtin.clear_,Ren.val,ay f,Ren.eV,Ren.iU]
  .rename_i n;simp only[zA1,zA2,i8,i9]at h;obtain⟨z,p,g,q,rfl,rfl⟩:=h;obtain⟨w1,i,b⟩:=pr r q;obtain⟨j,k⟩:=ee (w:=w) p;refine⟨ρ,w1,i,?_⟩;have m:Builtin.zeroCells z.cells (n+1)=(bf z.cells.toList (n+1)).toArray:=by unfold Builtin.zeroCells;exact kD _ _
   have o:(bf z.cells.toList (n+1)).map ρ.val=bf z.cells.toList (n+1):=oC ρ _ (tm ρ k) _;rw[o]at b;unfold Builtin.clear_;simp only[zB8,zE7,List.getElem?_toArray,zG1,Sem.run_bind,ay f,Result.andThen_ok,Ren.val,Ren.oP (ρ:=ρ) (a:=a) (len:=n+1) (cap:=c) (.inr (Nat.succ_ne_zero n)),Ren.qb (ρ:=ρ) (a:=a) (len:=n+1) (cap:=c) (.inr (Nat.succ_ne_zero n)),j,m,b,Sem.run_pure];simp[Ren.eV,Ren.iU]
 .cases h
def Du(r:Rel P ρ H w){b:Builtin}{ts:Array io}{ty:io}{cs:Array Bool}{args:List go}{v:go}{H1:aa}(h:aE P H b ts args=a9 (v,H1)) :
  lC P ρ H w (builtin b ts ty cs (args.map ρ.val).toArray) (.value v) H1:=by
 unfold aE at h;split at h
 .simp only[zB5,i9]at h;obtain⟨d,c,rfl,rfl⟩:=h;exact lC.val r (AN c)
 .exact lC.N5 (Bo r h)
 .exact lC.N5 (Hh r h)
 .exact lC.N5 (NG r h)
 .split at h
  .rename_i t rest a;simp only[zB5,i9]at h;obtain⟨d,c,rfl,rfl⟩:=h;exact lC.val r (Re r a c)
  .cases h
 .split at h
  .rename_i t rest a;simp only[zB5,i9]at h;obtain⟨d,c,rfl,rfl⟩:=h;exact lC.val r (QX r a c)
  .cases h
 .split at h
  .rename_i t rest a;exact lC.N5 (FN r a h)
  .cases h
 .split at h
  .rename_i t rest a;exact lC.N5 (Jr r a h)
  .cases h
 .simp only[zB5,i9]at h;obtain⟨d,c,rfl,rfl⟩:=h;exact lC.val r (Oe c)
 .simp only[zB5,i9]at h;obtain⟨d,c,rfl,rfl⟩:=h;exact lC.val r (Q4 c)
 .cases h
end
section
variable{P:ip}{ρ:Ren}{H:aa}{w:i6}
def xI{f:FuncId}{args:Array go}(h:aD P f=bv):(callFunc f args).run P w=.ok (.enter f args) w:=by
 unfold aD at h;split at h
 .rename_i fn a;simp only[zA6]at h;have b:(fn.name == "runtime.NumGoroutine")=false:=by have:=zC3.1 h.2 fn (Array.mem_toList_iff.2 (Array.mem_of_getElem? a));simpa using this
  have d:fn.body.isNone=false:=by
   cases e:fn.body with
   |none=>simp[e]at h
   |some c=>rfl
  simp only[callFunc,Sem.run_bind,run_program,Result.andThen_ok,a,b,zD2,if_false,d,Sem.run_pure]
 .cases h
def s9(r:Rel P ρ H w){f:FuncId}{args:List go}{x:de}(h:jh P f args=a9 x):lC P ρ H w (callFunc f (args.map ρ.val).toArray) x H:=by
 unfold jh at h;split at h
 .rename_i a;simp only[i8]at h;subst h;exact⟨ρ,w,St.refl r,xI a⟩
 .cases h
def AQ(ρ:Ren):∀(ts:List Tmp)(vs:List go)(e:RV),((ts.zip (vs.map ρ.val)).foldl (fun tmps (p:Tmp × go)=>tmps.setIfInBounds p.1 p.2) (ρ.tmps e))=ρ.tmps (kT ts vs e)
 |[],vs,e=>by simp[kT]
 |t::ts,[],e=>by simp[kT]
 |t::ts,v::vs,e=>by simp only[zB8,List.zip_cons_cons,List.foldl_cons,kT,GU];exact AQ ρ ts vs _
def pM(r:Rel P ρ H w){l:Nat}{a:Loop}{o:Bool}{e:RV}(h:H.get l=a9 ⟨.loop a,o,e⟩) :
  ∃ fn,w.heap[ρ.blk l]?=a9 (.loop {a with fn:=fn,tmps:=ρ.tmps e,defers:=ρ.blk a.defers}) /\
   (Instr.getLoop (ρ.blk l)).run P w=.ok {a with fn:=fn,tmps:=ρ.tmps e,defers:=ρ.blk a.defers} w:=by
 obtain⟨o',b,c⟩:=r.obj _ _ h;simp only[Fits]at c;obtain⟨fn,rfl⟩:=c;refine⟨fn,b,?_⟩;simp[Instr.getLoop,getObj,Sem.run,b]
def IV(r:Rel P ρ H w){l:Nat}{args:List go}{x:de}(h:wC H l args=a9 x):lC P ρ H w (Instr.yield (ρ.blk l) (args.map ρ.val).toArray) x H:=by
 unfold wC at h;split at h
 .rename_i d o e f;split at h
  .rename_i a;simp only[i8]at h;subst h;obtain⟨fn,i,b⟩:=pM r f;refine⟨ρ,w,St.refl r,fn,?_⟩;have g:=AQ ρ d.params.toList args e;have c:(args.map ρ.val).toArray.size=d.params.size:=by simpa using a
   simp only[Instr.yield,Sem.run_bind,b,Result.andThen_ok,c,ne_eq,not_true,if_false,Sem.run_pure];congr 2;rw[<-g,<-Array.foldl_toList];simp
  .cases h
 .cases h
def Cg(r:Rel P ρ H w){t:io}{v x:go}{g:Bool}(h:zH P H t v g=a9 x)(c:Option String) :
  (receiverAt t (.val (ρ.val v)) g c).run P w=.ok (ρ.val x) w:=by
 unfold zH at h;split at h
 .rename_i e f;simp only[i8]at h;subst h;simp[receiverAt,ay f,Place.get]
 .rename_i e a f;obtain⟨n,off,j⟩:=wx h;simp only[Value.pointer.injEq,i8]at j;subst j;have k:=vT r h
  cases c with
  |none=>simp[receiverAt,ay f,Place.get,qU,asAddr,k]
  |some s =>have l:∀ b:Addr,(Builtin.ssaWrapNilChk_ #[t] t #[li (a9 b),strVal "", strVal s]).run P w=.ok (li (a9 b)) w:=fun _=>rfl;simp[receiverAt,ay f,Place.get,qU,asAddr,k,l]
 .cases h
 .rename_i d i f cn;simp only[i8]at h;subst h
  cases d<;>first
   |(exact absurd rfl (i _))
   |simp[receiverAt,ay f,Place.get]
 .cases h
def yM(t:io)(x:Place):(follow [] t x).run P w=.ok (t,x) w:=by simp[follow]
def Fo(r:Rel P ρ H w){t:io}{name:String}{f:FuncId}{a:Bool}{v x:go}(h:DQ P t name=a9 (f,a))(hx:zH P H t v a=a9 x) :
  (method (P.types.size+Made.depth) t (ρ.val v) name).run P w=.ok (f,ρ.val x) w:=by
 obtain⟨k,c⟩:∃ k,P.types.size+Made.depth=k+1:=⟨P.types.size+(Made.depth-1),by
  have:0<Made.depth:=by decide
  omega⟩
 rw[c];unfold DQ at h;split at h
 .rename_i i hi;split at h
  .rename_i m d;split at h
   .rename_i e;have b:m.path.toList=[]:=by simpa using e
    simp only[method,Sem.run_bind,kF hi,Result.andThen_ok,d,b,yM,h,Cg r hx,Sem.run_pure]
   .cases h
  .cases h
 .cases h
def nf(r:Rel P ρ H w){fn:Fn}{args a:List go}{x:de}(h:fe P H fn args a=a9 x) :
  lC P ρ H w (invoke (.fn (ρ.fn fn) (a.map ρ.val).toArray) (args.map ρ.val).toArray) x H:=by
 unfold fe at h;split at h
 .rename_i f args;have:=s9 r h;simpa[invoke,Ren.fn]using this
 .rename_i l args;have:=IV r h;simpa[invoke,Ren.fn]using this
 .rename_i name t v rest;simp only[zA1,zA2]at h;obtain⟨⟨f,e⟩,hm,y,g,h⟩:=h;obtain⟨b,w1,c,i⟩:=s9 r h;refine⟨b,w1,c,?_⟩;have j:=Fo r hm g;have k:((Value.iface t v::rest).map ρ.val).toArray[0]?=a9 (.iface t (ρ.val v)):=by simp[Ren.val]
  have m:((Value.iface t v::rest).map ρ.val).toArray.extract 1 ((Value.iface t v::rest).map ρ.val).toArray.size=(rest.map ρ.val).toArray:=by apply Array.ext';simp;exact zD4 nl
  have n:#[ρ.val y]++(rest.map ρ.val).toArray=((y::rest).map ρ.val).toArray:=by apply Array.ext';simp
  simp only[invoke,Ren.fn,k,m,callMethod,Sem.run_bind,run_program,Result.andThen_ok,j,n];exact i
 .rename_i t d f e v rest;split at h
  .rename_i p;have o:d.toList=[]:=by simpa using p
   simp only[zA1,zA2]at h;obtain⟨y,g,h⟩:=h;obtain⟨b,w1,c,i⟩:=s9 r h;refine⟨b,w1,c,?_⟩;have k:((v::rest).map ρ.val).toArray[0]?=a9 (ρ.val v):=by simp
   have m:((v::rest).map ρ.val).toArray.extract 1 ((v::rest).map ρ.val).toArray.size=(rest.map ρ.val).toArray:=by apply Array.ext';simp;exact zD4 nl
   have n:#[ρ.val y]++(rest.map ρ.val).toArray=((y::rest).map ρ.val).toArray:=by apply Array.ext';simp
   simp only[invoke,Ren.fn,k,m,receiverVia,o,Sem.run_bind,yM,Result.andThen_ok,Cg r g,n];exact i
  .cases h
 .cases h
def Mq(r:Rel P ρ H w){f:go}{args:List go}{x:de}{H1:aa}(h:pA P H f args=a9 (x,H1)) :
  lC P ρ H w (do let d <-Deferred.ofValue (ρ.val f) (args.map ρ.val).toArray; invoke d.target d.args) x H1:=by
 unfold pA at h;split at h
 .rename_i fn first a
  simp only[zB5,i9]at h;obtain⟨y,e,rfl,rfl⟩:=h;obtain⟨b,w1,c,g⟩:=nf r e;refine⟨b,w1,c,?_⟩;have i:ρ.val (.func fn first a)=.func (ρ.fn fn) (first.map ρ.val) (a.map ρ.val):=by rw[Ren.val,Ren.ed,Ren.ed]
  have j:first.map ρ.val++(args.map ρ.val).toArray=((first.toList++args).map ρ.val).toArray:=by apply Array.ext'; simp
  have k:a.map ρ.val=(a.toList.map ρ.val).toArray:=by apply Array.ext'; simp
  rw[i];simp only[Deferred.ofValue,Sem.run_bind,Sem.run_pure,Result.andThen_ok,j,k];exact g
 .cases h
def G9(r:Rel P ρ H w){f:go}{args:List go}{x:de}{H1:aa}(h:yq P H f args=a9 (x,H1)) :
  lC P ρ H w (do let d <-Deferred.ofValue (ρ.val f) (args.map ρ.val).toArray; invoke d.target d.args) x H1:=by
 have a:∀ {g:FuncId},oF P H g args=a9 (x,H1)->lC P ρ H w (do let d <-Deferred.ofValue (ρ.val (.func (.func g) #[] #[])) (args.map ρ.val).toArray; invoke d.target d.args) x H1:=by
  intro g j;have:=FC r j;have b:ρ.val (.func (.func g) #[] #[])=.func (.func g) #[] #[]:=by simp[Ren.val,Ren.fn,Ren.eV,Ren.iU]
  rw[b];obtain⟨c,w1,e,k⟩:=this;refine⟨c,w1,e,?_⟩;simp only[Deferred.ofValue,Sem.run_bind,Sem.run_pure,Result.andThen_ok,invoke];simpa using k
 unfold yq at h;split at h
 .rename_i g;split at h
  .rename_i l;split at h
   .rename_i v m;split at h
    .rename_i i;simp only[i8,i9]at h;obtain⟨rfl,rfl⟩:=h;refine⟨ρ,w,St.refl r,?_⟩;have b:(args.map ρ.val)=args:=by rw[<-Ren.oN]; exact Et ρ args l
     rw[b];have n:=vP _ m w;simp only[iO,Ren.val,Ren.fn,Ren.eV,Ren.iU,Deferred.ofValue,Sem.run_bind,Sem.run_pure,Result.andThen_ok,invoke,dM ρ v i];simpa using n
    .cases h
   .exact a h
  .exact a h
 .cases h
def N9(r:Rel P ρ H w){a:ah}{c:Call}{ty:io}{x:de}{H1:aa}(h:kH c P a H=a9 (x,H1)) :
  lC P ρ H w (do let d <-resolve (ρ.act a).eval c ty; invoke d.target d.args) x H1:=by
 simp only[kH,zA1,zA2]at h;obtain⟨args,e,h⟩:=h;have l:c.args.map (ρ.act a).eval=(args.map ρ.val).toArray:=by apply Array.ext';rw[Array.toList_map];exact mw r e
 split at h
 .rename_i b k;simp only[uY,zB5,i9]at h;obtain⟨⟨v,u⟩,hv,rfl,rfl⟩:=h;obtain⟨g,w1,i,m⟩:=Du (ty:=ty) (cs:=c.args.map fun|.const _=>bv|_=>ci) r hv;refine⟨g,w1,i,?_⟩;simp only[resolve,k,Sem.run_bind,Sem.run_pure,Result.andThen_ok,invoke,l];exact m
 .rename_i q name k;simp only[zA2,zB5,i9]at h;obtain⟨rv,n,y,o,rfl,rfl⟩:=h;obtain⟨g,w1,i,m⟩:=nf r o;refine⟨g,w1,i,?_⟩;have s:#[ρ.val rv]++(args.map ρ.val).toArray=((rv::args).map ρ.val).toArray:=by apply Array.ext'; simp
  simp only[resolve,k,Sem.run_bind,Sem.run_pure,Result.andThen_ok,l,aL r n,s];simpa[Ren.fn]using m
 .rename_i f k;simp only[zA2]at h;obtain⟨t,p,h⟩:=h
  have j:lC P ρ H w (do let d <-Deferred.ofValue (ρ.val t) (args.map ρ.val).toArray; invoke d.target d.args) x H1:=by
   split at h
   .rename_i y o;simp only[i8]at h;subst h;exact Mq r o
   .exact G9 r h
  simp only[resolve,k,l,aL r p];exact j
def QK{s:Sem Unit}{w1:i6}(h:s.run P w=.ok () w1):(do s; pure Next.skip:Sem Next).run P w=.ok .skip w1:=by simp[h]
def Pk(r:Rel P ρ H w){v:go}{x:de}{H1:aa}(h:By P H v=a9 (x,H1)){o:Oper}{y:i7}{e:i7->go}(g:e y=ρ.val v)(i:o.op=.nilCheck y) :
  lC P ρ H w (execOp e o) x H1:=by
 have c:∀(α:Type),(runtimePanic .nilDeref:Sem α).run P w=.halt (.panic (kC P)) w:=fun α=>rfl;have d:ρ.val (kC P)=kC P:=dM ρ _ rfl;unfold By at h;split at h
 .simp only[i8,i9]at h;obtain⟨rfl,rfl⟩:=h;refine⟨ρ,w,St.refl r,?_⟩;simp only[iO,execOp,i,g,Ren.val,d];exact c _
 .simp only[i8,i9]at h;obtain⟨rfl,rfl⟩:=h;refine⟨ρ,w,St.refl r,?_⟩;simp only[iO,execOp,i,g,Ren.val,d];exact c _
 .simp only[i8,i9]at h;obtain⟨rfl,rfl⟩:=h;refine⟨ρ,w,St.refl r,?_⟩;simp only[iO,execOp,i,g,Ren.val,d];exact c _
 .cases h
 .cases h
 .rename_i j k l m p;simp only[i8,i9]at h;obtain⟨rfl,rfl⟩:=h;refine⟨ρ,w,St.refl r,?_⟩;simp only[iO,execOp,i,g]
  cases v with
  |pointer a=>cases a with
   |none=>exact absurd rfl j
   |some a=>simp[Ren.val]
  |nilIface=>exact absurd rfl k
  |nilFunc=>exact absurd rfl l
  |func f a b =>
   cases f with
   |method n=>exact absurd rfl (m _ _ _)
   |_=>simp[Ren.val,Ren.fn]
  |slice a _ _=>cases a<;>simp[Ren.val]
  |map a=>cases a<;>simp[Ren.val]
  |chan a=>exact absurd rfl (p a)
  |_=>simp[Ren.val]
def uv(r:Rel P ρ H w){a:ah}{o:Oper}{x:de}{H1:aa}(h:cE o.op P a H=a9 (x,H1)):lC P ρ H w (execOp (ρ.act a).eval o) x H1/\∀ c,o.op≠.defer c:=by
 obtain⟨dst,I,ty,U,after,guard⟩:=o;simp only at h
 cases I with
 |move y =>simp only[cE,rI,rv,zB5,i9]at h;obtain⟨v,j,rfl,rfl⟩:=h;exact⟨⟨ρ,w,St.refl r,by simp[iO,execOp,aL r j]⟩,fun c=>by simp⟩
 |assign y =>simp only[cE,rI,rv,zB5,i9]at h;obtain⟨v,j,rfl,rfl⟩:=h;exact⟨⟨ρ,w,St.refl r,by simp[iO,execOp,aL r j]⟩,fun c=>by simp⟩
 |pick c y z =>
  simp only[cE,BI,zA1,zA2]at h;obtain⟨b,S,h⟩:=h;split at h
  .simp only[rv,zB5,i9]at h;obtain⟨v,j,rfl,rfl⟩:=h;exact⟨⟨ρ,w,St.refl r,by simp[iO,execOp,aL r j,aL r S,Ren.val,asBool]⟩,fun c=>by simp⟩
  .simp only[rv,zB5,i9]at h;obtain⟨v,j,rfl,rfl⟩:=h;exact⟨⟨ρ,w,St.refl r,by simp[iO,execOp,aL r j,aL r S,Ren.val,asBool]⟩,fun c=>by simp⟩
  .cases h
 |alloc t =>simp only[cE,zo,AE,zA1,zA2,i8,i9]at h;obtain⟨z,J,g,E,rfl,rfl⟩:=h;obtain⟨K,L⟩:=ee (w:=w) J;refine⟨⟨_,_,qR r E,?_⟩,fun c=>by simp⟩;simp only[iO,execOp,Instr.alloc,Sem.run_bind,K,Result.andThen_ok,newVar,newRow,run_newObj,Sem.run_pure,L9,tm ρ L];rfl
 |box t y =>
  simp only[cE,vN,AE,zA1,zA2,i8,i9]at h;obtain⟨z,J,g,E,rfl,rfl⟩:=h;refine⟨⟨_,_,qR r E,?_⟩,fun c=>by simp⟩;have M:(ρ.val z).cells=(z.cells.toList.map ρ.val).toArray:=by rw[Ren.ot]; apply Array.ext'; simp
  simp only[iO,execOp,Instr.box,Sem.run_bind,aL r J,Result.andThen_ok,newVar,newRow,run_newObj,Sem.run_pure,L9,M];rfl
 |build t ps =>
  simp only[cE,vj,rv,zA1,zA2,zB5,i9]at h;obtain⟨vs,C,v,j,rfl,rfl⟩:=h;have e:(ps.map fun (p:Nat × i7)=>(p.1,(ρ.act a).eval p.2))=(vs.map fun p=>(p.1,ρ.val p.2)).toArray:=by apply Array.ext';rw[Array.toList_map];exact vB r C
  refine⟨?_,fun c=>by simp⟩;simp only[execOp,e];exact lC.val r (Ix j)
 |buildSlice t n ps =>
  simp only[cE,jz,uY,zA1,zA2,zB5,i9]at h;obtain⟨vs,C,⟨v,D⟩,j,rfl,rfl⟩:=h;have e:(ps.map fun (p:Nat × i7)=>(p.1,(ρ.act a).eval p.2))=(vs.map fun p=>(p.1,ρ.val p.2)).toArray:=by apply Array.ext';rw[Array.toList_map];exact vB r C
  refine⟨?_,fun c=>by simp⟩;simp only[execOp,e];exact lC.N5 (ye r j)
 |load t y =>simp only[cE,HS,rv,zA1,zA2,zB5,i9]at h;obtain⟨p,e,v,j,rfl,rfl⟩:=h;refine⟨?_,fun c=>by simp⟩;simp only[execOp,aL r e];exact lC.val r (N6 r j)
 |store t y z =>simp only[cE,wz,Ob,zA1,zA2,zB5,i9]at h;obtain⟨p,e,q,u,g,E,rfl,rfl⟩:=h;obtain⟨w1,A,F⟩:=Jm r E;refine⟨⟨ρ,w1,A,?_⟩,fun c=>by simp⟩;simp only[iO,execOp,aL r e,aL r u];exact QK F
 |nilCheck y =>simp only[cE,MN,zA1,zA2]at h;obtain⟨v,j,h⟩:=h;exact⟨Pk r h (aL r j) rfl,fun c=>by simp⟩
 |binOp I t y z Y =>simp only[cE,Hp,zA1,zA2]at h;obtain⟨p,e,q,u,h⟩:=h;refine⟨?_,fun c=>by simp⟩;simp only[execOp,aL r e,aL r u];exact lC.of (Qm r h)
 |unOp I t y =>simp only[cE,U8,zA1,zA2]at h;obtain⟨p,e,h⟩:=h;refine⟨?_,fun c=>by simp⟩;simp only[execOp,aL r e];exact lC.of (SR r h)
 |makeInterface t y =>
  simp only[cE,A1,zA1,zA2]at h;obtain⟨p,e,h⟩:=h;unfold vu at h;split at h
  .cases h
  .rename_i d cn N;simp only[i8,i9]at h;obtain⟨rfl,rfl⟩:=h;refine⟨?_,fun c=>by simp⟩;simp only[execOp,aL r e];refine lC.val r ?_
   cases d<;>first
    |(exact absurd rfl (cn _))
    |simp[Instr.makeInterface,ay N,Ren.val]
  .cases h
 |makeFunc fn first B =>
  simp only[cE,Ht,zA1,zA2]at h;obtain⟨p,e,q,u,h⟩:=h;have V:first.map (ρ.act a).eval=(p.map ρ.val).toArray:=by apply Array.ext'; rw[Array.toList_map]; exact mw r e
  have W:B.map (ρ.act a).eval=(q.map ρ.val).toArray:=by apply Array.ext'; rw[Array.toList_map]; exact mw r u
  refine⟨?_,fun c=>by simp⟩;unfold Ck at h;split at h
  .cases h
  .rename_i cn;simp only[i8,i9]at h;obtain⟨rfl,rfl⟩:=h;simp only[execOp,V,W];refine lC.val r ?_
   cases fn<;>first
    |(exact absurd rfl (cn _))
    |simp[Instr.makeFunc,Ren.val,Ren.fn,Ren.eV,Ren.oN]
 |makeSlice t l c =>simp only[cE,me,uY,zA1,zA2,zB5,i9]at h;obtain⟨p,e,q,u,⟨v,D⟩,j,rfl,rfl⟩:=h;refine⟨?_,fun c=>by simp⟩;simp only[execOp,aL r e,aL r u];exact lC.N5 (z8 r j)
 |slice t y lo hi Z =>simp only[cE,Ar,uY,zA1,zA2,zB5,i9]at h;obtain⟨p,e,l,hl,hh,hhh,m,M,⟨v,D⟩,j,rfl,rfl⟩:=h;refine⟨?_,fun c=>by simp⟩;simp only[execOp,aL r e,qD r hl,qD r hhh,qD r M];exact lC.N5 (IZ r j)
 |fieldAddr t y f =>simp only[cE,j5,rv,zA1,zA2,zB5,i9]at h;obtain⟨p,e,v,j,rfl,rfl⟩:=h;refine⟨?_,fun c=>by simp⟩;simp only[execOp,aL r e];exact lC.val r (A6 j)
 |field t y f =>simp only[cE,Dx,rv,zA1,zA2,zB5,i9]at h;obtain⟨p,e,v,j,rfl,rfl⟩:=h;refine⟨?_,fun c=>by simp⟩;simp only[execOp,aL r e];exact lC.val r (IK j)
 |indexAddr t y i =>simp only[cE,j9,rv,zA1,zA2,zB5,i9]at h;obtain⟨p,e,q,u,v,j,rfl,rfl⟩:=h;refine⟨?_,fun c=>by simp⟩;simp only[execOp,aL r e,aL r u];exact lC.val r (AD j)
 |index t y i =>simp only[cE,EY,zA1,zA2]at h;obtain⟨p,e,q,u,h⟩:=h;refine⟨?_,fun c=>by simp⟩;simp only[execOp,aL r e,aL r u];exact lC.of (Ii r h)
 |typeAssert y xt t ok =>simp only[cE,na,rv,zA1,zA2,zB5,i9]at h;obtain⟨p,e,v,j,rfl,rfl⟩:=h;refine⟨?_,fun c=>by simp⟩;simp only[execOp,aL r e];exact lC.val r (yh j)
 |extract y i =>
  simp only[cE,nO,zA1,zA2]at h;obtain⟨p,e,h⟩:=h;unfold mf at h;split at h
  .rename_i vs;simp only[rv,zB5,i9]at h;obtain⟨v,j,rfl,rfl⟩:=h;refine⟨?_,fun c=>by simp⟩;simp only[execOp,aL r e];refine lC.val r ?_;have O:vs[i]?=a9 v:=by simpa using j
   simp[Ren.val,Ren.ed,Instr.extract,O]
  .cases h
 |call c =>simp only[cE]at h;exact⟨by simp only[execOp]; exact N9 r h,fun c=>by simp⟩
 |panic y =>
  simp only[cE,EW,zA1,zA2]at h;obtain⟨p,e,h⟩:=h;unfold Ek at h;split at h
  .simp only[i8,i9]at h;obtain⟨rfl,rfl⟩:=h;refine⟨⟨ρ,w,St.refl r,?_⟩,fun c=>by simp⟩;simp[iO,execOp,aL r e,Ren.val,Instr.panic]
  .cases h
 |convert s d y =>simp only[cE,tJ,uY,zA1,zA2,zB5,i9]at h;obtain⟨p,e,⟨v,D⟩,j,rfl,rfl⟩:=h;refine⟨?_,fun c=>by simp⟩;simp only[execOp,aL r e];exact lC.N5 (DX r j)
 |makeMap t m =>
  refine⟨?_,fun c=>by simp⟩;simp only[cE,uV]at h
  cases m with
  |none =>simp only[sF,i8,i9]at h;obtain⟨rfl,rfl⟩:=h;exact lC.N5 (zf r)
  |some y =>
   simp only[zA1,zA2]at h;obtain⟨d,N,h⟩:=h;split at h
   .rename_i X T;simp only[zA2]at h;obtain⟨q,u,h⟩:=h;split at h
    .rename_i n;simp only[sF,i8,i9]at h;obtain⟨rfl,rfl⟩:=h;obtain⟨Q,w1,A,G⟩:=zf r;refine lC.N5 ⟨Q,w1,A,?_⟩;rw[<-G];simp[Instr.makeMap,aL r u,ay N,Ren.val,asInt,asIntOf]
    .cases h
   .cases h
 |lookup t y k ok =>simp only[cE,yx,rv,zA1,zA2,zB5,i9]at h;obtain⟨p,e,q,u,v,j,rfl,rfl⟩:=h;refine⟨?_,fun c=>by simp⟩;simp only[execOp,aL r e,aL r u];exact lC.val r (FD r j)
 |mapUpdate t m k y =>simp only[cE,jn,Ob,zA1,zA2,zB5,i9]at h;obtain⟨p,e,q,u,s,R,D,j,rfl,rfl⟩:=h;refine⟨?_,fun c=>by simp⟩;obtain⟨w1,A,G⟩:=qn r j;exact⟨ρ,w1,A,by simp[iO,execOp,aL r e,aL r u,aL r R,G]⟩
 |insert t m k y =>simp only[cE,jn,Ob,zA1,zA2,zB5,i9]at h;obtain⟨p,e,q,u,s,R,D,j,rfl,rfl⟩:=h;refine⟨?_,fun c=>by simp⟩;obtain⟨w1,A,G⟩:=qn r j;exact⟨ρ,w1,A,by simp[iO,execOp,aL r e,aL r u,aL r R,G]⟩
 |range t y =>simp only[cE,Eb,uY,zA1,zA2,zB5,i9]at h;obtain⟨p,e,⟨v,D⟩,j,rfl,rfl⟩:=h;refine⟨?_,fun c=>by simp⟩;simp only[execOp,aL r e];exact lC.N5 (Iq r j)
 |next y s =>simp only[cE,KD,uY,zA1,zA2,zB5,i9]at h;obtain⟨p,e,⟨v,D⟩,j,rfl,rfl⟩:=h;refine⟨?_,fun c=>by simp⟩;simp only[execOp,aL r e];exact lC.N5 (Mx r j)
 |_=>simp[cE,FL]at h
end
def TY(N:Nat)(d:Deferred):Prop :=
 (∃ r,d=⟨.collected r,#[]⟩/\r<N)\/∃ f cap a,d=⟨.fn (.func f) cap,a⟩/\fL N cap=bv/\fL N a=bv
def TY.mono{N M:Nat}{d:Deferred}(h:TY N d)(a:N<=M):TY M d:=by
 rcases h with⟨r,e,i⟩|⟨f,cap,b,e,c,g⟩
 .exact .inl ⟨r,e,by omega⟩
 .exact .inr ⟨f,cap,b,e,jt a _ c,jt a _ g⟩
def uH{N:Nat}{ρ a:Ren}(e:Ext N ρ a){d:Deferred}(h:TY N d):a.tq d=ρ.tq d:=by
 rcases h with⟨r,rfl,b⟩|⟨f,cap,c,rfl,g,i⟩
 .simp[Ren.tq,e.blk r b]
 .simp[Ren.tq,Ren.fn,kI e _ g,kI e _ i]
def js(N:Nat)(a:ah):Prop:=(∀ i,i<a.env.n->aV N (a.env.get i)=bv)/\∀ d∈a.defers,TY N d
def js.mono{N M:Nat}{a:ah}(h:js N a)(b:N<=M):js M a :=
 ⟨fun i hi=>cU b _ (h.1 i hi),fun d c=>(h.2 d c).mono b⟩
def gM{N:Nat}{ρ b:Ren}(e:Ext N ρ b){a:ah}(h:js N a):b.act a=ρ.act a:=by unfold Ren.act;rw[Ren.ug e _ h.1];congr 1;apply List.map_congr_left;intro d c;exact uH e (h.2 d c)
def js.put{N:Nat}{a:ah}(h:js N a)(dst:Option Tmp){v:go}(b:aV N v=bv):js N (a.put dst v):=by
 cases dst with
 |none=>exact h
 |some d =>
  simp only[ah.put_eq];split
  .refine⟨fun i hi=>?_,h.2⟩;simp only[RV.n_set]at hi;simp only[RV.uh];split
   .exact b
   .exact h.1 i hi
  .exact h
def cS{P:ip}{N:Nat}{a:ah}(d:P.globals.size<=N)(e:js N a){x:i7}{v:go}(h:aO P a x=a9 v):aV N v=true:=by
 cases x with
 |tmp t =>
  simp only[aO,i8]at h;subst h;unfold ah.tmp;split
  .rename_i b; exact e.1 t (bT b)
  .exact eY N
 |const c =>
  simp only[aO]at h;split at h
  .rename_i i;simp only[i8]at h;subst h;exact gv _ i
  .cases h
 |global g =>
  simp only[aO]at h;split at h
  .rename_i b;simp only[i8]at h;subst h;exact bd (zE0 (bT b) d)
  .cases h
 |func f=>simp only[aO,i8]at h; subst h; simp[aV,fL,aT]
def nH{P:ip}{N:Nat}{a:ah}(b:P.globals.size<=N)(c:js N a):∀ {xs:List i7} {vs:List go},fJ P a xs=a9 vs->aT N vs=bv
 |[],vs,h=>by simp only[fJ,i8]at h; subst h; rfl
 |x::xs,vs,h=>by simp only[fJ,zA1,zA2,i8]at h;obtain⟨v,d,f,e,rfl⟩:=h;rw[aT,cS b c d,nH b c e]; rfl
def cb{N:Nat}{a b:List go}(c:aT N a=bv)(d:aT N b=bv):aT N (a++b)=bv :=
 ck.2 fun v e=>(zB1.1 e).elim (ck.1 c v) (ck.1 d v)
end Go.Ax
