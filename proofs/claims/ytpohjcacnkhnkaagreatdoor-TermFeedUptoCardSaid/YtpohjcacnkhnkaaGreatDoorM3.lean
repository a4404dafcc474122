/- Parts of the proof, one behind the other. -/
import Derived.Test.YtpohjcacnkhnkaaGreatDoorM2
import Derived.Laws.StructEq
import Derived.Test.YtpohjcacnkhnkaaGreatDoorProg
import Derived.KernelRfl
import Derived.Below
import Derived.WideShapes
import Derived.ChangeSlices
import Derived.ChangeAnyMap
import GoSem.ClaimJoined
import Derived.Shelf.Spec.SlicesInsertGrow
import Derived.Test.YtpohjcacnkhnkaaGreatDoorRows
import Derived.Shelf.Strconv.Itoa1
import Derived.Shelf.Strconv.Itoa2
import Derived.Lib.ItoaMem
set_option linter.all false
set_option maxRecDepth 10000
set_option maxHeartbeats 16000000
open Option renaming some->ap,none->bi
open Bool renaming true->bv,false->gc
open Decidable renaming decide->ge
open Go renaming Value->gt,TypeId->ii,Program->io,World->ip,Operand->i4
open Option.some renaming injEq->i5
open Prod.mk renaming injEq->i6
open Go.Value renaming int->i7,pointer->i9,slice->jp,bool->kw
open Go.IntKind renaming i64->i8
open And renaming intro -> zA0
open Option renaming bind_eq_bind -> zA1, bind_eq_some_iff -> zA2, bind_some -> zA4, map_some -> zB1, map_eq_some_iff -> zB5
open List renaming length_cons -> zA3, mem_singleton -> zA6, mem_cons -> zA9, length_nil -> zB0, length_append -> zB2, getElem?_eq_getElem -> zB3, mem_append -> zB4, mem_map -> zB6, nodup_cons -> zB8, map_cons -> zB9, mem_of_getElem? -> zC0, length_drop -> zC1, take_of_length_le -> zC3, mem_cons_of_mem -> zC4, getElem?_eq_none -> zC5, append_assoc -> zC9, nil_append -> zD0, drop_zero -> zD2, all_eq_true -> zD3, append_nil -> zD4, nodup_append -> zD5, mem_cons_self -> zD7, getElem?_eq_some_iff -> zE0, getElem?_map -> zE1, getD_eq_getElem?_getD -> zE3, map_nil -> zE6, eq_nil_of_length_eq_zero -> zE7, drop_eq_nil_of_le -> zE8, length_map -> zE9, length_take -> zF1, not_mem_nil -> zF2, getElem?_cons_zero -> zF3, getElem?_set -> zF4, mem_range -> zF5, cons_append -> zG1, length_replicate -> zG2, ext_getElem? -> zG4, getElem?_append_right -> zG5, getElem?_cons_succ -> zG6
open Nat renaming le_refl -> zA5, le_of_ble_eq_true -> zA8, zero_le -> zB7, lt_or_ge -> zC2, zero_add -> zC6, le_trans -> zC7, lt_of_lt_of_le -> zD1, add_zero -> zD6, lt_succ_self -> zD9, ble_eq -> zE2, mul_one -> zE5, min -> zF0, add_sub_cancel_left -> zF9, sub_self -> zG0
open Bool renaming and_eq_true -> zA7, false_eq_true -> zC8, and_self -> zD8, not_true -> zE4, or_false -> zF6, false_and -> zF7, or_true -> zF8, or_eq_true -> zG3
namespace Go.Ax
section
variable{P:io}{ro:Option Nat}{H:aa}{Q:Exit -> ai -> aa -> Prop}{a:ai}{N:Nat}{E:Env}{ds:List Deferred}
def DI(P:io)(ro:Option Nat)(y:Code)(Q:Exit->ai->aa->Prop):Exit->ai->aa->Prop:=Bw (fun b H1=>gO P ro y Q b H1) Q
def np(id:Nat)(Q:Exit->ai->aa->Prop):Exit->ai->aa->Prop:=fun e b H1=>Q (Cb id e) b H1
def qf(P:io)(ro:Option Nat)(x y:Code)(Q:Exit->ai->aa->Prop)(a:ai)(H:aa)(v:gt):Prop:=II (ap v) (gO P ro x Q a H) (gO P ro y Q a H)
def LX{x y:Code}:gO P ro (.seq x y) Q a H=gO P ro x (DI P ro y Q) a H:=Eq.trans rfl rfl
def KW:gO P ro .skip Q a H=Q .normal a H:=Eq.trans rfl rfl
def PC:gO P ro .ret Q a H=Q .ret a H:=Eq.trans rfl rfl
def LP{id:Nat}:gO P ro (.exit id) Q a H=Q (.exit id) a H:=Eq.trans rfl rfl
def CB{id:Nat}{b:Code}:gO P ro (.block id b) Q a H=gO P ro b (np id Q) a H:=Eq.trans rfl rfl
def MD{t:Nat}{x y:Code}(b:t<N):gO P ro (.cond (.tmp t) x y) Q (bj N E ds) H=qf P ro x y Q (bj N E ds) H (E t):=by simp only[gO,qf,AE N E ds t b]
def DO{id:Nat}{l:List Oper}:gO P ro (.region id ⟨l⟩ gc) Q a H=wpOps P ro ⟨l⟩ l a H Q:=Eq.trans rfl rfl
def ve{y:Code}:DI P ro y Q .normal a H=gO P ro y Q a H:=Eq.trans rfl rfl
def EF{y:Code}:DI P ro y Q .ret a H=Q .ret a H:=Eq.trans rfl rfl
def tg{y:Code}{id:Nat}:DI P ro y Q (.exit id) a H=Q (.exit id) a H:=Eq.trans rfl rfl
def qs{id:Nat}:np id Q .normal a H=Q .normal a H:=Eq.trans rfl rfl
def yJ{id:Nat}:np id Q .ret a H=Q .ret a H:=Eq.trans rfl rfl
def od{id:Nat}:np id Q (.exit id) a H=Q .normal a H:=by simp[np,Cb]
def rK{id k:Nat}(h:k≠id):np id Q (.exit k) a H=Q (.exit k) a H:=by simp[np,Cb,h]
def qR{x y:Code}:qf P ro x y Q a H (kw bv)=gO P ro x Q a H:=Eq.trans rfl rfl
def om{x y:Code}:qf P ro x y Q a H (kw gc)=gO P ro y Q a H:=Eq.trans rfl rfl
def uO{fn:Func}{R:Out->aa->Prop}:NC P fn R .normal (bj N E ds) H=je P fn (bj N E ds) ds .returning H R:=Eq.trans rfl rfl
def Dq{fn:Func}{R:Out->aa->Prop}:NC P fn R .ret (bj N E ds) H=je P fn (bj N E ds) ds .returning H R:=Eq.trans rfl rfl
def Kc(P:io)(ro:Option Nat)(ops:Array Oper)(rest:List Oper)(a:ai)(dst:Option Tmp)(Q:Exit->ai->aa->Prop):Out->aa->Prop
 |.ok v,H1=>wpOps P ro ops rest (a.put dst v) H1 Q
 |.error b,H1=>Q (.panic b) a H1
def vV:Op->Bool
 |.defer _=>bv
 |_=>gc
def Ff{a:ai}{b:Op}(h:vV b=gc):qC P a b=none:=by cases b<;>first|rfl|cases h
def zx{ops:Array Oper}{o:Oper}{rest:List Oper}(b:o.guard=bi)(c:vV o.op=gc):wpOps P ro ops (o::rest) a H Q=zQ P o.op a H (Kc P ro ops rest a o.dst Q):=by
 have e : (fun out H1 => match out with
    |.ok v=>wpOps P ro ops rest (a.put o.dst v) H1 Q
    |.error g=>Q (.panic g) a H1)=Kc P ro ops rest a o.dst Q:=by
  funext out H1;cases out<;>rfl
 simp only[wpOps,cG,b,Ff c,<-e]<;>(cases ro<;>rfl)
def PA{ops:Array Oper}:wpOps P ro ops [] a H Q=Q .normal a H:=Eq.trans rfl rfl
def jn(P:io)(ro:Option Nat)(ops:Array Oper)(o:Oper)(rest:List Oper)(N:Nat)(E:Env)(ds:List Deferred)(H:aa)(Q:Exit->ai->aa->Prop)(want:Bool):gt->Prop
 |.bool b=>if b=want then wpOps P ro ops (o::rest) (bj N E ds) H Q else wpOps P ro ops rest ((bj N E ds).put o.dst undef) H Q
 |_=>wpOps P ro ops rest ((bj N E ds).put o.dst undef) H Q
def nS(ops:Array Oper)(j:Nat):Option Nat:=(ops[j]?).bind (·.dst)
def N6{ops:Array Oper}{dst:Option Tmp}{g:Op}{ty:ii}{pos:String}{after:Array Edge}{j d:Nat}{want:Bool}{rest:List Oper}(c:nS ops j=ap d)(m:d<N) :
  wpOps P ro ops (⟨dst,g,ty,pos,after,ap (j,want)⟩::rest) (bj N E ds) H Q=jn P ro ops ⟨dst,g,ty,pos,after,bi⟩ rest N E ds H Q want (E d):=by
 unfold nS at c
 cases k:ops[j]? with
 |none=>rw[k]at c; cases c
 |some o =>
  rw[k]at c;simp only[zA4]at c
  have e:cG ops (bj N E ds) ⟨dst,g,ty,pos,after,ap (j,want)⟩=(match E d with
    |.bool b=>ap (b == want)
    |_=>ap gc):=by
   simp only[cG,k,c,xP N E ds d m];cases E d<;>rfl
  have n:cG ops (bj N E ds) ⟨dst,g,ty,pos,after,bi⟩=ap true:=Eq.trans rfl rfl
  cases l:E d with
  |bool b =>
   rw[l]at e;simp only[jn];by_cases h:b=want
   .rw[if_pos h];have:(b == want)=true:=by simpa using h
    simp only[wpOps,e,this,n]
   .rw[if_neg h];have:(b == want)=false:=by simpa using h
    simp only[wpOps,e,this]
  |_=>rw[l]at e; simp only[wpOps,e,jn]
def mB(P:io)(ro:Option Nat)(ops:Array Oper)(rest:List Oper)(N:Nat)(E:Env)(ds:List Deferred)(d:Nat)(H:aa)(Q:Exit->ai->aa->Prop):Option gt->Prop
 |some v=>wpOps P ro ops rest (bj N (cy E d v) ds) H Q
 |none=>False
def ji{ops:Array Oper}{rest:List Oper}{d:Nat}{v:gt}:mB P ro ops rest N E ds d H Q (ap v)=wpOps P ro ops rest (bj N (cy E d v) ds) H Q:=Eq.trans rfl rfl
def ph(P:io)(ro:Option Nat)(ops:Array Oper)(rest:List Oper)(N:Nat)(E:Env)(ds:List Deferred)(dst:Option Nat)(Q:Exit->ai->aa->Prop):Option (gt × aa)->Prop
 |some (v,H1)=>wpOps P ro ops rest ((bj N E ds).put dst v) H1 Q
 |none=>False
def yX{ops:Array Oper}{rest:List Oper}{d:Nat}{v:gt}{H1:aa}(b:d<N):ph P ro ops rest N E ds (ap d) Q (ap (v,H1))=wpOps P ro ops rest (bj N (cy E d v) ds) H1 Q:=by simp only[ph,cW N E ds d v b]
section
variable{ops:Array Oper}{d:Nat}{ty:ii}{pos:String}{after:Array Edge}{rest:List Oper}
def qW{b:Op}{x:Option gt}(hx:vV b=gc)(h:cj b P (bj N E ds) H=rv H x)(c:d<N):wpOps P ro ops (⟨ap d,b,ty,pos,after,bi⟩::rest) (bj N E ds) H Q=mB P ro ops rest N E ds d H Q x:=by
 rw[zx rfl hx];simp only[zQ,h,rv]
 cases x with
 |none=>rfl
 |some v=>simp only[zB1,nT,Kc,mB,cW N E ds d v c]
def uF{b:Op}{dst:Option Nat}{x:Option (gt × aa)}(hx:vV b=gc)(h:cj b P (bj N E ds) H=tN x):wpOps P ro ops (⟨dst,b,ty,pos,after,bi⟩::rest) (bj N E ds) H Q=ph P ro ops rest N E ds dst Q x:=by
 rw[zx rfl hx];simp only[zQ,h,tN]
 cases x with
 |none=>rfl
 |some v=>obtain⟨v,H1⟩:=v; rfl
def bX(E:Env):i4->gt
 |.tmp t=>E t
 |.const v=>v
 |.func f=>.func (.func f) #[] #[]
 |.global g=>i9 (ap ⟨g,0,bi⟩)
def bd(P:io)(N:Nat):i4->Bool
 |.tmp t=>Nat.blt t N
 |.const v=>af v
 |.func _=>bv
 |.global g=>Nat.blt g P.globals.size
def aD{x:i4}(h:bd P N x=bv):aP P (bj N E ds) x=ap (bX E x):=by
 cases x with
 |tmp t=>exact AE N E ds t (bO h)
 |const v=>simp only[bd]at h; simp only[aP,h,if_true,bX]
 |func f=>rfl
 |global g=>simp only[bd]at h; simp only[aP,h,if_true,bX]
def cT:∀ {xs:List i4},xs.all (bd P N)=bv->eR P (bj N E ds) xs=ap (xs.map (bX E))
 |[],_=>rfl
 |x::xs,h=>by simp only[List.all_cons,zA7]at h;simp only[eR,aD h.1,cT h.2,zA1,zA4,zB9]
def Lb{t:Nat}(h:t<N):bd P N (.tmp t)=true:=bx h
def ok_int{k:IntKind}{n:Int}:bd P N (.const (.int k n))=true:=by simp only[bd,af]
def H6{b:Bool}:bd P N (.const (kw b))=true:=by simp only[bd,af]
def pN{s:ByteArray}:bd P N (.const (.string s))=true:=by simp only[bd,af]
def A8:bd P N (.const (i9 bi))=true:=by simp only[bd,af]
def uI{n m:Nat}:bd P N (.const (jp bi n m))=true:=by simp only[bd,af]
def AA:bd P N (.const (.map bi))=true:=by simp only[bd,af]
def IT{f:FuncId}:bd P N (.func f)=true:=by simp only[bd]
def all_nil:([]:List i4).all (bd P N)=true:=by simp only[List.all_nil]
def all_cons{x:i4}{r:List i4}:(x::r).all (bd P N)=(bd P N x&&r.all (bd P N)):=by simp only[List.all_cons]
def M0{b:Bool}:(bv&&b)=b:=by simp only[Bool.true_and]
def IS{t:Nat}:bX E (.tmp t)=E t:=by simp only[bX]
def Bf{v:gt}:bX E (.const v)=v:=by simp only[bX]
def wD{g:Nat}:bX E (.global g)=i9 (ap ⟨g,0,bi⟩):=by simp only[bX]
def E5{f:FuncId}:bX E (.func f)=.func (.func f) #[] #[]:=by simp only[bX]
def M6{x:i4}(hx:bd P N x=bv)(b:d<N):wpOps P ro ops (⟨ap d,.move x,ty,pos,after,bi⟩::rest) (bj N E ds) H Q=wpOps P ro ops rest (bj N (cy E d (bX E x)) ds) H Q :=
 (qW (x:=ap (bX E x)) rfl (by simp only[cj,qo,aD hx]) b).trans ji
def Ei{x:i4}(hx:bd P N x=bv)(b:d<N):wpOps P ro ops (⟨ap d,.assign x,ty,pos,after,bi⟩::rest) (bj N E ds) H Q=wpOps P ro ops rest (bj N (cy E d (bX E x)) ds) H Q :=
 (qW (x:=ap (bX E x)) rfl (by simp only[cj,qo,aD hx]) b).trans ji
def uV{x:i4}{t:ii}{f:Nat}(hx:bd P N x=bv)(b:d<N):wpOps P ro ops (⟨ap d,.fieldAddr t x f,ty,pos,after,bi⟩::rest) (bj N E ds) H Q=mB P ro ops rest N E ds d H Q (aG P t (bX E x) f) :=
 qW rfl (by simp only[cj,jo,aD hx,zA1,zA4]) b
def uT{x i:i4}{t:ii}(hx:bd P N x=bv)(hi:bd P N i=bv)(b:d<N):wpOps P ro ops (⟨ap d,.indexAddr t x i,ty,pos,after,bi⟩::rest) (bj N E ds) H Q=mB P ro ops rest N E ds d H Q (aS P t (bX E x) (bX E i)) :=
 qW rfl (by simp only[cj,iY,aD hx,aD hi,zA1,zA4]) b
def MJ{x:i4}{t:ii}(hx:bd P N x=bv)(b:d<N):wpOps P ro ops (⟨ap d,.load t x,ty,pos,after,bi⟩::rest) (bj N E ds) H Q=mB P ro ops rest N E ds d H Q (fR P H t (bX E x)) :=
 qW rfl (by simp only[cj,Fb,aD hx,zA1,zA4]) b
def RS(i:Nat):gt->Option gt
 |.tuple l=>l.toList[i]?
 |_=>bi
def A5{i:Nat}{l:List gt}:RS i (.tuple ⟨l⟩)=l[i]?:=by simp only[RS]
def Az{x:i4}{i:Nat}(hx:bd P N x=bv)(b:d<N):wpOps P ro ops (⟨ap d,.extract x i,ty,pos,after,bi⟩::rest) (bj N E ds) H Q=mB P ro ops rest N E ds d H Q (RS i (bX E x)) :=
 qW rfl (by
  simp only[cj,mq,aD hx,zA1,zA4,ku]
  cases bX E x<;>rfl) b
def AR(x y:gt):gt->Option gt
 |.bool bv=>ap x
 |.bool gc=>ap y
 |_=>bi
def wJ{x y:gt}:AR x y (kw bv)=ap x:=by simp only[AR]
def ui{x y:gt}:AR x y (kw gc)=ap y:=by simp only[AR]
def MO{c x y:i4}(e:bd P N c=bv)(hx:bd P N x=bv)(g:bd P N y=bv)(h:d<N):wpOps P ro ops (⟨ap d,.pick c x y,ty,pos,after,bi⟩::rest) (bj N E ds) H Q=mB P ro ops rest N E ds d H Q (AR (bX E x) (bX E y) (bX E c)) :=
 qW rfl (by
  simp only[cj,Be,aD e,aD hx,aD g,zA1,zA4]
  cases bX E c with
  |bool b=>cases b<;>rfl
  |_=>rfl) h
def C7(P:io)(v:gt):Option gt :=
 match zA P (aa.none 0) v with
 |some (.value y,_)=>ap y
 |_=>bi
def De{p:Addr}:C7 P (i9 (ap p))=ap (i9 (ap p)):=by simp only[C7,zA]
def wU{x:i4}(hx:bd P N x=bv)(b:d<N)(h:(C7 P (bX E x)).isSome=bv):wpOps P ro ops (⟨ap d,.nilCheck x,ty,pos,after,bi⟩::rest) (bj N E ds) H Q=mB P ro ops rest N E ds d H Q (C7 P (bX E x)) :=
 qW rfl (by
  simp only[cj,JB,aD hx,zA1,zA4];simp only[C7]at h ⊢;unfold zA at h ⊢
  split<;>simp_all [rv]) b
def JG:gt->Option gt
 |.bool b=>ap (.bool !b)
 |_=>bi
def AZ{b:Bool}:JG (kw b)=ap (.bool !b):=by simp only[JG]
def Pz{x:i4}{t:ii}(hx:bd P N x=bv)(c:d<N)(h:(JG (bX E x)).isSome=bv):wpOps P ro ops (⟨ap d,.unOp .not t x,ty,pos,after,bi⟩::rest) (bj N E ds) H Q=mB P ro ops rest N E ds d H Q (JG (bX E x)) :=
 qW rfl (by
  simp only[cj,QZ,aD hx,zA1,zA4]
  cases e:bX E x with
  |bool b=>rfl
  |_=>rw[e]at h; cases h) c
def PF{b:BinOp}{t u:ii}{x y:i4}(hx:bd P N x=bv)(e:bd P N y=bv)(g:d<N)(h:(df P H b t (bX E x) (bX E y)).isSome=bv):wpOps P ro ops (⟨ap d,.binOp b t x y u,ty,pos,after,bi⟩::rest) (bj N E ds) H Q=mB P ro ops rest N E ds d H Q (df P H b t (bX E x) (bX E y)):=by
 cases c:df P H b t (bX E x) (bX E y) with
 |none=>rw[c]at h; cases h
 |some v=>exact qW (x:=ap v) rfl (by simp only[cj,BM,aD hx,aD e,zA1,zA4,zo,c]; rfl) g
def isSome_some{α:Type}{v:α}:(ap v).isSome=true:=by simp only[Option.isSome_some]
def G8{t:ii}{k:IntKind}{x y:Int}:df P H .add t (.int k x) (.int k y)=ap (.int k (k.wrap (x+y))):=by simp[df,dy]
def H9{t:ii}{k:IntKind}{x y:Int}:df P H .sub t (.int k x) (.int k y)=ap (.int k (k.wrap (x-y))):=by simp[df,dy]
def HV{t:ii}{k:IntKind}{x y:Int}:df P H .mul t (.int k x) (.int k y)=ap (.int k (k.wrap (x*y))):=by simp[df,dy]
def He{t:ii}{k:IntKind}{x y:Int}(h:y≠0):df P H .quo t (.int k x) (.int k y)=ap (.int k (k.wrap (x.tdiv y))):=by simp[df,dy,h]
def IX{t:ii}{k:IntKind}{x y:Int}(h:y≠0):df P H .rem t (.int k x) (.int k y)=ap (.int k (x.tmod y)):=by simp[df,dy,h]
def Ig{t:ii}{k:IntKind}{x y:Int}:df P H .eql t (.int k x) (.int k y)=ap (kw (ge (x=y))):=by simp[df,dy]; rfl
def HW{t:ii}{k:IntKind}{x y:Int}:df P H .neq t (.int k x) (.int k y)=ap (kw (ge (x≠y))):=by
 have:(x != y)=ge (x≠y):=by by_cases h:x=y<;>simp[h]
 simp[df,dy,this]
def Jb{t:ii}{k:IntKind}{x y:Int}:df P H .lss t (.int k x) (.int k y)=ap (kw (ge (x<y))):=by simp[df,dy]
def ID{t:ii}{k:IntKind}{x y:Int}:df P H .leq t (.int k x) (.int k y)=ap (kw (ge (x<=y))):=by simp[df,dy]
def IG{t:ii}{k:IntKind}{x y:Int}:df P H .gtr t (.int k x) (.int k y)=ap (kw (ge (y<x))):=by simp[df,dy]
def IA{t:ii}{k:IntKind}{x y:Int}:df P H .geq t (.int k x) (.int k y)=ap (kw (ge (y<=x))):=by simp[df,dy]
def Ht{t:ii}{x y:Bool}(h:P.underlying t=ap .bool):df P H .neq t (kw x) (kw y)=ap (kw (ge (x≠y))):=by simp only[df,h,sH]; cases x<;>cases y<;>rfl
def HK{t:ii}{l:List (Nat × i4)}(b:d<N):wpOps P ro ops (⟨ap d,.build t ⟨l⟩,ty,pos,after,bi⟩::rest) (bj N E ds) H Q=mB P ro ops rest N E ds d H Q ((gv P (bj N E ds) l).bind (dR P t)) :=
 qW rfl (by
  simp only[cj,tA,zA1]
  cases gv P (bj N E ds) l<;>rfl) b
def RX(P:io)(t:ii)(v:gt):Option gt :=
 match P.underlying t with
 |some (.interface _)=>bi
 |some _=>ap (.iface t v)
 |none=>bi
def Cg(H:aa)(t:ii):Option gt->Option (gt × aa)
 |some z=>(cH H t z.cells.toList gc).map fun g=>(i9 (ap ⟨H.next,0,bi⟩),g)
 |none=>bi
def uz{t:ii}{z:gt}(b:aX H.next z.cells.toList=bv):Cg H t (ap z)=ap (i9 (ap ⟨H.next,0,bi⟩),nw H t z.cells.toList gc):=by simp only[Cg,CJ b,zB1]
def G3{t:ii}{dst:Option Nat}:wpOps P ro ops (⟨dst,.alloc t,ty,pos,after,bi⟩::rest) (bj N E ds) H Q=ph P ro ops rest N E ds dst Q (Cg H t (zeroOf P t)) :=
 uF rfl (by
  simp only[cj,xk,zA1]
  cases zeroOf P t with
  |none=>rfl
  |some z =>
   simp only[zA4,zu,Cg,tN,zA1]
   cases cH H t z.cells.toList gc<;>rfl)
def sZ(P:io)(ro:Option Nat)(ops:Array Oper)(rest:List Oper)(a:ai)(Q:Exit->ai->aa->Prop):Option aa->Prop
 |some H1=>wpOps P ro ops rest a H1 Q
 |none=>False
def vC{H1:aa}:sZ P ro ops rest a Q (ap H1)=wpOps P ro ops rest a H1 Q:=by simp only[sZ]
def Hb{x y:i4}{t:ii}(hx:bd P N x=bv)(b:bd P N y=bv):wpOps P ro ops (⟨bi,.store t x y,ty,pos,after,bi⟩::rest) (bj N E ds) H Q=sZ P ro ops rest (bj N E ds) Q (fa P H t (bX E x) (bX E y)):=by
 rw[zx rfl rfl];simp only[zQ,cj,zj,aD hx,aD b,Mi,zA1,zA4]
 cases fa P H t (bX E x) (bX E y) with
 |none=>rfl
 |some H1=>simp only[zB1,nT,Kc,xh,sZ]
def PM(P:io)(N:Nat):List (Nat × i4)->Bool
 |[]=>bv
 |(_,x)::r=>bd P N x&&PM P N r
def pmap(E:Env):List (Nat × i4)->List (Nat × gt)
 |[]=>[]
 |(i,x)::r=>(i,bX E x)::pmap E r
def Ib:PM P N []=true:=by simp only[PM]
def C8{i:Nat}{x:i4}{r:List (Nat × i4)}:PM P N ((i,x)::r)=(bd P N x&&PM P N r):=by simp only[PM]
def pmap_nil:pmap E []=[]:=by simp only[pmap]
def pmap_cons{i:Nat}{x:i4}{r:List (Nat × i4)}:pmap E ((i,x)::r)=(i,bX E x)::pmap E r:=by simp only[pmap]
def yc:∀ {l:List (Nat × i4)},PM P N l=bv->gv P (bj N E ds) l=ap (pmap E l)
 |[],_=>rfl
 |(i,x)::r,h=>by simp only[PM,zA7]at h;simp only[gv,aD h.1,yc h.2,zA1,zA4,pmap]
def Hh{x i:i4}{t:ii}(hx:bd P N x=bv)(hi:bd P N i=bv)(c:d<N)(h:(gJ P t (bX E x) (bX E i)).isSome=bv):wpOps P ro ops (⟨ap d,.index t x i,ty,pos,after,bi⟩::rest) (bj N E ds) H Q=mB P ro ops rest N E ds d H Q (gJ P t (bX E x) (bX E i)):=by
 cases b:gJ P t (bX E x) (bX E i) with
 |none=>rw[b]at h; cases h
 |some v=>exact qW (x:=ap v) rfl (by simp only[cj,tJ,aD hx,aD hi,zA1,zA4,o8,b]; rfl) c
def MY{f:FuncId}{args:List i4}{ts:Array ii}{dst:Option Nat}(b:args.all (bd P N)=bv)(c:aB P f=bv) :
  wpOps P ro ops (⟨dst,.call ⟨.value (.func f),⟨args⟩,ts⟩,ty,pos,after,bi⟩::rest) (bj N E ds) H Q=aL P f (args.map (bX E)) H (Kc P ro ops rest (bj N E ds) dst Q):=by
 rw[zx rfl rfl];simp only[zQ,cj,lx,cT b,aP,zA1,zA4,qw,fF,jh,c,if_true,zD0,zD4,zB1,nT]
def Nb{v:gt}(b:d<N):Kc P ro ops rest (bj N E ds) (ap d) Q (.ok v) H=wpOps P ro ops rest (bj N (cy E d v) ds) H Q:=by simp only[Kc,cW N E ds d v b]
def zX{b:Builtin}{args:List i4}{ts:Array ii}{dst:Option Nat}(c:args.all (bd P N)=bv) :
  wpOps P ro ops (⟨dst,.call ⟨.builtin b,⟨args⟩,ts⟩,ty,pos,after,bi⟩::rest) (bj N E ds) H Q=ph P ro ops rest N E ds dst Q (aF P H b ts (args.map (bX E))) :=
 uF rfl (by simp only[cj,lx,cT c,zA1,zA4])
def PI{x:i4}{t:ii}(hx:bd P N x=bv)(b:d<N)(c:aX H.next (bX E x).cells.toList=bv):wpOps P ro ops (⟨ap d,.box t x,ty,pos,after,bi⟩::rest) (bj N E ds) H Q =
  wpOps P ro ops rest (bj N (cy E d (i9 (ap ⟨H.next,0,bi⟩))) ds) (nw H t (bX E x).cells.toList gc) Q:=by
 rw[zx rfl rfl];simp only[zQ,cj,xB,aD hx,zA1,zA4,zu,CJ c,nT,Kc,cW N E ds d _ b]
end
end
section
variable{P:io}{ro:Option Nat}{H:aa}{N:Nat}{E:Env}{ds:List Deferred}
def CD(P:io)(o:Oper)(a:ai)(H:aa)(anc i:Nat)(fps:List Fp)(K:List Fp->gt->aa->Prop):Prop :=
 ∃ F v g,F8 P a (H.restrict F) o (.ok v) g/\(∀ n∈F,H.get n≠bi)/\(∀ n∈g.dirty,n∈F)/\(∀ r∈fps,tR anc F v g H.next r=bv)/\K (⟨i,F,g.dirty,H.next,g.next⟩::fps) v (H.merge g)
def LW(P:io)(t:ii)(H:aa)(anc i:Nat)(fps:List Fp)(K:List Fp->gt->aa->Prop):Option gt->Prop
 |some (i9 (ap ⟨n,off,bi⟩))=>(match fR P H t (i9 (ap ⟨n,off,bi⟩)) with
  |some v=>(∀ r∈fps,fw anc [n] [] (ae v) r)/\K (⟨i,[n],[],H.next,H.next⟩::fps) v H
  |none=>False)
 |_=>False
def M8(K:List Fp->gt->aa->Prop)(H:aa)(anc:Nat)(fps:List Fp):dV->Prop
 |some (.value v,_)=>ir anc fps (ae v)/\K fps v H
 |_=>False
def cP(P:io)(b:BinOp)(t:ii):gt->gt->Option gt
 |.int k p,.int c q=>if k=c then dy b k p q else bi
 |.bool p,kw q=>(match P.underlying t with
  |some .bool=>sH b (p == q)
  |_=>bi)
 |_,_=>bi
def EN{b:BinOp}{t:ii}{p q v:gt}(h:cP P b t p q=ap v)(G:aa):df P G b t p q=ap v:=by
 unfold cP at h;split at h
 .simp only[df]; exact h
 .simp only[df]; exact h
 .cases h
def Nc(P:io)(b:BinOp)(t:ii)(K:List Fp->gt->aa->Prop)(H:aa)(anc:Nat)(fps:List Fp)(D:Prop):Option gt->Option gt->Prop
 |some p,ap q=>(match cP P b t p q with
  |some v=>ir anc fps (ae v)/\K fps v H
  |none=>D)
 |_,_=>D
def Gw(P:io)(t:ii)(H:aa)(anc i:Nat)(fps:List Fp)(K:List Fp->gt->aa->Prop):Option gt->Option gt->Prop
 |some (i9 (ap ⟨n,off,bi⟩)),ap v=>(match fa P H t (i9 (ap ⟨n,off,bi⟩)) v with
  |some H1=>n<H.next/\(∀ r∈fps,fw anc [n] [n] (eY H1 n) r)/\K (⟨i,[n],[n],H.next,H.next⟩::fps) undef H1
  |none=>False)
 |_,_=>False
def qA:Op->Bool
 |.alloc _=>bv
 |.box _ _=>bv
 |.buildSlice _ _ _=>bv
 |.makeSlice _ _ _=>bv
 |_=>gc
def O1{g:Op}(k:qA g=bv)(a:ai):∃ f:Nat->Option (gt × dw),∀ G:aa,cj g P a G=(f G.next).map fun x=>(.value x.1,G.new x.2):=by
 have b:∀(t:ii)(v:gt),∃ f:Nat->Option (gt × dw),∀ G:aa,zu t v G=(f G.next).map fun x=>(.value x.1,G.new x.2):=by intro t v;refine⟨fun n=>if aX n v.cells.toList then ap (i9 (ap ⟨n,0,bi⟩),⟨.cells #[] t,gc,RV.ofList v.cells.toList⟩) else bi,fun G=>?_⟩;simp only[zu,cH,zA1];split<;>rfl
 cases g with
 |alloc t =>
  simp only[cj,xk]
  cases zeroOf P t with
  |none=>exact⟨fun _=>bi,fun G=>rfl⟩
  |some z=>exact b t z
 |box t x =>
  simp only[cj,xB]
  cases aP P a x with
  |none=>exact⟨fun _=>bi,fun G=>rfl⟩
  |some z=>exact b t z
 |buildSlice t n o =>
  simp only[cj,iA]
  cases gv P a o.toList with
  |none=>exact⟨fun _=>bi,fun G=>rfl⟩
  |some l =>
   simp only[zA1,zA4,bU]
   cases p:P.underlying t with
   |none=>exact⟨fun _=>bi,fun G=>rfl⟩
   |some h =>
    cases h with
    |slice e =>
     simp only[zA4]
     cases j:bg P e with
     |none=>exact⟨fun _=>bi,fun G=>rfl⟩
     |some sz =>
      cases q:zeroOf P e with
      |none=>exact⟨fun _=>bi,fun G=>rfl⟩
      |some z =>
       simp only[zA4];split
       .cases s:Instr.fill (fun i=>ap (i*sz,sz)) (cg z.cells.toList n).toArray l with
        |none=>exact⟨fun _=>bi,fun G=>rfl⟩
        |some cells =>refine⟨fun m=>if aX m cells.toList then ap (jp (ap ⟨m,0,ap 0⟩) n n,⟨.cells #[] e,gc,RV.ofList cells.toList⟩) else bi,fun G=>?_⟩;simp only[zA4,cH,tN];split<;>rfl
       .exact⟨fun _=>bi,fun G=>rfl⟩
    |_=>exact⟨fun _=>bi,fun G=>rfl⟩
 |makeSlice t l c =>
  simp only[cj,kA]
  cases aP P a l with
  |none=>exact⟨fun _=>bi,fun G=>rfl⟩
  |some l =>
   cases aP P a c with
   |none=>exact⟨fun _=>bi,fun G=>rfl⟩
   |some c =>
    simp only[zA1,zA4];unfold fc;split
    .rename_i l c
     cases p:P.underlying t with
     |none=>exact⟨fun _=>bi,fun G=>rfl⟩
     |some h =>
      cases h with
      |slice e =>
       simp only[zA1,zA4]
       cases r:bytesOf P e with
       |none=>exact⟨fun _=>bi,fun G=>rfl⟩
       |some by1 =>
        cases j:bg P e with
        |none=>exact⟨fun _=>bi,fun G=>rfl⟩
        |some sz =>
         cases q:zeroOf P e with
         |none=>exact⟨fun _=>bi,fun G=>rfl⟩
         |some z =>
          simp only[zA4];split
          .refine⟨fun m=>if aX m (cg z.cells.toList c.toNat) then ap (jp (ap ⟨m,0,ap 0⟩) l.toNat c.toNat,⟨.cells #[] e,gc,RV.ofList (cg z.cells.toList c.toNat)⟩) else bi,fun G=>?_⟩;simp only[cH,tN];split<;>rfl
          .exact⟨fun _=>bi,fun G=>rfl⟩
      |_=>exact⟨fun _=>bi,fun G=>rfl⟩
    .exact⟨fun _=>bi,fun G=>rfl⟩
 |_=>cases k
def QW(H:aa)(anc i:Nat)(fps:List Fp)(K:List Fp->gt->aa->Prop):dV->Prop
 |some (.value v,H1)=>(∀ r∈fps,fw anc [] [] (ae v++eY H1 H.next) r)/\K (⟨i,[],[],H.next,H.next+1⟩::fps) v H1
 |_=>False
def kQ(P:io)(b:Builtin)(ts:Array ii)(vs:List gt):Option gt :=
 match b with
 |.len=>(match ts.toList,vs with
  |t::_,[x]=>(match P.underlying t,x with
   |some (.slice _),.slice _ n _=>ap (goInt n)
   |some .string,.string s=>ap (goInt s.size)
   |_,_=>bi)
  |_,_=>bi)
 |.max=>fG bv vs
 |.min=>fG gc vs
 |_=>bi
def yf{b:Builtin}{ts:Array ii}{vs:List gt}{v:gt}(h:kQ P b ts vs=ap v)(G:aa):aF P G b ts vs=ap (v,G):=by
 unfold kQ at h;split at h
 .split at h
  .rename_i t _ x c;split at h
   .rename_i e;simp only[aF,c,zr,e];simp only[i5]at h;rw[h]; rfl
   .rename_i e;simp only[aF,c,zr,e];simp only[i5]at h;rw[h]; rfl
   .cases h
  .cases h
 .simp only[aF,h,zB1]
 .simp only[aF,h,zB1]
 .cases h
def Rx(P:io)(b:Builtin)(ts:Array ii)(K:List Fp->gt->aa->Prop)(H:aa)(anc:Nat)(fps:List Fp)(D:Prop):Option (List gt)->Prop
 |some vs=>(match kQ P b ts vs with
  |some v=>ir anc fps (ae v)/\K fps v H
  |none=>D)
 |none=>D
def oQ(P:io)(o:Oper)(a:ai)(H:aa)(anc i:Nat)(fps:List Fp)(K:List Fp->gt->aa->Prop):Prop :=
 match qA o.op with
 |true=>QW H anc i fps K (cj o.op P a H)
 |false=>(match o.op with
  |.call ⟨.builtin b,args,ts⟩=>Rx P b ts K H anc fps (CD P o a H anc i fps K) (eR P a args.toList)
  |_=>CD P o a H anc i fps K)
def iM(P:io)(o:Oper)(a:ai)(H:aa)(anc i:Nat)(fps:List Fp)(K:List Fp->gt->aa->Prop):Prop :=
 match gC o.op with
 |true=>M8 K H anc fps (cj o.op P a H)
 |false=>(match o.op with
  |.load t x=>LW P t H anc i fps K (aP P a x)
  |.store t x y=>Gw P t H anc i fps K (aP P a x) (aP P a y)
  |.binOp b t x y _=>Nc P b t K H anc fps (CD P o a H anc i fps K) (aP P a x) (aP P a y)
  |_=>oQ P o a H anc i fps K)
def eV(P:io)(ops:Array Oper)(anc:List Nat):List Oper->Nat->List Fp->ai->aa->(ai->aa->Prop)->Prop
 |[],_,_,a,H,Q=>Q a H
 |o::rest,i,fps,a,H,Q =>
  match cG ops a o with
  |some bv=>iM P o a H (anc.getD i 0) i fps fun b v H1=>eV P ops anc rest (i+1) b (a.put o.dst v) H1 Q
  |some gc=>eV P ops anc rest (i+1) fps (a.put o.dst undef) H Q
  |none=>False
def Bt{ops:Array Oper}{anc:List Nat}{o:Oper}{rest:List Oper}{i:Nat}{fps:List Fp}{a:ai}{Q:ai->aa->Prop}{t:ii}{x y:i4}{v:gt}{n off:Nat}{H1:aa}(J:o.op=.store t x y)(M:cG ops a o=ap bv)
  (hx:aP P a x=ap (i9 (ap ⟨n,off,bi⟩))) (O:aP P a y=ap v) (b:fa P H t (i9 (ap ⟨n,off,bi⟩)) v=ap H1) (B:n<H.next) (R:∀ r∈fps,fw (anc.getD i 0) [n] [n] (eY H1 n) r)
  (h:cu P ops anc rest (i+1) (⟨i,[n],[n],H.next,H.next⟩::fps) (a.put o.dst undef) H1 Q):cu P ops anc (o::rest) i fps a H Q:=by
 have s:=aI H [n];have C:(H.restrict [n]).get n=H.get n:=by rw[bf]; simp
 simp only[fa,zA1]at b
 cases j:bg P t with
 |none=>rw[j]at b; cases b
 |some sz =>
  rw[j]at b;simp only[zA4]at b;split at b
  .rename_i S;subst S;simp only[dX,zA1]at b
   cases A:bI H n with
   |none=>rw[A]at b; cases b
   |some z =>
    obtain⟨rv,e,c⟩:=z;rw[A]at b;simp only[zA4]at b;split at b
    .rename_i k;simp only[i5]at b;subst b;have D:bI (H.restrict [n]) n=ap (rv,e,c):=by rw[<-A]; simp only[bI,C]
     have F:fa P (H.restrict [n]) t (i9 (ap ⟨n,off,bi⟩)) v=ap ((H.restrict [n]).cy n (ap ⟨.cells #[] e,c,rv.fk off v.cells.toList⟩)):=by simp only[fa,j,zA1,zA4,if_true,dX,D,s.1,k]
     have p:((H.restrict [n]).cy n (ap ⟨.cells #[] e,c,rv.fk off v.cells.toList⟩)).dirty=[n]:=by simp only[aa.eD,s.2.1,s.2.2,bx B,if_true]
     have l:((H.restrict [n]).cy n (ap ⟨.cells #[] e,c,rv.fk off v.cells.toList⟩)).next=H.next:=s.1;have G:((H.restrict [n]).cy n (ap ⟨.cells #[] e,c,rv.fk off v.cells.toList⟩)).get n=ap ⟨.cells #[] e,c,rv.fk off v.cells.toList⟩:=by rw[aa.fg,if_pos rfl]
     have I:H.merge ((H.restrict [n]).cy n (ap ⟨.cells #[] e,c,rv.fk off v.cells.toList⟩))=H.cy n (ap ⟨.cells #[] e,c,rv.fk off v.cells.toList⟩):=by unfold aa.merge;rw[p,l,zG0];simp only[aa.eA,aa.cF,G];rfl
     simp only[cu,M];refine⟨[n],undef,_,gL (x:=.skip) (g:=(H.restrict [n]).cy n (ap ⟨.cells #[] e,c,rv.fk off v.cells.toList⟩)) ?_ ⟨rfl,rfl⟩,?_,by rw[p]; simp,fun r T=>iL ?_,?_⟩
     .rw[J];simp only[cj,zj,hx,O,F,Mi,zA1,zA4,zB1]
     .intro m q;simp only[zA6]at q;subst q;intro U;simp[bI,U]at A
     .have hi:eY ((H.restrict [n]).cy n (ap ⟨.cells #[] e,c,rv.fk off v.cells.toList⟩)) n=eY (H.cy n (ap ⟨.cells #[] e,c,rv.fk off v.cells.toList⟩)) n:=by
       simp only[eY,aa.fg,if_true]
      have:fV undef ((H.restrict [n]).cy n (ap ⟨.cells #[] e,c,rv.fk off v.cells.toList⟩)) H.next=eY (H.cy n (ap ⟨.cells #[] e,c,rv.fk off v.cells.toList⟩)) n:=by simp only[fV,l,p,zG0,c8,zD4,List.flatMap_cons,List.flatMap_nil,undef,ae,sI,gH,zD0];exact hi
      rw[p,this];exact R r T
     .rw[I,p,l]; exact h
    .cases b
  .cases b
def Gn{ops:Array Oper}{anc:List Nat}{o:Oper}{rest:List Oper}{i:Nat}{fps:List Fp}{a:ai}{Q:ai->aa->Prop}{v:gt}{H1:aa}(p:qA o.op=bv)(q:cG ops a o=ap bv)
  (hx:cj o.op P a H=ap (.value v,H1)) (s:∀ r∈fps,fw (anc.getD i 0) [] [] (ae v++eY H1 H.next) r)
  (h:cu P ops anc rest (i+1) (⟨i,[],[],H.next,H.next+1⟩::fps) (a.put o.dst v) H1 Q):cu P ops anc (o::rest) i fps a H Q:=by
 obtain⟨f,m⟩:=O1 (P:=P) p a;have k:=aI H [];rw[m H]at hx
 cases c:f H.next with
 |none=>rw[c]at hx; cases hx
 |some z =>
  obtain⟨u,b⟩:=z;rw[c]at hx;simp only[zB1,i5,i6,cO.value.injEq]at hx;obtain⟨rfl,rfl⟩:=hx;have j:((H.restrict []).new b).dirty=[]:=k.2.2;have e:((H.restrict []).new b).next=H.next+1:=by simp only[aa.o5,k.1]
  have n:((H.restrict []).new b).get H.next=ap b:=by rw[aa.fN,if_pos k.1.symm]
  have l:H.merge ((H.restrict []).new b)=H.new b:=by unfold aa.merge;rw[j,e,zF9];simp only[aa.eA,aa.cF,n];rfl
  simp only[cu,q];refine⟨[],u,(H.restrict []).new b,gL (x:=.value u) (g:=(H.restrict []).new b) ?_ ⟨rfl,rfl⟩,by simp,by rw[j]; simp,fun r t=>iL ?_,?_⟩
  .rw[m,k.1,c]; rfl
  .have hi:eY ((H.restrict []).new b) H.next=eY (H.new b) H.next:=by
    simp only[eY,n,aa.fN,if_true]
   have:fV u ((H.restrict []).new b) H.next=ae u++eY (H.new b) H.next:=by simp only[fV,e,j,zF9,c8,zD0,List.flatMap_cons,List.flatMap_nil,zD4,hi]
   rw[j,this];exact s r t
  .rw[l,j,e]; exact h
def gM{ops:Array Oper}{anc:List Nat}{Q:ai->aa->Prop}:∀(rest:List Oper)(i:Nat)(fps:List Fp)(a:ai)(H:aa),eV P ops anc rest i fps a H Q->cu P ops anc rest i fps a H Q
 |[],_,_,_,_,h=>h
 |o::rest,i,fps,a,H,h=>by
  simp only[eV]at h;split at h
  .rename_i k;unfold iM at h;split at h
   .rename_i l;unfold M8 at h;split at h
    .rename_i v g hx;obtain⟨f,I⟩:=EP (P:=P) l a
     have J:g=H:=by
      have:=I H;rw[hx]at this
      cases f with
      |none=>cases this
      |some y=>simp only[zB1,i5,i6]at this; exact this.2
     subst J;exact ER l k hx h.1 (gM rest _ _ _ _ h.2)
    .exact h.elim
   .split at h
    .rename_i t x c;unfold LW at h;split at h
     .rename_i n off hx;split at h
      .rename_i v M;exact E0 c k hx M h.1 (gM rest _ _ _ _ h.2)
      .exact h.elim
     .exact h.elim
    .rename_i t x y c;unfold Gw at h;split at h
     .rename_i n off v hx m;split at h
      .rename_i H1 O;exact Bt c k hx m O h.1 h.2.1 (gM rest _ _ _ _ h.2.2)
      .exact h.elim
     .exact h.elim
    .rename_i R t x y u c;have e:CD P o a H (anc.getD i 0) i fps (fun j v H1=>eV P ops anc rest (i+1) j (a.put o.dst v) H1 Q)->cu P ops anc (o::rest) i fps a H Q:=by rintro⟨F,v,g,r,s,z,A,B⟩;simp only[cu,k];exact⟨F,v,g,r,s,z,A,gM rest _ _ _ _ B⟩
     unfold Nc at h;split at h
     .rename_i p q hx m;split at h
      .rename_i v C;refine ra k (fun G=>?_) h.1 (gM rest _ _ _ _ h.2);rw[c];simp only[cj,BM,hx,m,zA1,zA4,zo,EN C G]
      .exact e h
     .exact e h
    .have e:CD P o a H (anc.getD i 0) i fps (fun j v H1=>eV P ops anc rest (i+1) j (a.put o.dst v) H1 Q)->cu P ops anc (o::rest) i fps a H Q:=by
      rintro⟨F,v,g,r,s,z,A,B⟩;simp only[cu,k];exact⟨F,v,g,r,s,z,A,gM rest _ _ _ _ B⟩
     unfold oQ at h;split at h
     .rename_i l;unfold QW at h;split at h
      .rename_i v H1 hx;exact Gn l k hx h.1 (gM rest _ _ _ _ h.2)
      .exact h.elim
     .split at h
      .rename_i b args ts c;unfold Rx at h;split at h
       .rename_i vs D;split at h
        .rename_i v C;refine ra k (fun G=>?_) h.1 (gM rest _ _ _ _ h.2);rw[c];simp only[cj,lx,D,zA1,zA4,yf C G,tN,zB1]
        .exact e h
       .exact e h
      .exact e h
  .rename_i k;simp only[cu,k];exact gM rest _ _ _ _ h
  .exact h.elim
section
variable{ops:Array Oper}{anc:List Nat}{d:Nat}{ty:ii}{pos:String}{after:Array Edge}{rest:List Oper}{i:Nat}{fps:List Fp}{Q:ai -> aa -> Prop}
def nY(P:io)(ops:Array Oper)(anc:List Nat)(rest:List Oper)(i:Nat)(fps:List Fp)(N:Nat)(E:Env)(ds:List Deferred)(d:Nat)(H:aa)(Q:ai->aa->Prop):Option gt->Prop
 |some v=>ir (anc.getD i 0) fps (ae v)/\eV P ops anc rest (i+1) fps (bj N (cy E d v) ds) H Q
 |none=>False
def Ag{v:gt}:nY P ops anc rest i fps N E ds d H Q (ap v)=(ir (anc.getD i 0) fps (ae v)/\eV P ops anc rest (i+1) fps (bj N (cy E d v) ds) H Q):=by simp only[nY]
def Qz{Q:Exit->ai->aa->Prop}{id:Nat}{l:List Oper}{a:ai}(b:gR ⟨l⟩=bv)(h:eV P ⟨l⟩ (iU ⟨l⟩) l 0 [] a H (Q .normal)):gO P ro (.region id ⟨l⟩ bv) Q a H :=
 ⟨b,.inl (gM l 0 [] a H h)⟩
def zc{a:ai}:eV P ops anc [] i fps a H Q=Q a H:=by simp only[eV]
def qx{b:Op}{x:Option gt}(c:gC b=bv)(h:cj b P (bj N E ds) H=rv H x)(e:d<N):eV P ops anc (⟨ap d,b,ty,pos,after,bi⟩::rest) i fps (bj N E ds) H Q=nY P ops anc rest i fps N E ds d H Q x:=by
 simp only[eV,cG,iM,c,h,rv]
 cases x with
 |none=>rfl
 |some v=>simp only[zB1,M8,cW N E ds d v e,nY]
def Ir{x:i4}(hx:bd P N x=bv)(b:d<N):eV P ops anc (⟨ap d,.move x,ty,pos,after,bi⟩::rest) i fps (bj N E ds) H Q=nY P ops anc rest i fps N E ds d H Q (ap (bX E x)) :=
 qx rfl (by simp only[cj,qo,aD hx]) b
def AS{x:i4}(hx:bd P N x=bv)(b:d<N):eV P ops anc (⟨ap d,.assign x,ty,pos,after,bi⟩::rest) i fps (bj N E ds) H Q=nY P ops anc rest i fps N E ds d H Q (ap (bX E x)) :=
 qx rfl (by simp only[cj,qo,aD hx]) b
def rV{x:i4}{t:ii}{f:Nat}(hx:bd P N x=bv)(b:d<N):eV P ops anc (⟨ap d,.fieldAddr t x f,ty,pos,after,bi⟩::rest) i fps (bj N E ds) H Q=nY P ops anc rest i fps N E ds d H Q (aG P t (bX E x) f) :=
 qx rfl (by simp only[cj,jo,aD hx,zA1,zA4]) b
def rQ{x y:i4}{t:ii}(hx:bd P N x=bv)(hi:bd P N y=bv)(b:d<N):eV P ops anc (⟨ap d,.indexAddr t x y,ty,pos,after,bi⟩::rest) i fps (bj N E ds) H Q=nY P ops anc rest i fps N E ds d H Q (aS P t (bX E x) (bX E y)) :=
 qx rfl (by simp only[cj,iY,aD hx,aD hi,zA1,zA4]) b
def zi{x:i4}{k:Nat}(hx:bd P N x=bv)(b:d<N):eV P ops anc (⟨ap d,.extract x k,ty,pos,after,bi⟩::rest) i fps (bj N E ds) H Q=nY P ops anc rest i fps N E ds d H Q (RS k (bX E x)) :=
 qx rfl (by
  simp only[cj,mq,aD hx,zA1,zA4,ku]
  cases bX E x<;>rfl) b
def uE{x:i4}(hx:bd P N x=bv)(b:d<N)(h:(C7 P (bX E x)).isSome=bv):eV P ops anc (⟨ap d,.nilCheck x,ty,pos,after,bi⟩::rest) i fps (bj N E ds) H Q=nY P ops anc rest i fps N E ds d H Q (C7 P (bX E x)) :=
 qx rfl (by
  simp only[cj,JB,aD hx,zA1,zA4];simp only[C7]at h ⊢;unfold zA at h ⊢
  split<;>simp_all [rv]) b
def Dc{t:ii}{l:List (Nat × i4)}(b:d<N):eV P ops anc (⟨ap d,.build t ⟨l⟩,ty,pos,after,bi⟩::rest) i fps (bj N E ds) H Q=nY P ops anc rest i fps N E ds d H Q ((gv P (bj N E ds) l).bind (dR P t)) :=
 qx rfl (by
  simp only[cj,tA,zA1]
  cases gv P (bj N E ds) l<;>rfl) b
def Hs{c x y:i4}(e:bd P N c=bv)(hx:bd P N x=bv)(g:bd P N y=bv)(h:d<N):eV P ops anc (⟨ap d,.pick c x y,ty,pos,after,bi⟩::rest) i fps (bj N E ds) H Q=nY P ops anc rest i fps N E ds d H Q (AR (bX E x) (bX E y) (bX E c)) :=
 qx rfl (by
  simp only[cj,Be,aD e,aD hx,aD g,zA1,zA4]
  cases bX E c with
  |bool b=>cases b<;>rfl
  |_=>rfl) h
def Nz{b:BinOp}{t u:ii}{x y:i4}(hx:bd P N x=bv)(e:bd P N y=bv)(g:d<N)(h:(cP P b t (bX E x) (bX E y)).isSome=bv):eV P ops anc (⟨ap d,.binOp b t x y u,ty,pos,after,bi⟩::rest) i fps (bj N E ds) H Q=nY P ops anc rest i fps N E ds d H Q (cP P b t (bX E x) (bX E y)):=by
 cases c:cP P b t (bX E x) (bX E y) with
 |none=>rw[c]at h; cases h
 |some v=>simp only[eV,cG,iM,gC,Nc,aD hx,aD e,c,cW N E ds d v g,nY]
def IM(P:io)(ops:Array Oper)(anc:List Nat)(rest:List Oper)(i:Nat)(fps:List Fp)(N:Nat)(E:Env)(ds:List Deferred)(d:Nat)(H:aa)(Q:ai->aa->Prop)(n:Nat):Option gt->Prop
 |some v=>(∀ r∈fps,fw (anc.getD i 0) [n] [] (ae v) r)/\eV P ops anc rest (i+1) (⟨i,[n],[],H.next,H.next⟩::fps) (bj N (cy E d v) ds) H Q
 |none=>False
def yR{n:Nat}{v:gt}:IM P ops anc rest i fps N E ds d H Q n (ap v)=((∀ r∈fps,fw (anc.getD i 0) [n] [] (ae v) r)/\eV P ops anc rest (i+1) (⟨i,[n],[],H.next,H.next⟩::fps) (bj N (cy E d v) ds) H Q):=by simp only[IM]
def Kt:gt->Nat
 |i9 (ap a)=>a.block
 |_=>0
def mm:gt->Bool
 |i9 (ap ⟨_,_,bi⟩)=>bv
 |_=>gc
def Hu{n off:Nat}:Kt (i9 (ap ⟨n,off,bi⟩))=n:=by simp only[Kt]
def vB{n off:Nat}:mm (i9 (ap ⟨n,off,bi⟩))=true:=by simp only[mm]
def It{x:i4}{t:ii}(hx:bd P N x=bv)(e:d<N)(b:mm (bX E x)=bv):eV P ops anc (⟨ap d,.load t x,ty,pos,after,bi⟩::rest) i fps (bj N E ds) H Q=IM P ops anc rest i fps N E ds d H Q (Kt (bX E x)) (fR P H t (bX E x)):=by
 simp only[eV,cG,iM,gC,aD hx];unfold mm at b;split at b
 .rename_i n off c;rw[c];simp only[LW,Kt]
  cases fR P H t (i9 (ap ⟨n,off,bi⟩)) with
  |none=>rfl
  |some v=>simp only[cW N E ds d v e,IM]
 .cases b
def mh(P:io)(ops:Array Oper)(anc:List Nat)(o:Oper)(rest:List Oper)(i:Nat)(fps:List Fp)(a:ai)(H:aa)(Q:ai->aa->Prop):Prop :=
 CD P o a H (anc.getD i 0) i fps fun b v H1=>eV P ops anc rest (i+1) b (a.put o.dst v) H1 Q
def IU{f:i4}{args:Array i4}{ts:Array ii}{dst:Option Nat}:eV P ops anc (⟨dst,.call ⟨.value f,args,ts⟩,ty,pos,after,bi⟩::rest) i fps (bj N E ds) H Q=mh P ops anc ⟨dst,.call ⟨.value f,args,ts⟩,ty,pos,after,bi⟩ rest i fps (bj N E ds) H Q:=by simp only[eV,cG,iM,gC,oQ,qA,mh]
def aN{f:FuncId}{args:List i4}{ts:Array ii}{v:gt}(F:List Nat)(e:args.all (bd P N)=bv)(j:aB P f=bv)(k:d<N)(l:∀ n∈F,H.get n≠bi)
  (m:∀ G:aa,G.next=H.next->(∀ n∈F,G.get n=H.get n)->br P f (args.map (bX E)) G (.ok v) G) (o:∀ r∈fps,fw (anc.getD i 0) F [] (ae v) r)
  (h:eV P ops anc rest (i+1) (⟨i,F,[],H.next,H.next⟩::fps) (bj N (cy E d v) ds) H Q):mh P ops anc ⟨ap d,.call ⟨.value (.func f),⟨args⟩,ts⟩,ty,pos,after,bi⟩ rest i fps (bj N E ds) H Q:=by
 have b:=aI H F;refine⟨F,v,H.restrict F,?_,l,(by rw[b.2.2]; simp),fun r p=>iL ?_,?_⟩
 .refine gL (x:=.enter f (args.map (bX E))) (g:=H.restrict F) ?_ (m _ b.1 (fun n c=>by rw[bf,if_pos c]));simp only[cj,lx,cT e,aP,zA1,zA4,qw,fF,jh,j,if_true,zD0,zD4,zB1]
 .simp only[fV,b.2.2,b.1,zG0,c8,zD4,List.flatMap_nil];exact o r p
 .rw[nC,b.2.2,b.1];simp only[cW N E ds d v k];exact h
def Io{t:ii}{k:IntKind}{x y:Int}:cP P .add t (.int k x) (.int k y)=ap (.int k (k.wrap (x+y))):=by simp[cP,dy]
def H8{t:ii}{k:IntKind}{x y:Int}:cP P .sub t (.int k x) (.int k y)=ap (.int k (k.wrap (x-y))):=by simp[cP,dy]
def HS{t:ii}{k:IntKind}{x y:Int}:cP P .mul t (.int k x) (.int k y)=ap (.int k (k.wrap (x*y))):=by simp[cP,dy]
def Je{t:ii}{k:IntKind}{x y:Int}:cP P .lss t (.int k x) (.int k y)=ap (kw (ge (x<y))):=by simp[cP,dy]
def Ij{t:ii}{k:IntKind}{x y:Int}:cP P .leq t (.int k x) (.int k y)=ap (kw (ge (x<=y))):=by simp[cP,dy]
def I2{t:ii}{k:IntKind}{x y:Int}:cP P .gtr t (.int k x) (.int k y)=ap (kw (ge (y<x))):=by simp[cP,dy]
def I5{t:ii}{k:IntKind}{x y:Int}:cP P .geq t (.int k x) (.int k y)=ap (kw (ge (y<=x))):=by simp[cP,dy]
def IF{t:ii}{k:IntKind}{x y:Int}:cP P .eql t (.int k x) (.int k y)=ap (kw (ge (x=y))):=by simp[cP,dy]; rfl
def G9{t:ii}{k:IntKind}{x y:Int}:cP P .neq t (.int k x) (.int k y)=ap (kw (ge (x≠y))):=by
 have:(x != y)=ge (x≠y):=by by_cases h:x=y<;>simp[h]
 simp[cP,dy,this]
def Mf{ts:Array ii}{k:IntKind}{x y:Int}:aF P H .max ts [.int k x,.int k y]=ap (.int k (max x y),H):=by
 have:(if y>x then y else x)=max x y:=by split<;>omega
 simp[aF,fG,this]
def K0{ts:Array ii}{k:IntKind}{x y:Int}:aF P H .min ts [.int k x,.int k y]=ap (.int k (min x y),H):=by
 have:(if y<x then y else x)=min x y:=by split<;>omega
 simp[aF,fG,this]
def CQ(P:io)(ops:Array Oper)(anc:List Nat)(rest:List Oper)(i:Nat)(fps:List Fp)(a:ai)(H:aa)(Q:ai->aa->Prop)(n:Nat):Option aa->Prop
 |some H1=>n<H.next/\(∀ r∈fps,fw (anc.getD i 0) [n] [n] (eY H1 n) r)/\eV P ops anc rest (i+1) (⟨i,[n],[n],H.next,H.next⟩::fps) a H1 Q
 |none=>False
def uK{n:Nat}{a:ai}{H1:aa}:CQ P ops anc rest i fps a H Q n (ap H1)=(n<H.next/\(∀ r∈fps,fw (anc.getD i 0) [n] [n] (eY H1 n) r)/\eV P ops anc rest (i+1) (⟨i,[n],[n],H.next,H.next⟩::fps) a H1 Q):=by simp only[CQ]
def Dk{x y:i4}{t:ii}(hx:bd P N x=bv)(e:bd P N y=bv)(b:mm (bX E x)=bv):eV P ops anc (⟨bi,.store t x y,ty,pos,after,bi⟩::rest) i fps (bj N E ds) H Q=CQ P ops anc rest i fps (bj N E ds) H Q (Kt (bX E x)) (fa P H t (bX E x) (bX E y)):=by
 simp only[eV,cG,iM,gC,aD hx,aD e];unfold mm at b;split at b
 .rename_i n off c;rw[c];simp only[Gw,Kt]
  cases fa P H t (i9 (ap ⟨n,off,bi⟩)) (bX E y) with
  |none=>rfl
  |some H1=>simp only[xh,CQ]
 .cases b
def NH(P:io)(ops:Array Oper)(anc:List Nat)(rest:List Oper)(i:Nat)(fps:List Fp)(N:Nat)(E:Env)(ds:List Deferred)(d:Nat)(H:aa)(Q:ai->aa->Prop):Option (gt × aa)->Prop
 |some (v,H1)=>(∀ r∈fps,fw (anc.getD i 0) [] [] (ae v++eY H1 H.next) r)/\eV P ops anc rest (i+1) (⟨i,[],[],H.next,H.next+1⟩::fps) (bj N (cy E d v) ds) H1 Q
 |none=>False
def A7{v:gt}{H1:aa}:NH P ops anc rest i fps N E ds d H Q (ap (v,H1))=((∀ r∈fps,fw (anc.getD i 0) [] [] (ae v++eY H1 H.next) r)/\eV P ops anc rest (i+1) (⟨i,[],[],H.next,H.next+1⟩::fps) (bj N (cy E d v) ds) H1 Q):=by simp only[NH]
def Qw{b:Op}{x:Option (gt × aa)}(c:qA b=bv)(h:cj b P (bj N E ds) H=tN x)(e:d<N):eV P ops anc (⟨ap d,b,ty,pos,after,bi⟩::rest) i fps (bj N E ds) H Q=NH P ops anc rest i fps N E ds d H Q x:=by
 have j:gC b=false:=by cases b<;>first|rfl|cases c
 have g:iM P ⟨ap d,b,ty,pos,after,bi⟩ (bj N E ds) H=oQ P ⟨ap d,b,ty,pos,after,bi⟩ (bj N E ds) H:=by funext anc i fps K;cases b<;>first|rfl|cases c
 simp only[eV,cG,g,oQ,c,h,tN]
 cases x with
 |none=>rfl
 |some v=>simp only[zB1,QW,cW N E ds d v.1 e,NH]
def qg{t:ii}{n:Nat}{l:List (Nat × i4)}(b:d<N):eV P ops anc (⟨ap d,.buildSlice t n ⟨l⟩,ty,pos,after,bi⟩::rest) i fps (bj N E ds) H Q=NH P ops anc rest i fps N E ds d H Q ((gv P (bj N E ds) l).bind (bU P H t n)) :=
 Qw rfl (by
  simp only[cj,iA,zA1]
  cases gv P (bj N E ds) l<;>rfl) b
def yg{b:Builtin}{args:List i4}{ts:Array ii}(e:args.all (bd P N)=bv)(g:d<N)(h:(kQ P b ts (args.map (bX E))).isSome=bv) :
  eV P ops anc (⟨ap d,.call ⟨.builtin b,⟨args⟩,ts⟩,ty,pos,after,bi⟩::rest) i fps (bj N E ds) H Q=nY P ops anc rest i fps N E ds d H Q (kQ P b ts (args.map (bX E))):=by
 cases c:kQ P b ts (args.map (bX E)) with
 |none=>rw[c]at h; cases h
 |some v=>simp only[eV,cG,iM,gC,oQ,qA,Rx,cT e,c,cW N E ds d v g,nY]
def Mw{ts:Array ii}{k:IntKind}{x y:Int}:kQ P .max ts [.int k x,.int k y]=ap (.int k (max x y)):=by
 have:(if y>x then y else x)=max x y:=by split<;>omega
 simp[kQ,fG,this]
def NB{ts:Array ii}{k:IntKind}{x y:Int}:kQ P .min ts [.int k x,.int k y]=ap (.int k (min x y)):=by
 have:(if y<x then y else x)=min x y:=by split<;>omega
 simp[kQ,fG,this]
def jg(P:io)(ops:Array Oper)(anc:List Nat)(o:Oper)(rest:List Oper)(i:Nat)(fps:List Fp)(N:Nat)(E:Env)(ds:List Deferred)(H:aa)(Q:ai->aa->Prop)(want:Bool):gt->Prop
 |.bool b=>if b=want then eV P ops anc (o::rest) i fps (bj N E ds) H Q else eV P ops anc rest (i+1) fps ((bj N E ds).put o.dst undef) H Q
 |_=>eV P ops anc rest (i+1) fps ((bj N E ds).put o.dst undef) H Q
theorem FL{b:Op}{dst:Option Nat}{g:Option (Nat × Bool)}{a:ai}{anc i:Nat}{K:List Fp->gt->aa->Prop}:CD P ⟨dst,b,ty,pos,after,g⟩ a H anc i fps K=CD P ⟨dst,b,ty,pos,after,bi⟩ a H anc i fps K:=rfl
def EA{b:Op}{dst:Option Nat}{g:Option (Nat × Bool)}{a:ai}{anc i:Nat}{K:List Fp->gt->aa->Prop}:iM P ⟨dst,b,ty,pos,after,g⟩ a H anc i fps K=iM P ⟨dst,b,ty,pos,after,bi⟩ a H anc i fps K:=by unfold iM oQ;simp only[FL (g:=g)]
def Ls{dst:Option Tmp}{g:Op}{j d:Nat}{want:Bool}(c:nS ops j=ap d)(m:d<N) :
  eV P ops anc (⟨dst,g,ty,pos,after,ap (j,want)⟩::rest) i fps (bj N E ds) H Q=jg P ops anc ⟨dst,g,ty,pos,after,bi⟩ rest i fps N E ds H Q want (E d):=by
 unfold nS at c
 cases k:ops[j]? with
 |none=>rw[k]at c; cases c
 |some o =>
  rw[k]at c;simp only[zA4]at c
  have e:cG ops (bj N E ds) ⟨dst,g,ty,pos,after,ap (j,want)⟩=(match E d with
    |.bool b=>ap (b == want)
    |_=>ap gc):=by
   simp only[cG,k,c,xP N E ds d m];cases E d<;>rfl
  have n:cG ops (bj N E ds) ⟨dst,g,ty,pos,after,bi⟩=ap true:=rfl
  cases l:E d with
  |bool b =>
   rw[l]at e;simp only[jg];by_cases h:b=want
   .rw[if_pos h];have:(b == want)=true:=by simpa using h
    simp only[eV,e,this,n];exact EA
   .rw[if_neg h];have:(b == want)=false:=by simpa using h
    simp only[eV,e,this]
  |_=>rw[l]at e; simp only[eV,e,jg]
def Aw{anc:Nat}{O:List Nat}:ir anc [] O=True:=by simp[ir]
def vl{anc j n:Nat}{F W O:List Nat}:ir anc (⟨j,F,W,n,n⟩::fps) O=ir anc fps O:=by simp[ir]
end
end
def vD{anc:Nat}{fps:List Fp}:ir anc fps []=True:=by simp[ir]
def G4{k:IntKind}{n:Int}:ae (.int k n)=[]:=by simp only[ae]
def EE{b:Bool}:ae (kw b)=[]:=by simp only[ae]
def IZ{a:Addr}:ae (i9 (ap a))=[a.block]:=by simp only[ae]
def IW{l:List gt}:ae (.agg ⟨l⟩)=gH l:=by simp only[ae,sI]
def C3:gH []=[]:=by simp only[gH]
def A1{v:gt}{r:List gt}:gH (v::r)=ae v++gH r:=by simp only[gH]
section
variable{P:io}{H:aa}{N:Nat}{E:Env}{ds:List Deferred}{ops:Array Oper}{anc:List Nat}{d:Nat}{ty:ii}{pos:String}{after:Array Edge}{rest:List Oper}{i:Nat}{fps:List Fp}{Q:ai -> aa -> Prop}
def D1{x y:i4}{t:ii}(hx:bd P N x=bv)(c:bd P N y=bv)(e:d<N)(h:(gJ P t (bX E x) (bX E y)).isSome=bv):eV P ops anc (⟨ap d,.index t x y,ty,pos,after,bi⟩::rest) i fps (bj N E ds) H Q=nY P ops anc rest i fps N E ds d H Q (gJ P t (bX E x) (bX E y)):=by
 cases b:gJ P t (bX E x) (bX E y) with
 |none=>rw[b]at h; cases h
 |some v=>exact qx (x:=ap v) rfl (by simp only[cj,tJ,aD hx,aD c,zA1,zA4,o8,b]; rfl) e
end
def eF{α:Type}(d v w:α):∀(l:List α)(i:Nat),fP d (fP d l i v) i w=fP d l i w
 |[],0=>rfl
 |[],i+1=>by simp only[fP,eF d v w [] i]
 |_::_,0=>rfl
 |x::r,i+1=>by simp only[fP,eF d v w r i]
def jd{α:Type}(d v w:α):∀(l:List α)(i j:Nat),i≠j->fP d (fP d l i v) j w=fP d (fP d l j w) i v
 |[],0,0,h=>absurd rfl h
 |[],0,_+1,_=>rfl
 |[],_+1,0,_=>rfl
 |[],i+1,j+1,h=>by simp only[fP,jd d v w [] i j li]
 |_::_,0,0,h=>absurd rfl h
 |_::_,0,_+1,_=>rfl
 |_::_,_+1,0,_=>rfl
 |x::r,i+1,j+1,h=>by simp only[fP,jd d v w r i j li]
def BI(R:List (List (List (Option dw))))(n:Nat)(o o':Option dw):ek (ek R n o) n o'=ek R n o':=by simp only[ek,eH,if_true,eF]
def Cx(R:List (List (List (Option dw)))){n m:Nat}(o o':Option dw)(h:n≠m):ek (ek R n o) m o'=ek (ek R m o') n o:=by
 simp only[ek,eH];by_cases b:m / 256=n / 256
 .rw[if_pos b,if_pos b.symm];simp only[eH];by_cases c:m / 16 % 16=n / 16 % 16
  .rw[if_pos c,if_pos c.symm,b,c,eF,eF,eF,eF,jd bi o o' _ _ _ li]
  .rw[if_neg c,if_neg (fun e=>c e.symm),b,eF,eF,jd _ _ _ _ _ _ (fun e=>c e.symm)]
 .rw[if_neg b,if_neg (fun e=>b e.symm),jd _ _ _ _ _ _ (fun e=>b e.symm)]
def RV.L5(v:RV)(i:Nat)(x y:gt):(v.set i x).set i y=v.set i y:=by simp only[RV.F9,eH,if_true,eF]
def RV.set_comm(v:RV){i j:Nat}(x y:gt)(h:i≠j):(v.set i x).set j y=(v.set j y).set i x:=by
 simp only[RV.F9,eH];by_cases b:j / 16=i / 16
 .rw[if_pos b,if_pos b.symm,b,eF,eF,jd _ _ _ _ _ _ li]
 .rw[if_neg b,if_neg (fun e=>b e.symm),jd _ _ _ _ _ _ (fun e=>b e.symm)]
def RV.KG(l:List gt):∀(v:RV)(i j:Nat)(y:gt),j<i->(v.fk i l).set j y=(v.set j y).fk i l:=by
 induction l with
 |nil=>intros; rfl
 |cons x r b =>intro v i j y h;simp only[RV.fk];rw[b _ _ _ _ li,RV.set_comm _ _ _ li]
def cQ:List gt->Nat->List gt->List gt
 |[],_,_=>[]
 |x::r,0,[]=>x::r
 |_::r,0,y::ys=>y::cQ r 0 ys
 |x::r,k+1,vs=>x::cQ r k vs
def MU(l:List gt):cQ l 0 []=l:=by cases l<;>rfl
def jC:∀(l:List gt)(off:Nat)(vs:List gt),(cQ l off vs).length=l.length
 |[],_,_=>rfl
 |_::_,0,[]=>rfl
 |_::r,0,y::ys=>by simp only[cQ,zA3,jC r 0 ys]
 |x::r,k+1,vs=>by simp only[cQ,zA3,jC r k vs]
def oo:∀(l:List gt)(off:Nat)(vs:List gt),off+vs.length<=l.length->cQ l off vs=tI l off vs
 |[],off,vs,h=>by
  simp only[zB0]at h;have b:off=0:=by omega
  have c:vs=[]:=List.length_eq_zero_iff.1 li;subst b c; rfl
 |x::r,0,[],_=>by simp[cQ,tI]
 |x::r,0,y::ys,h=>by have:=oo r 0 ys (by simp only[zA3]at h; omega);simp only[tI,List.take_zero,zD0,zC6]at this;simp[cQ,tI,this]
 |x::r,k+1,vs,h=>by have:=oo r k vs (by simp only[zA3]at h; omega);rw[cQ,this];simp[tI,Nat.add_right_comm k 1 vs.length]
def RV.xl:∀(l:List gt)(v:RV)(k off:Nat)(vs:List gt),off+vs.length<=l.length->(v.fk k l).fk (k+off) vs=v.fk k (cQ l off vs)
 |[],v,k,off,vs,h=>by have c:vs=[]:=List.length_eq_zero_iff.1 (by simp only[zB0]at h; omega);subst c;rfl
 |x::r,v,k,0,[],_=>rfl
 |x::r,v,k,0,y::ys,h=>by have b:=RV.xl r (v.set k y) (k+1) 0 ys (by simp only[zA3]at h; omega);simp only[RV.fk,cQ,zD6]at b ⊢;rw[RV.KG _ _ _ _ _ (zD9 k),RV.L5];exact b
 |x::r,v,k,off+1,vs,h=>by have b:=RV.xl r (v.set k x) (k+1) off vs (by simp only[zA3]at h; omega);simp only[RV.fk,cQ];rw[show k+(off+1)=k+1+off by omega];exact b
def RV.K9(l:List gt):∀(t:List (List gt))(n m i:Nat),({RV.fk ⟨t,n⟩ i l with n:=m}:RV)=RV.fk ⟨t,m⟩ i l:=by
 induction l with
 |nil=>intros; rfl
 |cons x r b=>intro t n m i; simp only[RV.fk,RV.F9]; exact b _ n m _
def RV.Fa(l:List gt)(off:Nat)(vs:List gt)(h:off+vs.length<=l.length):(RV.ofList l).fk off vs=RV.ofList (cQ l off vs):=by rw[RV.ofList_eq,RV.ofList_eq];rw[RV.K9,RV.K9,jC];have:=RV.xl l ⟨[],l.length⟩ 0 off vs h;rw[zC6]at this;exact this
def RV.jG(l:List gt):(RV.ofList l).jJ 0 l.length=l:=by
 apply zG4;intro i;rw[RV.gl];by_cases hi:i<l.length
 .simp[hi,RV.cb,List.getD]
 .rw[zC5 (by simpa using hi),zC5 li]
structure Bl where
 e:ii
 o:Bool
 l:List gt
def Bl.obj(b:Bl):dw:=⟨.cells #[] b.e,b.o,RV.ofList b.l⟩
def ext(H:aa):List Bl->aa
 |[]=>H
 |b::r=>ext (nw H b.e b.l b.o) r
section
variable{P:io}{H:aa}{L:List Bl}
theorem ext_nil:ext H []=H:=rfl
def aA:∀ {L:List Bl} {H:aa},(ext H L).next=H.next+L.length
 |[],_=>rfl
 |b::r,H=>by rw[ext,aA,iF,zA3]; omega
def yG:∀ {L:List Bl} {H:aa},(ext H L).base=H.base
 |[],_=>rfl
 |b::r,H=>by rw[ext,yG,Hn]
def gm:∀ {L:List Bl} {H:aa},(ext H L).dirty=H.dirty
 |[],_=>rfl
 |b::r,H=>by rw[ext,gm,LA]
def bS:∀ {L:List Bl} {H:aa} {n:Nat},n<H.next->(ext H L).get n=H.get n
 |[],_,_,_=>rfl
 |b::r,H,n,h=>by rw[ext,bS (by rw[iF]; omega),NK _ _ _ li]
def eW:∀ {L:List Bl} {H:aa} {i:Nat},i<L.length->(ext H L).get (H.next+i)=L[i]?.map Bl.obj
 |[],_,_,h=>absurd h lw
 |b::r,H,0,_=>by rw[ext,bS (by rw[iF]; omega),nw,aa.fN,if_pos li];rfl
 |b::r,H,i+1,h=>by have:=eW (L:=r) (H:=nw H b.e b.l b.o) (i:=i) (by simpa using h);rw[iF]at this;rw[ext,show H.next+(i+1)=H.next+1+i by omega,this];simp
def oq:∀ {L:List Bl} {H:aa} {n:Nat},H.next+L.length<=n->(ext H L).get n=H.get n
 |[],_,_,_=>rfl
 |b::r,H,n,h=>by rw[zA3]at h;rw[ext,oq (by rw[iF]; omega),NK _ _ _ li]
def yy:∀ {L:List Bl} {H:aa} (e:ii) (l:List gt) (o:Bool),nw (ext H L) e l o=ext H (L++[⟨e,o,l⟩])
 |[],_,_,_,_=>rfl
 |b::r,H,e,l,o=>by rw[ext,yy,zG1,ext]
def kB:∀ {L M:List Bl} {H:aa},ext (ext H L) M=ext H (L++M)
 |[],_,_=>rfl
 |b::r,M,H=>by rw[ext,kB,zG1,ext]
def Pq{n:Nat}{o:Option dw}{x:dw}(h:n<H.next):(H.new x).cy n o=(H.cy n o).new x:=by simp only[aa.eD,aa.o5];rw[Cx _ _ _ (Nat.ne_of_gt h)]
def lH:∀ {L:List Bl} {H:aa} {n:Nat} {o:Option dw},n<H.next->(ext H L).cy n o=ext (H.cy n o) L
 |[],_,_,_,_=>rfl
 |b::r,H,n,o,h=>by rw[ext,lH (by rw[iF]; omega),ext];congr 1;exact Pq h
def IC{o x:dw}(h:H.base<=H.next):(H.new x).cy H.next (ap o)=H.new o:=by
 have:Nat.blt H.next H.base=false:=by
  cases b:Nat.blt H.next H.base with
  |false=>rfl
  |true=>have:=bO b; omega
 simp only[aa.eD,aa.o5,BI,this,zC8,if_false]
def vf:∀ {L:List Bl} {H:aa} {i:Nat} {b:Bl},H.base<=H.next->i<L.length->(ext H L).cy (H.next+i) (ap b.obj)=ext H (L.set i b)
 |[],_,_,_,_,h=>absurd h lw
 |c::r,H,0,b,g,_=>by rw[ext,lH (by rw[iF]; omega),List.set_cons_zero,ext];congr 1;exact IC g
 |c::r,H,i+1,b,g,h=>by have:=vf (L:=r) (H:=nw H c.e c.l c.o) (i:=i) (b:=b) (by rw[iF,Hn]; omega) (by simpa using h);rw[iF]at this;rw[ext,show H.next+(i+1)=H.next+1+i by omega,this,List.set_cons_succ,ext]
def bk(H:aa)(n:Nat):Option Bl:=(bI H n).map fun x=>⟨x.2.1,x.2.2,x.1.jJ 0 x.1.n⟩
def aO{H G:aa}{n:Nat}(h:H.get n=G.get n):bk H n=bk G n:=by simp only[bk,bI,h]
def fI{n:Nat}{b:Bl}(h:bk H n=ap b):H.get n≠none:=by intro c;simp[bk,bI,c]at h
def qJ{n:Nat}{b:Bl}(h:bk H n=ap b):Q0 H n b.e b.o b.l:=by
 unfold bk at h
 cases c:bI H n with
 |none=>rw[c]at h; cases h
 |some x =>rw[c]at h;obtain⟨rv,e,o⟩:=x;cases h;exact⟨rv,c,by simp,fun i hi=>by rw[RV.length_gets]at hi; rw[RV.pX _ _ _ _ hi,zC6]⟩
def QO{n:Nat}{e:ii}{o:Bool}{l:List gt}(h:Q0 H n e o l):bk H n=ap ⟨e,o,l⟩:=by obtain⟨rv,c,b,g⟩:=h;simp only[bk,c,zB1];rw[b,Q0.jJ b g 0 l.length li];simp
def iI{n:Nat}(h:n<H.next):bk (ext H L) n=bk H n:=aO (bS h)
def QA{b i:Nat}(h:H.next=b):bk (ext H L) (b+i)=if i<L.length then L[i]? else bk H (b+i):=by
 subst h;by_cases hi:i<L.length
 .rw[if_pos hi];simp only[bk,bI,eW hi];rw[zB3 hi];simp only[zB1,Bl.obj,RV.n_ofList,RV.jG]
 .rw[if_neg hi];exact aO (oq li)
def qk(H:aa)(n:Nat):Option Bl :=
 match H.get n with
 |some ⟨.cells _ e (_+1,_),o,v⟩=>ap ⟨e,o,v.jJ 0 v.n⟩
 |_=>bi
def CW:Option Bl->Option Bl->Option Bl
 |some b,_=>ap b
 |none,x=>x
theorem gN{b:Bl}{x:Option Bl}:CW (ap b) x=ap b:=rfl
abbrev rk(H:aa)(n:Nat):Option Bl:=CW (bk H n) (qk H n)
def MK{H G:aa}{n:Nat}(h:H.get n=G.get n):qk H n=qk G n:=by simp only[qk,h]
def oF{H G:aa}{n:Nat}(h:H.get n=G.get n):rk H n=rk G n:=by simp only[rk,aO h,MK h]
def ma{n:Nat}{b:Bl}(h:bk H n=ap b):rk H n=ap b:=by simp only[rk,h,CW]
def Iq{n:Nat}:rk H n=(cM H n).map fun x=>⟨x.2.1,x.2.2,x.1.jJ 0 x.1.n⟩:=by
 unfold rk bk qk bI cM
 cases H.get n with
 |none=>rfl
 |some o =>
  obtain⟨b,h,v⟩:=o
  cases b with
  |cells c e f =>obtain⟨k,g⟩:=f;cases k<;>rfl
  |_=>rfl
def NL{n:Nat}{b:Bl}(h:rk H n=ap b):H.get n≠none:=by intro c;rw[Iq]at h;simp[cM,c]at h
def MF{n:Nat}{b:Bl}(h:rk H n=ap b):∃ rv,cM H n=ap (rv,b.e,b.o)/\rv.n=b.l.length/\∀ i,i<b.l.length->rv.get i=b.l.getD i undef:=by
 rw[Iq]at h
 cases c:cM H n with
 |none=>rw[c]at h; cases h
 |some x =>rw[c]at h;obtain⟨rv,e,o⟩:=x;cases h;exact⟨rv,rfl,by simp,fun i hi=>by rw[RV.length_gets]at hi; rw[RV.pX _ _ _ _ hi,zC6]⟩
def gE{n:Nat}(h:n<H.next):qk (ext H L) n=qk H n:=MK (bS h)
def Qh{n:Nat}(h:n<H.next):rk (ext H L) n=rk H n:=oF (bS h)
def rl(P:io)(t:ii)(off:Nat):Option Bl->Option gt
 |none=>bi
 |some b=>(match ey P t with
  |some bv=>(bg P t).bind fun sz=>if off+sz<=b.l.length then ap (.agg ⟨(b.l.drop off).take sz⟩) else bi
  |some gc=>b.l[off]?
  |none=>bi)
def Hd{t:ii}{n off:Nat}:fR P H t (i9 (ap ⟨n,off,bi⟩))=rl P t off (CW (bk H n) (qk H n)):=by
 show _=rl P t off (rk H n)
 cases g:rk H n with
 |none =>
  have:cM H n=none:=by rw[Iq]at g;simpa using g
  simp only[fR,this,rl,zA1,Option.bind_none]
 |some b =>
  have c:=MF g;simp only[rl];obtain⟨rv,k,m,j⟩:=c;simp only[fR,k,zA1,zA4]
  cases ey P t with
  |none=>rfl
  |some x =>
   cases x with
   |false =>
    simp only[zA4];by_cases h:off<b.l.length
    .rw[if_pos (bx li),j off h];simp[List.getD,h]
    .rw[if_neg (fun e=>h (by have:=bO e; omega)),zC5 li]
   |true =>
    simp only[zA4]
    cases bg P t with
    |none=>rfl
    |some sz =>
     simp only[zA4];by_cases h:off+sz<=b.l.length
     .rw[if_pos (by rw[zE2]; omega),if_pos h,Q0.jJ m j off sz h]
     .rw[if_neg (by rw[zE2]; omega),if_neg h]
def lL{t e:ii}{o:Bool}{l:List gt}{off:Nat}(h:ey P t=ap gc):rl P t off (ap ⟨e,o,l⟩)=l[off]?:=by simp only[rl,h]
def zk{t e:ii}{o:Bool}{l:List gt}{off:Nat}(h:ey P t=ap bv):rl P t off (ap ⟨e,o,l⟩)=(bg P t).bind fun sz=>if off+sz<=l.length then ap (.agg ((l.drop off).take sz).toArray) else none:=by simp only[rl,h]
structure WF (P:io) (H:aa):Prop where
 base:H.base<=H.next
 glob:P.globals.size<=H.next
 dom:∀ n o,H.get n=ap o->n<H.next/\ki H.next o
def WF.lt(w:WF P H){n:Nat}{b:Bl}(h:bk H n=ap b):n<H.next:=by
 cases c:H.get n with
 |none=>exact absurd c (fI h)
 |some o=>exact (w.dom n o c).1
def et{e:ii}{l:List gt}{o:Bool}(h:aX (H.next+L.length) l=bv):cH (ext H L) e l o=ap (ext H (L++[⟨e,o,l⟩])):=by rw[CJ (by rw[aA]; exact h),yy]
def AP{b i off:Nat}{vs:List gt}{e:ii}{o:Bool}{l:List gt}(k:H.next=b)(m:H.base<=H.next)(hi:L[i]?=ap ⟨e,o,l⟩)(c:off+vs.length<=l.length)(p:vs.all one=bv)(q:aX (b+L.length) vs=bv) :
  dX (ext H L) (b+i) off vs=ap (ext H (L.set i ⟨e,o,cQ l off vs⟩)):=by
 subst k
 have g:i<L.length:=by
  rcases zC2 i L.length with h|h
  .exact h
  .rw[zC5 h]at hi; cases hi
 have r:bI (ext H L) (H.next+i)=ap (RV.ofList l,e,o):=by simp only[bI,eW g,hi,zB1,Bl.obj]
 have j:Nat.ble (off+vs.length) (RV.ofList l).n=true:=by rw[zE2]; exact c
 simp only[dX,r,zA1,zA4,j,p,aA,q,zD8,if_true];rw[RV.Fa l off vs c];exact congrArg ap (vf (b:=⟨e,o,cQ l off vs⟩) m g)
def uw(H:aa)(n off:Nat)(vs:List gt):aa :=
 match bI H n with
 |some (rv,e,o)=>H.cy n (ap ⟨.cells #[] e,o,rv.fk off vs⟩)
 |none=>H
def bE{n off:Nat}{vs:List gt}:(uw H n off vs).next=H.next:=by unfold uw; split<;>rfl
def OQ{n off:Nat}{vs:List gt}:(uw H n off vs).base=H.base:=by unfold uw; split<;>rfl
def KP{n off:Nat}{vs:List gt}{m:Nat}(h:m∈(uw H n off vs).dirty):m∈H.dirty\/(m=n/\n<H.base):=by
 unfold uw at h;split at h
 .simp only[aa.eD]at h;split at h
  .rename_i b;rcases zA9.1 h with h|h
   .exact .inr ⟨h,bO b⟩
   .exact .inl h
  .exact .inl h
 .exact .inl h
def fD{n off:Nat}{vs:List gt}{m:Nat}(h:m≠n):(uw H n off vs).get m=H.get m:=by
 unfold uw;split
 .rw[aa.fg,if_neg h]
 .rfl
def eJ{n m off:Nat}{vs:List gt}(h:m≠n):bk (uw H n off vs) m=bk H m:=aO (fD h)
def Oy(off:Nat)(vs:List gt)(b:Bl):Bl:=⟨b.e,b.o,cQ b.l off vs⟩
theorem r6{off:Nat}{vs:List gt}{e:ii}{o:Bool}{l:List gt}:Oy off vs ⟨e,o,l⟩=⟨e,o,cQ l off vs⟩:=rfl
def yQ:∀(l:List gt)(off:Nat)(vs:List gt)(j:Nat),j<l.length->(cQ l off vs)[j]?=if off<=j/\j<off+vs.length then vs[j-off]? else l[j]?
 |[],_,_,j,h=>absurd h lw
 |x::r,0,[],j,_=>by simp only[cQ,zB0,zD6]; rw[if_neg li]
 |x::r,0,y::ys,0,_=>by simp[cQ]
 |x::r,0,y::ys,j+1,h=>by have:=yQ r 0 ys j (by simpa using h);simp only[cQ,zG6,zA3,zC6,zB7,true_and,Nat.add_lt_add_iff_right,Nat.sub_zero]at this ⊢;exact this
 |x::r,k+1,vs,0,_=>by simp[cQ]
 |x::r,k+1,vs,j+1,h=>by have:=yQ r k vs j (by simpa using h);simp only[cQ,zG6,Nat.add_le_add_iff_right,Nat.add_right_comm k 1,Nat.add_lt_add_iff_right,Nat.add_sub_add_right];exact this
def bR{n off:Nat}{vs:List gt}:bk (uw H n off vs) n=(bk H n).map (Oy off vs):=by
 unfold bk
 cases c:bI H n with
 |none=>simp[uw,c]
 |some x =>
  obtain⟨rv,e,o⟩:=x;have g:uw H n off vs=H.cy n (ap ⟨.cells #[] e,o,rv.fk off vs⟩):=by simp only[uw,c]
  have h:bI (uw H n off vs) n=ap (rv.fk off vs,e,o):=by rw[g]; simp[bI,aa.fg]
  rw[h];simp only[zB1,Oy,RV.pA];congr 2;apply zG4;intro j;by_cases b:j<rv.n
  .rw[yQ _ _ _ _ (by simpa using b),RV.gl,RV.gl];simp only[zE1,List.getElem?_range b,zB1,zC6,RV.lR];split
   .rename_i k;rw[zB3 li];simp[List.getD,zB3 (show j-off<vs.length by omega)]
   .rfl
  .rw[zC5 (by simpa using b),zC5 (by rw[jC]; simpa using b)]
def me{n off:Nat}{vs:List gt}{b:Bl}(g:n<H.next)(h:bk H n=ap b)(j:off+vs.length<=b.l.length)(m:vs.all one=bv)(p:aX (H.next+L.length) vs=bv) :
  dX (ext H L) n off vs=ap (ext (uw H n off vs) L):=by
 obtain⟨rv,k,q,_⟩:=qJ h;have c:bI (ext H L) n=ap (rv,b.e,b.o):=by rw[<-k]; simp only[bI,bS g]
 have r:Nat.ble (off+vs.length) rv.n=true:=by rw[zE2]; omega
 simp only[dX,c,zA1,zA4,r,m,aA,p,zD8,if_true];rw[lH g];simp only[uw,k]
def sQ(P:io)(t:ii)(N off:Nat)(v:gt):Option Bl->Option Bl
 |some ⟨e,o,l⟩=>if bg P t=ap v.cells.toList.length/\off+v.cells.toList.length<=l.length/\v.cells.toList.all one=bv/\aX N v.cells.toList=bv then ap ⟨e,o,cQ l off v.cells.toList⟩ else bi
 |none=>bi
def nA{t e:ii}{o:Bool}{l:List gt}{N off:Nat}{v:gt}(b:bg P t=ap v.cells.toList.length)(c:off+v.cells.toList.length<=l.length)(g:v.cells.toList.all one=bv)(h:aX N v.cells.toList=bv) :
  sQ P t N off v (ap ⟨e,o,l⟩)=ap ⟨e,o,cQ l off v.cells.toList⟩:=by simp only[sQ,b,c,g,h,and_self,if_true]
def yq{n off:Nat}{vs:List gt}{rv:RV}{e:ii}{o:Bool}(c:bI H n=ap (rv,e,o))(h:¬(off+vs.length<=rv.n/\vs.all one=bv/\aX H.next vs=bv)):dX H n off vs=none:=by simp only[dX,c,zA1,zA4];rw[if_neg];intro b;simp only[zA7,zE2]at b;exact h ⟨b.1.1,b.1.2,b.2⟩
def Bo{t:ii}{b i off:Nat}{v:gt}(j:H.next=b)(k:H.base<=H.next)(hi:i<L.length) :
  fa P (ext H L) t (i9 (ap ⟨b+i,off,bi⟩)) v=(sQ P t (b+L.length) off v L[i]?).map fun x=>ext H (L.set i x):=by
 obtain⟨⟨e,o,l⟩,hL⟩:∃ x,L[i]?=ap x:=⟨_,zB3 hi⟩
 rw[hL];simp only[sQ];split
 .rename_i c;simp only[fa,c.1,zA1,zA4,if_true,zB1];exact AP j k hL c.2.1 c.2.2.1 c.2.2.2
 .rename_i c;simp only[fa,zA1,Option.map_none]
  cases g:bg P t with
  |none=>rfl
  |some sz =>
   simp only[zA4];split
   .rename_i m;subst j;refine yq (rv:=RV.ofList l) (e:=e) (o:=o) (by simp only[bI,eW hi,hL,zB1,Bl.obj]) ?_;rw[aA];exact fun h=>c ⟨by rw[g,m],h.1,h.2.1,h.2.2⟩
   .rfl
def A2{t:ii}{n off:Nat}{v:gt}(g:n<H.next) :
  fa P (ext H L) t (i9 (ap ⟨n,off,bi⟩)) v=(sQ P t (H.next+L.length) off v (bk H n)).map fun _=>ext (uw H n off v.cells.toList) L:=by
 cases b:bk H n with
 |none =>
  have:bI H n=none:=by unfold bk at b; simpa using b
  have h:bI (ext H L) n=none:=by rw[<-this]; simp only[bI,bS g]
  simp only[fa,sQ,zA1,Option.map_none]
  cases bg P t with
  |none=>rfl
  |some sz=>simp only[zA4,dX,h,zA1,Option.bind_none,ite_self]
 |some q =>
  obtain⟨e,o,l⟩:=q;simp only[sQ];split
  .rename_i c;simp only[fa,c.1,zA1,zA4,if_true,zB1];exact me g b c.2.1 c.2.2.1 c.2.2.2
  .rename_i c;simp only[fa,zA1,Option.map_none]
   cases j:bg P t with
   |none=>rfl
   |some sz =>
    simp only[zA4];split
    .rename_i r;obtain⟨rv,k,m,_⟩:=qJ b;refine yq (rv:=rv) (e:=e) (o:=o) (by rw[<-k]; simp only[bI,bS g]) ?_;rw[aA,m];exact fun p=>c ⟨by rw[j,r],p.1,p.2.1,p.2.2⟩
    .rfl
end
def RO(σ:Nat->Nat):Fn->Fn
 |.yield l=>.yield (σ l)
 |f=>f
mutual
def kO(σ:Nat->Nat):gt->gt
 |i9 (ap a)=>i9 (ap ⟨σ a.block,a.off,a.spot⟩)
 |jp (ap a) len cap=>jp (ap ⟨σ a.block,a.off,a.spot⟩) len cap
 |.map (ap r)=>.map (ap (σ r))
 |.func f a b=>.func (RO σ f) (Py σ a) (Py σ b)
 |.iface t v=>.iface t (kO σ v)
 |.agg cs=>.agg (Py σ cs)
 |.tuple cs=>.tuple (Py σ cs)
 |.bool b=>.bool b
 |.int k n=>.int k n
 |.float k b=>.float k b
 |.complex k a b=>.complex k a b
 |.string s=>.string s
 |i9 bi=>i9 bi
 |jp bi len cap=>jp bi len cap
 |.map bi=>.map bi
 |.chan bi=>.chan bi
 |.chan (ap k)=>.chan (ap (σ k))
 |.nilFunc=>.nilFunc
 |.nilIface=>.nilIface
def Py(σ:Nat->Nat):Array gt->Array gt
 |⟨l⟩=>⟨QY σ l⟩
def QY(σ:Nat->Nat):List gt->List gt
 |[]=>[]
 |v::r=>kO σ v::QY σ r
end
def Ren.comp(ρ:Ren)(σ:Nat->Nat):Ren:=⟨fun n=>ρ.blk (σ n),fun n=>ρ.sh (σ n),fun n=>ρ.ex (σ n),fun n=>ρ.op (σ n),fun n=>ρ.op1 (σ n)⟩
def Ou(ρ:Ren)(σ:Nat->Nat)(f:Fn):ρ.fn (RO σ f)=(ρ.comp σ).fn f:=by cases f<;>rfl
mutual
def rM(ρ:Ren)(σ:Nat->Nat):∀ v,ρ.val (kO σ v)=(ρ.comp σ).val v
 |.bool _=>by rw[kO,Ren.val,Ren.val]
 |.int _ _=>by rw[kO,Ren.val,Ren.val]
 |.float _ _=>by rw[kO,Ren.val,Ren.val]
 |.complex _ _ _=>by rw[kO,Ren.val,Ren.val]
 |.string _=>by rw[kO,Ren.val,Ren.val]
 |i9 bi=>by rw[kO,Ren.val,Ren.val]
 |i9 (ap a)=>by rw[kO,Ren.val,Ren.val]; rfl
 |jp bi _ _=>by rw[kO,Ren.val,Ren.val]
 |jp (ap a) _ _=>by rw[kO,Ren.val,Ren.val]; rfl
 |.map bi=>by rw[kO,Ren.val,Ren.val]
 |.map (ap r)=>by rw[kO,Ren.val,Ren.val]; rfl
 |.chan bi=>by rw[kO,Ren.val,Ren.val]
 |.chan (ap k)=>by rw[kO,Ren.val,Ren.val]; rfl
 |.func f a b=>by rw[kO,Ren.val,Ren.val,pK ρ σ a,pK ρ σ b,Ou]
 |.nilFunc=>by rw[kO,Ren.val,Ren.val]
 |.iface t v=>by rw[kO,Ren.val,Ren.val,rM ρ σ v]
 |.nilIface=>by rw[kO,Ren.val,Ren.val]
 |.agg cs=>by rw[kO,Ren.val,Ren.val,pK ρ σ cs]
 |.tuple cs=>by rw[kO,Ren.val,Ren.val,pK ρ σ cs]
def pK(ρ:Ren)(σ:Nat->Nat):∀ c,ρ.eC (Py σ c)=(ρ.comp σ).eC c
 |⟨l⟩=>by rw[Py,Ren.eC,Ren.eC,Aa ρ σ l]
def Aa(ρ:Ren)(σ:Nat->Nat):∀ l,ρ.gI (QY σ l)=(ρ.comp σ).gI l
 |[]=>rfl
 |v::r=>by rw[QY,Ren.gI,Ren.gI,rM ρ σ v,Aa ρ σ r]
end
mutual
def vP{σ:Nat->Nat}{N:Nat}(h:∀ n,n<N->σ n=n):∀ v,aV N v=bv->kO σ v=v
 |.bool _,_=>by rw[kO]
 |.int _ _,_=>by rw[kO]
 |.float _ _,_=>by rw[kO]
 |.complex _ _ _,_=>by rw[kO]
 |.string _,_=>by rw[kO]
 |i9 bi,_=>by rw[kO]
 |i9 (ap a),c=>by have e:=bO (by simpa[aV]using c);simp only[kO,h _ e]
 |jp bi _ _,_=>by rw[kO]
 |jp (ap a) _ _,c=>by have e:=bO (by simpa[aV]using c);simp only[kO,h _ e]
 |.map bi,_=>by rw[kO]
 |.map (ap r),c=>by have e:=bO (by simpa[aV]using c);simp only[kO,h _ e]
 |.chan bi,_=>by rw[kO]
 |.chan (ap k),c=>by have e:=bO (by simpa[aV]using c);simp only[kO,h _ e]
 |.func f a b,c=>by
  cases f with
  |yield l =>simp only[aV,zA7]at c;simp only[kO,RO,h _ (bO c.1.1),pG h a c.1.2,pG h b c.2]
  |_ =>simp only[aV,zA7]at c;simp only[kO,RO,pG h a c.1,pG h b c.2]
 |.nilFunc,_=>by rw[kO]
 |.iface t v,c=>by rw[kO,vP h v (by simpa[aV]using c)]
 |.nilIface,_=>by rw[kO]
 |.agg cs,c=>by rw[kO,pG h cs (by simpa[aV]using c)]
 |.tuple cs,c=>by rw[kO,pG h cs (by simpa[aV]using c)]
def pG{σ:Nat->Nat}{N:Nat}(h:∀ n,n<N->σ n=n):∀ c,eU N c=bv->Py σ c=c
 |⟨l⟩,b=>by rw[Py,Ia h l (by simpa[eU]using b)]
def Ia{σ:Nat->Nat}{N:Nat}(h:∀ n,n<N->σ n=n):∀ l,aX N l=bv->QY σ l=l
 |[],_=>rfl
 |v::r,b=>by simp only[aX,zA7]at b;rw[QY,vP h v b.1,Ia h r b.2]
end
def Bz(σ:Nat->Nat)(g b:dw):Prop :=
 (∃ c e k z h j,g.obj=.cells c e (k,z)/\b.obj=.cells h e (k,j))/\g.opn=b.opn/\g.rv.n=b.rv.n/\∀ i,i<b.rv.n->g.rv.get i=kO σ (b.rv.get i)
def Ot{P:io}{ρ:Ren}{σ:Nat->Nat}{n:Nat}{b g:dw}{o':Obj}(h:Fits P ρ (σ n) b o')(m:Bz σ b g):Fits P (ρ.comp σ) n g o':=by
 obtain⟨⟨c,e,k,z,t,v,o,p⟩,h3,h4,h5⟩:=m;unfold Fits at h ⊢;rw[o]at h;rw[p];obtain⟨d,q,r,s,j,l⟩:=h;refine⟨d,q,r,fun i hi=>?_,?_,?_⟩
 .have:=s i li;rw[h5 i hi,rM]at this;exact this
 .rw[h3,h4]at j;exact j
 .rw[h3,h4]at l;exact l
def Qm{σ:Nat->Nat}{g h:dw}(n:Bz σ g h):PR h=PR g:=by obtain⟨⟨c,e,k,z,o,p,j,l⟩,m,_⟩:=n;obtain⟨a,b,d⟩:=g;obtain⟨q,r,s⟩:=h;simp only at j l m;subst j l m;cases k<;>cases b<;>rfl
section
variable{P:io}{H H1 H2:aa}{f:FuncId}{args:List gt}
structure Rn (σ:Nat->Nat) (H H1 H2:aa):Prop where
 low:∀ n,n<H.next->σ n=n
 next:H.next<=H2.next
 base:H2.base=H.base
 dirty:∀ n,n∈H.dirty->n∈H2.dirty
 dirt1:∀ n,n∈H1.dirty->n∈H2.dirty
 get:∀ n o2,H2.get n=ap o2->(n<H.next/\H.get n=ap o2/\H1.get n=ap o2) \/
  (n<H2.next/\ki H2.next o2/\(n<H.base->n∈H2.dirty)/\(n<H.next->H.get n≠bi)/\(H.next<=n->H.next<=σ n)/\∃ o1,H1.get (σ n)=ap o1/\Bz σ o1 o2)
 jZ:∀ n,n<H.base->H2.get n=bi->H.get n=bi\/n∈H2.dirty
 inj:∀ m n,H2.get m≠bi->H2.get n≠bi->σ m=σ n->m=n
 ro:∀ n,Fz (H.get n)->(n∈H2.dirty->n∈H.dirty\/n∈H1.dirty)/\(H1.get n=H.get n->H2.get n=H.get n)
def Me{N M:Nat}(h:N<=M){o:dw}(b:ki N o):ki M o:=by
 unfold ki at *
 split at b
 .exact fun i hi=>cS h _ (b i hi)
 .exact fun e c=>⟨(b e c).1,cS h _ (b e c).2⟩
 .exact⟨by omega,fun i hi=>cS h _ (b.2 i hi)⟩
 .trivial
def Rel.wf{ρ:Ren}{w:ip}(r:Rel P ρ H w):WF P H:=⟨r.base,r.glob.1,r.dom⟩
def Rn.st{σ:Nat->Nat}{ρ t:Ren}{w w1:ip}(c:Rn σ H H1 H2)(r:Rel P ρ H w)(s:St P ρ H w t H1 w1):St P ρ H w (t.comp σ) H2 w1:=by
 have v:Ext H.next t (t.comp σ):=⟨fun n j=>by simp only[Ren.comp,c.low n j],fun n j=>by simp only[Ren.comp,c.low n j],fun n j=>by simp only[Ren.comp,c.low n j],fun n j=>by simp only[Ren.comp,c.low n j]⟩
 have D:∀ n,H2.get n≠bi->H1.get (σ n)≠none:=by
  intro n j
  cases k:H2.get n with
  |none=>exact absurd k j
  |some l =>
   rcases c.get n l k with⟨e,_,p⟩|⟨_,_,_,_,_,F,p,_⟩
   .rw[c.low n e,p]; simp
   .rw[p]; simp
 refine⟨s.ext.trans v (zA5 _),⟨c.next,c.base,c.dirty,fun n A B=>?_,fun n j q=>?_⟩,⟨?_,?_,?_,?_,?_⟩,s.os,s.tape,s.output,s.size,?_,?_,fun n C=>?_⟩
 .cases k:H2.get n with
  |none =>
   rcases c.jZ n A k with h|h
   .rw[h]
   .exact absurd h B
  |some l =>
   rcases c.get n l k with⟨_,h,_⟩|⟨_,_,h,_⟩
   .rw[h]
   .exact absurd (h A) B
 .cases k:H2.get n with
  |none=>rfl
  |some l =>
   rcases c.get n l k with⟨_,h,_⟩|⟨_,_,_,h,_⟩
   .rw[q]at h; cases h
   .exact absurd q (h j)
 .have:=r.base; have:=c.next; rw[c.base]; omega
 .refine⟨zC7 r.glob.1 c.next,fun g q=>?_⟩;have e:g<H.next:=zD1 q r.glob.1;have:=s.rel.glob.2 g q;simp only[Ren.comp,c.low g e];exact this
 .intro m n z j M
  have back:∀ m,H2.get m≠bi->Fz (H1.get (σ m))->Fz (H2.get m):=fun m z C=>by
   cases k:H2.get m with
   |none=>exact absurd k z
   |some l =>
    obtain⟨o,x,y⟩:=C
    rcases c.get m l k with⟨e,_,p⟩|⟨_,_,_,_,_,F,p,G⟩
    .rw[c.low m e,p]at x;cases x;exact⟨_,rfl,y⟩
    .rw[p]at x;cases x;exact⟨_,rfl,(Qm G).trans y⟩
  exact (s.rel.inj _ _ (D m z) (D n j) M).imp (c.inj m n z j) fun⟨a,b⟩=>⟨back m z a,back n j b⟩
 .intro n l k
  rcases c.get n l k with⟨e,h,_⟩|⟨p,I,_⟩
  .exact⟨zD1 e c.next,Me c.next (r.dom n l h).2⟩
  .exact⟨p,I⟩
 .intro n l k
  rcases c.get n l k with⟨e,h,p⟩|⟨_,_,_,_,_,F,p,G⟩
  .obtain⟨o',x,y⟩:=s.rel.obj n l p;exact⟨o',by simp only[Ren.comp,c.low n e]; exact x,y.ext e (r.dom n l h).2 v⟩
  .obtain⟨o',x,y⟩:=s.rel.obj (σ n) F p;exact⟨o',x,Ot y G⟩
 .intro b A O;exact s.old b A fun n j B q=>O n j (B.imp id (c.dirt1 n)) q
 .intro n j q
  have J:H.next<=σ n:=by
   cases k:H2.get n with
   |none=>exact absurd k q
   |some l =>
    rcases c.get n l k with⟨e,_⟩|⟨_,_,_,_,h,_⟩
    .omega
    .exact h j
  rcases s.fresh (σ n) J (D n q) with h|⟨m,p,k,R,S⟩
  .exact .inl h
  .exact .inr ⟨m,p,k,R.imp id (c.dirt1 m),S⟩
 .obtain⟨a,b⟩:=c.ro n C;obtain⟨T,U⟩:=s.ro n C;exact⟨fun h=>(a h).elim id T,b U⟩
def br.rn{σ:Nat->Nat}{v:gt}(h:br P f args H (.ok (kO σ v)) H1)(c:WF P H->Rn σ H H1 H2)(g:aV H2.next v=bv):br P f args H (.ok v) H2:=by intro ρ w r b F n R j k;refine h ρ w r b F n R j fun e w1 s _=>?_;have:=k (e.comp σ) w1 ((c r.wf).st r s) g;rw[rM];exact this
def Rn.drop{L:List Bl}(w:WF P H):Rn id H (ext H L) H where
 low:=fun _ _=>rfl
 next:=zA5 _
 base:=rfl
 dirty:=fun _ h=>h
 dirt1:=fun n h=>by rw[gm]at h; exact h
 get:=fun n b h=>.inl ⟨(w.dom n b h).1,h,by rw[bS (w.dom n b h).1,h]⟩
 jZ:=fun n _ h=>.inl h
 inj:=fun m n _ _ h=>h
 ro:=fun n _=>⟨.inl,fun _=>rfl⟩
def Qv{N:Nat}{v:gt}(h:aV N v=bv):kO id v=v:=vP (fun _ _=>rfl) v h
def br.drop{L:List Bl}{v:gt}(h:br P f args H (.ok v) (ext H L))(b:aV H.next v=bv):br P f args H (.ok v) H:=by refine br.rn (σ:=id) (H1:=ext H L) ?_ Rn.drop b;rw[Qv b]; exact h
def Fin(P:io)(f:FuncId)(args:List gt)(H:aa)(v:gt)(H2:aa):Out->aa->Prop:=fun out H1=>br P f args H out H1->br P f args H (.ok v) H2
def Fin.pure{L:List Bl}{v:gt}(b:aV H.next v=bv):Fin P f args H v H (.ok v) (ext H L):=fun h=>h.drop b
def Fin.cq{L:List Bl}{v b:gt}(c:b=v)(e:aV H.next v=bv):Fin P f args H v H (.ok b) (ext H L):=by rw[c]; exact Fin.pure e
def ba(b:P.follows .mixedOrders=bv){fn:Func}{c:Code}{N:Nat}{v:gt}(g:P.funcs[f]?=ap fn)(k:fn.body=ap c)(l:fn.ntmps=N)(j:args.length<=N)
  (h:WF P H->aX H.next args=bv->gO P bi c (NC P fn (Fin P f args H v H2)) (bj N (fq Oj 0 args) []) (ext H [])):br P f args H (.ok v) H2:=by
 intro ρ w r e;obtain⟨out,H1,m,n⟩:=D7 b g k l j (h r.wf e);exact n m ρ w r e
def aH(b:P.follows .mixedOrders=bv){fn:Func}{c:Code}{N:Nat}{R:Out->aa->Prop}(e:P.funcs[f]?=ap fn)(j:fn.body=ap c)(k:fn.ntmps=N)(g:args.length<=N)
  (h:gO P bi c (NC P fn R) (bj N (fq Oj 0 args) []) (ext H [])):aL P f args H R:=D7 b e j k g h
def br.to{v:gt}{R:Out->aa->Prop}(h:br P f args H (.ok v) H1)(k:R (.ok v) H1):aL P f args H R:=⟨_,_,h,k⟩
end
section
variable{P:io}{ro:Option Nat}{H:aa}{L:List Bl}{N:Nat}{E:Env}{ds:List Deferred}
def wH(R:Out->aa->Prop)(H:aa):Option (List gt)->Prop
 |some vs=>R (.ok (BS vs)) H
 |none=>False
def vz{R:Out->aa->Prop}{vs:List gt}:wH R H (ap vs)=R (.ok (BS vs)) H:=by simp only[wH]
def MP{fn:Func}{a:ai}{R:Out->aa->Prop}:je P fn a [] .returning H R=wH R H (dH P H a fn.results.toList):=by
 simp only[je]
 cases dH P H a fn.results.toList with
 |none=>simp[wH]
 |some vs=>simp[wH]
def ME:dH P H (bj N E ds) []=ap []:=by simp only[dH]
def L0{t:Nat}{rs:List ResultVar}(b:t<N):dH P H (bj N E ds) (.tmp t::rs)=(dH P H (bj N E ds) rs).map (E t::·):=by simp only[dH,zA1,xP N E ds t b];cases dH P H (bj N E ds) rs<;>rfl
def HP{t:Nat}{u:ii}{rs:List ResultVar}(b:t<N):dH P H (bj N E ds) (.cell t u::rs)=(fR P H u (E t)).bind fun v=>(dH P H (bj N E ds) rs).map (v::·):=by
 simp only[dH,zA1,xP N E ds t b]
 cases fR P H u (E t) with
 |none=>rfl
 |some v=>cases dH P H (bj N E ds) rs<;>rfl
def I6:BS []=.tuple ⟨[]⟩:=by simp only[BS]
def Is{v:gt}:BS [v]=v:=by simp only[BS]
def HD{v u:gt}{r:List gt}:BS (v::u::r)=.tuple ⟨v::u::r⟩:=by simp only[BS]
def Bc{k:IntKind}{n:Int}:(Value.int k n).cells.toList=[.int k n]:=by simp only[Value.cells]
def xu{b:Bool}:(Value.bool b).cells.toList=[kw b]:=by simp only[Value.cells]
def uB{a:Option Addr}{n c:Nat}:(Value.slice a n c).cells.toList=[.slice a n c]:=by simp only[Value.cells]
def kr{l:List gt}:(Value.agg ⟨l⟩).cells.toList=l:=by simp only[Value.cells]
def xv:([]:List gt).all one=true:=by simp only[List.all_nil]
def vt{v:gt}{l:List gt}:(v::l).all one=(one v&&l.all one):=by simp only[List.all_cons]
def HM{k:IntKind}{n:Int}:one (.int k n)=true:=by simp only[one]
def DG{b:Bool}:one (kw b)=true:=by simp only[one]
def zJ{a:Option Addr}{n c:Nat}:one (.slice a n c)=true:=by simp only[one]
def xx{s:ByteArray}:one (.string s)=true:=by simp only[one]
def Ez{f:Fn}{a b:Array gt}:one (.func f a b)=true:=by simp only[one]
def KK{M:Nat}:aX M []=true:=by simp only[aX]
def HA{M:Nat}{v:gt}{l:List gt}:aX M (v::l)=(aV M v&&aX M l):=by simp only[aX]
def MA{M:Nat}{k:IntKind}{n:Int}:aV M (.int k n)=true:=by simp only[aV]
def Im{M:Nat}{b:Bool}:aV M (kw b)=true:=by simp only[aV]
def zM{M:Nat}{s:ByteArray}:aV M (.string s)=true:=by simp only[aV]
def vE{M n c:Nat}:aV M (jp bi n c)=true:=by simp only[aV]
def yP{M:Nat}:aV M .nilFunc=true:=by simp only[aV]
def Ie{M:Nat}{f:FuncId}{a b:List gt}:aV M (.func (.func f) ⟨a⟩ ⟨b⟩)=(aX M a&&aX M b):=by simp only[aV,eU]
def KM{M n off:Nat}{s:Option Nat}(h:n<M):aV M (i9 (ap ⟨n,off,s⟩))=true:=by simp only[aV,bx h]
def DN{M n off l c:Nat}{s:Option Nat}(h:n<M):aV M (jp (ap ⟨n,off,s⟩) l c)=true:=by simp only[aV,bx h]
def My{b k:Nat}{v:gt}(h:aV b v=bv):aV (b+k) v=true:=cS (Nat.le_add_right _ _) v h
def KJ{b i k:Nat}:(b+i<b+k)=(i<k):=by simp
def Ni{n b k:Nat}(h:n<b):(n<b+k)=True:=by simp; omega
def La{b i k:Nat}:(b+i=b+k)=(i=k):=by simp
def add_add{b i k:Nat}:b+i+k=b+(i+k):=Nat.add_assoc b i k
def bJ{b i:Nat}(h:H.next=b)(hi:i<L.length):bk (ext H L) (b+i)=L[i]?:=by rw[QA h,if_pos hi]
def Nu{e:ii}{l:List gt}{o:Bool}:nw (ext H L) e l o=ext H (L++[⟨e,o,l⟩]):=yy e l o
def EV{anc j n:Nat}{F W O b W':List Nat}:fw anc F W O ⟨j,b,W',n,n⟩=(anc.testBit j=bv\/((∀ n∈W',n∉F)/\(∀ n∈b,n∉W))):=by simp[fw]
def tZ{anc j lo hi:Nat}{F W O b W':List Nat}:fw anc F W O ⟨j,b,W',lo,hi⟩=(anc.testBit j=bv\/((∀ n∈W',n∉F)/\(∀ n∈b,n∉W)/\(lo<hi->(∀ n∈F,n<lo\/hi<=n)/\(∀ n∈O,n<lo\/hi<=n)))):=by simp only[fw]
def NT{b i:Nat}(h:H.next=b)(hi:i<L.length):eY (ext H L) (b+i)=(match L[i]? with
  |some x=>gH x.l
  |none=>[]):=by
 subst h;simp only[eY,eW hi,zB3 hi,zB1,Bl.obj,p8,RV.n_ofList,RV.jG]
def aK{Q:Exit->ai->aa->Prop}{id:Nat}{l:List Oper}{a:ai}(bits e:List (Nat × Nat))(b:gR ⟨l⟩=bv)(g:(bits.all fun p=>((iU ⟨l⟩).getD p.1 0).testBit p.2)=bv)(j:(e.all fun p=>nS ⟨l⟩ p.1 == ap p.2)=bv)
  (h:∀ ops anc,(∀ p∈bits,(anc.getD p.1 0).testBit p.2=bv)->(∀ p∈e,nS ops p.1=ap p.2)->eV P ops anc l 0 [] a H (Q .normal)):gO P ro (.region id ⟨l⟩ bv) Q a H :=
 Qz b (h _ _ (fun p c=>by simpa using zD3.1 g p c) (fun p c=>by simpa using zD3.1 j p c))
def bu{α:Type}{p:α->Prop}:(∀ x∈([]:List α),p x)=True:=by simp
def aj{α:Type}{p:α->Prop}{y:α}{l:List α}:(∀ x∈y::l,p x)=(p y/\∀ x∈l,p x):=by simp
def DU{n:Nat}:(n∉([]:List Nat))=True:=by simp
def EH{n m:Nat}:(n∉[m])=¬n=m:=by simp
def Bb{n m k:Nat}{l:List Nat}:(n∉m::k::l)=(¬n=m/\n∉k::l):=by simp
def HE{t:ii}{k:IntKind}{x y:Int}(h:y≠0):cP P .quo t (.int k x) (.int k y)=ap (.int k (k.wrap (x.tdiv y))):=by simp[cP,dy,h]
def Iu{t:ii}{k:IntKind}{x y:Int}(h:y≠0):cP P .rem t (.int k x) (.int k y)=ap (.int k (x.tmod y)):=by simp[cP,dy,h]
def su{ops:Array Oper}{rest:List Oper}{dst:Option Nat}{ty:ii}{pos:String}{after:Array Edge}{Q:Exit->ai->aa->Prop}{t:ii}{n:Nat}{l:List (Nat × i4)}:wpOps P ro ops (⟨dst,.buildSlice t n ⟨l⟩,ty,pos,after,bi⟩::rest) (bj N E ds) H Q=ph P ro ops rest N E ds dst Q ((gv P (bj N E ds) l).bind (bU P H t n)) :=
 uF rfl (by
  simp only[cj,iA,zA1]
  cases gv P (bj N E ds) l<;>rfl)
def vj{ops:Array Oper}{rest:List Oper}{dst:Option Nat}{ty:ii}{pos:String}{after:Array Edge}{Q:Exit->ai->aa->Prop}{t:ii}{x y:i4}(hx:bd P N x=bv)(b:bd P N y=bv):wpOps P ro ops (⟨dst,.makeSlice t x y,ty,pos,after,bi⟩::rest) (bj N E ds) H Q=ph P ro ops rest N E ds dst Q (fc P H t (bX E x) (bX E y)) :=
 uF rfl (by simp only[cj,kA,aD hx,aD b,zA1,zA4])
def qZ(E:Env):Option i4->Option gt
 |none=>bi
 |some x=>ap (bX E x)
def ik(P:io)(N:Nat):Option i4->Bool
 |none=>bv
 |some x=>bd P N x
def lS:qZ E bi=none:=by simp only[qZ]
def mn{x:i4}:qZ E (ap x)=ap (bX E x):=by simp only[qZ]
def ur:ik P N bi=true:=by simp only[ik]
def iB{x:i4}:ik P N (ap x)=bd P N x:=by simp only[ik]
def kk{x:Option i4}(h:ik P N x=bv):lG P (bj N E ds) x=ap (qZ E x):=by
 cases x with
 |none=>rfl
 |some x=>simp only[ik]at h; simp only[lG,aD h,qZ,zB1]
def Hl{ops:Array Oper}{rest:List Oper}{dst:Option Nat}{ty:ii}{pos:String}{after:Array Edge}{Q:Exit->ai->aa->Prop}{t:ii}{x:i4}{lo hi b:Option i4}(hx:bd P N x=bv)(c:ik P N lo=bv)(e:ik P N hi=bv)(g:ik P N b=bv):wpOps P ro ops (⟨dst,.slice t x lo hi b,ty,pos,after,bi⟩::rest) (bj N E ds) H Q=ph P ro ops rest N E ds dst Q (cw P H t (bX E x) (qZ E lo) (qZ E hi) (qZ E b)) :=
 uF rfl (by simp only[cj,wZ,aD hx,kk c,kk e,kk g,zA1,zA4])
def DR{l:List Oper}{j:Nat}:nS ⟨l⟩ j=(l[j]?).bind (·.dst):=by simp[nS]
def vd{ops:Array Oper}{o:Oper}{rest:List Oper}{Q:Exit->ai->aa->Prop}{want:Bool}:jn P ro ops o rest N E ds H Q want (kw want)=wpOps P ro ops (o::rest) (bj N E ds) H Q:=by simp only[jn,if_true]
def Ad{ops:Array Oper}{o:Oper}{rest:List Oper}{Q:Exit->ai->aa->Prop}:jn P ro ops o rest N E ds H Q bv (kw gc)=wpOps P ro ops rest ((bj N E ds).put o.dst undef) H Q:=by simp only[jn,zC8,if_false]
def AI{ops:Array Oper}{o:Oper}{rest:List Oper}{Q:Exit->ai->aa->Prop}:jn P ro ops o rest N E ds H Q gc (kw bv)=wpOps P ro ops rest ((bj N E ds).put o.dst undef) H Q:=by simp only[jn,Bool.true_eq_false,if_false]
def uG{ops:Array Oper}{anc:List Nat}{o:Oper}{rest:List Oper}{i:Nat}{fps:List Fp}{Q:ai->aa->Prop}{want:Bool}:jg P ops anc o rest i fps N E ds H Q want (kw want)=eV P ops anc (o::rest) i fps (bj N E ds) H Q:=by simp only[jg,if_true]
def AF{ops:Array Oper}{anc:List Nat}{o:Oper}{rest:List Oper}{i:Nat}{fps:List Fp}{Q:ai->aa->Prop}:jg P ops anc o rest i fps N E ds H Q bv (kw gc)=eV P ops anc rest (i+1) fps ((bj N E ds).put o.dst undef) H Q:=by simp only[jg,zC8,if_false]
def AQ{ops:Array Oper}{anc:List Nat}{o:Oper}{rest:List Oper}{i:Nat}{fps:List Fp}{Q:ai->aa->Prop}:jg P ops anc o rest i fps N E ds H Q gc (kw bv)=eV P ops anc rest (i+1) fps ((bj N E ds).put o.dst undef) H Q:=by simp only[jg,Bool.true_eq_false,if_false]
def IL(P:io)(ro:Option Nat)(ops:Array Oper)(o:Oper)(rest:List Oper)(a:ai)(H:aa)(Q:Exit->ai->aa->Prop):Prop:=wpOps P ro ops (o::rest) a H Q
def Re(P:io)(ro:Option Nat)(ops:Array Oper)(o:Oper)(j:Nat)(want:Bool)(rest:List Oper)(N:Nat)(E:Env)(ds:List Deferred)(H:aa)(Q:Exit->ai->aa->Prop):Option Nat->Prop
 |some d=>if d<N then jn P ro ops o rest N E ds H Q want (E d) else IL P ro ops {o with guard:=ap (j,want)} rest (bj N E ds) H Q
 |none=>IL P ro ops {o with guard:=ap (j,want)} rest (bj N E ds) H Q
def Em{ops:Array Oper}{o:Oper}{j d:Nat}{want:Bool}{rest:List Oper}{Q:Exit->ai->aa->Prop}(h:d<N):Re P ro ops o j want rest N E ds H Q (ap d)=jn P ro ops o rest N E ds H Q want (E d):=by simp only[Re,h,if_true]
def Rw{ops:Array Oper}{dst:Option Tmp}{b:Op}{ty:ii}{pos:String}{after:Array Edge}{j:Nat}{want:Bool}{rest:List Oper}{Q:Exit->ai->aa->Prop} :
  wpOps P ro ops (⟨dst,b,ty,pos,after,ap (j,want)⟩::rest) (bj N E ds) H Q=Re P ro ops ⟨dst,b,ty,pos,after,bi⟩ j want rest N E ds H Q (nS ops j):=by
 cases c:nS ops j with
 |none=>simp only[Re,IL]
 |some d =>
  simp only[Re];split
  .rename_i e;exact N6 c e
  .simp only[IL]
def HQ(P:io)(ops:Array Oper)(anc:List Nat)(o:Oper)(rest:List Oper)(i:Nat)(fps:List Fp)(a:ai)(H:aa)(Q:ai->aa->Prop):Prop:=eV P ops anc (o::rest) i fps a H Q
def Rl(P:io)(ops:Array Oper)(anc:List Nat)(o:Oper)(j:Nat)(want:Bool)(rest:List Oper)(i:Nat)(fps:List Fp)(N:Nat)(E:Env)(ds:List Deferred)(H:aa)(Q:ai->aa->Prop):Option Nat->Prop
 |some d=>if d<N then jg P ops anc o rest i fps N E ds H Q want (E d) else HQ P ops anc {o with guard:=ap (j,want)} rest i fps (bj N E ds) H Q
 |none=>HQ P ops anc {o with guard:=ap (j,want)} rest i fps (bj N E ds) H Q
def Eo{ops:Array Oper}{anc:List Nat}{o:Oper}{j d:Nat}{want:Bool}{rest:List Oper}{i:Nat}{fps:List Fp}{Q:ai->aa->Prop}(h:d<N):Rl P ops anc o j want rest i fps N E ds H Q (ap d)=jg P ops anc o rest i fps N E ds H Q want (E d):=by simp only[Rl,h,if_true]
def PT{ops:Array Oper}{anc:List Nat}{dst:Option Tmp}{b:Op}{ty:ii}{pos:String}{after:Array Edge}{j:Nat}{want:Bool}{rest:List Oper}{i:Nat}{fps:List Fp}{Q:ai->aa->Prop} :
  eV P ops anc (⟨dst,b,ty,pos,after,ap (j,want)⟩::rest) i fps (bj N E ds) H Q=Rl P ops anc ⟨dst,b,ty,pos,after,bi⟩ j want rest i fps N E ds H Q (nS ops j):=by
 cases c:nS ops j with
 |none=>simp only[Rl,HQ]
 |some d =>
  simp only[Rl];split
  .rename_i e;exact Ls c e
  .simp only[HQ]
def Mp{d:Nat}{v:gt}(h:d<N):(bj N E ds).put (ap d) v=bj N (cy E d v) ds:=cW N E ds d v h
def vm(N:Nat)(ds:List Deferred)(K:Env->aa->Prop)(Q:Exit->ai->aa->Prop):Exit->ai->aa->Prop:=Bw (fun c H1=>∃ b,c=bj N b ds/\K b H1) Q
def BE{K:Env->aa->Prop}{Q:Exit->ai->aa->Prop}:vm N ds K Q .normal (bj N E ds) H=∃ b,bj N E ds=bj N b ds/\K b H:=by simp only[vm,Bw]
def qB{K:Env->aa->Prop}{Q:Exit->ai->aa->Prop}{id:Nat}{a:ai}:vm N ds K Q (.exit id) a H=Q (.exit id) a H:=by simp only[vm,Bw]
def Am{K:Env->aa->Prop}{Q:Exit->ai->aa->Prop}{a:ai}:vm N ds K Q .ret a H=Q .ret a H:=by simp only[vm,Bw]
def b8{σ:Type}(I:σ->Env->aa->Prop)(m:σ->Nat)(g:σ){b:Code}{Q:Exit->ai->aa->Prop}(p:I g E H)
  (h:∀ s E H,I s E H->gO P ro b (vm N ds (fun j q=>∃ c,m c<m s/\I c j q) Q) (bj N E ds) H):gO P ro (.loop b) Q (bj N E ds) H:=by
 refine NG (I:=fun k a H=>∃ s E,a=bj N E ds/\m s=k/\I s E H) (k:=m g) ⟨g,E,rfl,rfl,p⟩ ?_;rintro k a H ⟨s,E,rfl,rfl,r⟩;refine lU b _ H (fun e t H1 o=>?_) (h s E H r)
 cases e with
 |normal =>obtain⟨j,rfl,c,l,n⟩:=o;exact⟨m c,l,c,j,rfl,rfl,n⟩
 |_=>exact o
def Hz{f:FuncId}{x:i4}{args:List i4}{ts:Array ii}{dst:Option Nat}{ops:Array Oper}{rest:List Oper}{ty:ii}{pos:String}{after:Array Edge}{Q:Exit->ai->aa->Prop}{ca:List gt}(hx:bd P N x=bv)(b:bX E x=.func (.func f) ⟨[]⟩ ⟨ca⟩)(c:args.all (bd P N)=bv)(e:aB P f=bv)
  (h:aL P f (args.map (bX E)++ca) H (Kc P ro ops rest (bj N E ds) dst Q)) :
  wpOps P ro ops (⟨dst,.call ⟨.value x,⟨args⟩,ts⟩,ty,pos,after,bi⟩::rest) (bj N E ds) H Q:=by
 rw[zx rfl rfl];simp only[zQ,cj,lx,cT c,aD hx,b,zA1,zA4,qw,fF,jh,e,if_true,zD0,zB1,nT];exact h
def ES{ops:Array Oper}{anc:List Nat}{d:Nat}{ty:ii}{pos:String}{after:Array Edge}{rest:List Oper}{i:Nat}{fps:List Fp}{Q:ai->aa->Prop}{f:FuncId}{args:List i4}{ts:Array ii}{v:gt}{M:List Bl}(F:List Nat)(ha:args.all (bd P N)=bv)(hb:aB P f=bv)(hd:d<N)(hF:∀ n∈F,H.get n≠bi)
  (hc:∀ G:aa,G.next=H.next->(∀ n∈F,G.get n=H.get n)->br P f (args.map (bX E)) G (.ok v) (ext G M)) (hm:∀ r∈fps,fw (anc.getD i 0) F [] (ae v++M.flatMap fun x=>gH x.l) r)
  (h:eV P ops anc rest (i+1) (⟨i,F,[],H.next,H.next+M.length⟩::fps) (bj N (cy E d v) ds) (ext H M) Q):mh P ops anc ⟨ap d,.call ⟨.value (.func f),⟨args⟩,ts⟩,ty,pos,after,bi⟩ rest i fps (bj N E ds) H Q:=by
 have C:=aI H F;have b:(ext (H.restrict F) M).dirty=[]:=by rw[gm,C.2.2]
 have p:(ext (H.restrict F) M).next=H.next+M.length:=by rw[aA,C.1]
 have c:∀ j,j<M.length->(ext (H.restrict F) M).get (H.next+j)=M[j]?.map Bl.obj:=by intro j I;rw[<-C.1];exact eW I
 have J:∀(M:List Bl)(K g:aa)(m:Nat),K.next=m->(∀ j,j<M.length->g.get (m+j)=M[j]?.map Bl.obj)->∀ t,t=aa.cF K g m M.length->(⟨t.root,m+M.length,t.base,t.dirty⟩:aa)=ext K M:=by
  intro M
  induction M with
  |nil=>intro K g m D _ t y; subst D; subst y; rfl
  |cons x M O =>
   intro K g m D hg t y;have h0:=hg 0 lw;simp only[zD6,zF3,zB1]at h0;rw[zA3]at y;simp only[aa.cF,h0]at y
   have:=O (nw K x.e x.l x.o) g (m+1) (by rw[iF,D]) (fun j I=>by
    have:=hg (j+1) (by simpa using I);simp only[zG6]at this;rw[show m+1+j=m+(j+1) by omega]
    exact this) (aa.cF (nw K x.e x.l x.o) g (m+1) M.length) rfl
   have R:∀(A B:aa)(n k:Nat),A.root=B.root->A.base=B.base->A.dirty=B.dirty->(aa.cF A g n k).root=(aa.cF B g n k).root/\(aa.cF A g n k).base=(aa.cF B g n k).base/\(aa.cF A g n k).dirty=(aa.cF B g n k).dirty:=by
    intro A B n k
    induction k generalizing A B n with
    |zero=>exact fun S T U=>⟨S,T,U⟩
    |succ k V =>intro S T U;simp only[aa.cF];exact V _ _ _ (by simp only[aa.put_eq,S]) T U
   have X:=R (nw K x.e x.l x.o) (K.put m (ap x.obj)) (m+1) M.length (by simp only[nw,aa.o5,aa.put_eq,D,Bl.obj]) rfl rfl;rw[ext,<-this,y,X.1,X.2.1,X.2.2,zA3,show m+(M.length+1)=m+1+M.length by omega]
 have Y:H.merge (ext (H.restrict F) M)=ext H M:=by unfold aa.merge;rw[b,p,zF9];simp only[aa.eA];exact J M H _ H.next rfl c _ rfl
 refine⟨F,v,ext (H.restrict F) M,?_,hF,(by rw[b]; simp),fun r hr=>iL ?_,?_⟩
 .refine gL (x:=.enter f (args.map (bX E))) (g:=H.restrict F) ?_ (hc _ C.1 (fun n Z=>by rw[bf,if_pos Z]));simp only[cj,lx,cT ha,aP,zA1,zA4,qw,fF,jh,hb,if_true,zD0,zD4,zB1]
 .have z:∀(k s:Nat),s+k=M.length->(c8 (H.next+s) k).flatMap (eY (ext (H.restrict F) M))=(M.drop s).flatMap fun x=>gH x.l:=by
   intro k
   induction k with
   |zero=>intro s hs; rw[c8,zE8 li]; rfl
   |succ k O =>
    intro s hs;have q:s<M.length:=by omega
    rw[c8,List.flatMap_cons,List.drop_eq_getElem_cons q,List.flatMap_cons];have:=O (s+1) li;rw[show H.next+(s+1)=H.next+s+1 by omega]at this;rw[this];congr 1;simp only[eY,c s q,zB3 q,zB1,Bl.obj,p8,RV.n_ofList,RV.jG]
  have:=z M.length 0 li;simp only[zD6,zD2]at this;rw[b];simp only[fV,b,p,zF9,zD0,this];exact hm r hr
 .rw[Y,b,p];simp only[cW N E ds d v hd];exact h
end
structure Mod (W:List Nat) (H H1:aa):Prop where
 next:H.next<=H1.next
 base:H1.base=H.base
 get:∀ n,n<H.next->n∉W->H1.get n=H.get n
 sub:∀ n,n∈H.dirty->n∈H1.dirty
 dirty:∀ n,n∈H1.dirty->n∈H.dirty\/(n∈W/\n<H.base)
 jZ:∀ n,n<H.base->n∉H1.dirty->H1.get n=H.get n
section
variable{P:io}{H H1 H2:aa}{W:List Nat}{L:List Bl}
def Mod.refl:Mod W H H:=⟨zA5 _,rfl,fun _ _ _=>rfl,fun _ h=>h,fun _ h=>.inl h,fun _ _ _=>rfl⟩
def Mod.trans(a:Mod W H H1)(b:Mod W H1 H2):Mod W H H2 where
 next:=zC7 a.next b.next
 base:=b.base.trans a.base
 get:=fun n c e=>(b.get n (zD1 c a.next) e).trans (a.get n c e)
 sub:=fun n h=>b.sub n (a.sub n h)
 dirty:=fun n h=>(b.dirty n h).elim (a.dirty n) (fun h=>.inr ⟨h.1,a.base▸h.2⟩)
 jZ:=fun n c g=>(b.jZ n (by rw[a.base]; exact c) g).trans (a.jZ n c (fun h=>g (b.sub n h)))
def Mod.mono{W':List Nat}(a:Mod W H H1)(h:∀ n∈W,n∈W'):Mod W' H H1 :=
 ⟨a.next,a.base,fun n c e=>a.get n c (fun b=>e (h n b)),a.sub,fun n c=>(a.dirty n c).imp id (fun b=>⟨h n b.1,b.2⟩),a.jZ⟩
def Mod.ext(c:H.base<=H.next):Mod W H (Go.Ax.ext H L) :=
 ⟨by rw[aA]; omega,yG,fun n b _=>bS b,fun n h=>by rw[gm]; exact h,fun n h=>by rw[gm]at h; exact .inl h,fun n b _=>bS li⟩
def Qu{n off:Nat}{vs:List gt}{m:Nat}(h:m∈H.dirty):m∈(uw H n off vs).dirty:=by
 unfold uw;split
 .simp only[aa.eD];split
  .exact zC4 _ h
  .exact h
 .exact h
def Mod.uw{n off:Nat}{vs:List gt}(g:n∈W):Mod W H (Go.Ax.uw H n off vs) where
 next:=by rw[bE]; exact zA5 _
 base:=OQ
 get:=fun m _ c=>fD (fun e=>c (e▸g))
 sub:=fun m h=>Qu h
 dirty:=fun m h=>by
  rcases KP h with h|⟨rfl,h⟩
  .exact .inl h
  .exact .inr ⟨g,h⟩
 jZ:=fun m c b=>by
  by_cases e:m=n
  .subst e;unfold Go.Ax.uw at b ⊢;split at b
   .simp only[aa.eD,bx c,if_true]at b;exact absurd zD7 b
   .rfl
  .exact fD e
def Mod.bk(m:Mod W H H1){n:Nat}(b:n<H.next)(c:n∉W):Go.Ax.bk H1 n=Go.Ax.bk H n:=aO (m.get n b c)
def Mod.lt(m:Mod W H H1){n:Nat}(b:n<H.next):n<H1.next:=zD1 b m.next
def Mod.ok(m:Mod W H H1)(h:H.base<=H.next):H1.base<=H1.next:=by have:=m.next; rw[m.base]; omega
def rp(g:aa):∀(l:List Nat)(H:aa)(n:Nat),n∈(aa.eA H g l).dirty->n∈H.dirty\/(n∈l/\n<H.base)
 |[],_,_,h=>.inl h
 |m::r,H,n,h=>by
  rcases rp g r _ n h with h|h
  .simp only[aa.eD]at h;split at h
   .rename_i b;rcases zA9.1 h with rfl|h
    .exact .inr ⟨zD7,bO b⟩
    .exact .inl h
   .exact .inl h
  .exact .inr ⟨zC4 _ h.1,h.2⟩
def vF(H g:aa)(n:Nat)(h:n∈(H.merge g).dirty):n∈H.dirty\/(n∈g.dirty/\n<H.base):=by have k:=(lf g (g.next-H.next) H.next (aa.eA H g g.dirty)).2;refine rp g g.dirty H n ?_;rw[<-k];exact h
def jH{N:Nat}{E:Env}{ds:List Deferred}{ops:Array Oper}{anc:List Nat}{dst:Option Nat}{ty:ii}{pos:String}{after:Array Edge}{rest:List Oper}{i:Nat}{fps:List Fp}{Q:ai->aa->Prop}{f:FuncId}{args:List i4}{ts:Array ii}{v:gt}{g:aa}
  (F:List Nat) (I:H.base<=H.next) (J:args.all (bd P N)=bv) (M:aB P f=bv) (O:∀ n∈F,H.get n≠bi) (m:∀ n∈F,n<H.next) (R:∀ n∈W,n∈F)
  (S:br P f (args.map (bX E)) (H.restrict F) (.ok v) g) (e:Mod W (H.restrict F) g)
  (T:∀ r∈fps,(anc.getD i 0).testBit r.i=bv\/(r.hi<=r.lo/\(∀ n∈r.W,n∉F)/\(∀ n∈r.F,n∉W)))
  (h:∀ o D,Mod W H o->(∀ n∈F,o.get n=g.get n)->(∀ n,H.next<=n->n<g.next->o.get n=g.get n)->o.next=g.next->(∀ n∈D,n∈W)->eV P ops anc rest (i+1) (⟨i,F,D,H.next,g.next⟩::fps) ((bj N E ds).put dst v) o Q) :
  mh P ops anc ⟨dst,.call ⟨.value (.func f),⟨args⟩,ts⟩,ty,pos,after,bi⟩ rest i fps (bj N E ds) H Q:=by
 have s:=aI H F
 have p:∀ n∈g.dirty,n∈W:=by
  intro n U;rcases e.dirty n U with h|h
  .rw[s.2.2]at h; cases h
  .exact h.1
 have b:H.next<=g.next:=by have:=e.next; rw[s.1]at this; exact this
 have t:∀ n∈F,(H.merge g).get n=g.get n:=by
  intro n k;by_cases c:n∈g.dirty
  .exact kq H g b (.inl c)
  .rw[fC H g b]
   .rw[e.jZ n (by rw[s.2.1]; exact m n k) c,bf,if_pos k]
   .rintro (h'|h')
    .exact c h'
    .have:=m n k; omega
 have j:=jD H g;refine⟨F,v,g,?_,O,fun n h'=>R n (p n h'),fun r V=>iL ?_,?_⟩
 .refine gL (x:=.enter f (args.map (bX E))) (g:=H.restrict F) ?_ S;simp only[cj,lx,cT J,aP,zA1,zA4,qw,fF,jh,M,if_true,zD0,zD4,zB1]
 .rcases T r V with h'|⟨G,y,X⟩
  .exact .inl h'
  .exact .inr ⟨y,fun n z A=>X n z (p n A),fun q=>absurd q li⟩
 .refine h (H.merge g) g.dirty ⟨by rw[j.1]; exact b,j.2.1,fun n Y B=>?_,j.2.2.1,fun n l=>?_,fun n C l=>?_⟩ t (fun n G y=>kq H g b (.inr ⟨G,y⟩)) j.1 p
  .rw[fC H g b];rintro (h'|h')
   .exact B (p n h')
   .omega
  .rcases vF H g n l with h'|h'
   .exact .inl h'
   .exact .inr ⟨p n h'.1,h'.2⟩
  .by_cases c:n∈g.dirty
   .exact absurd (j.2.2.2 n c C) l
   .rw[fC H g b];rintro (h'|h')
    .exact c h'
    .omega
def Mod.step{W':List Nat}(a:Mod W H H1)(b:Mod W' H1 H2)(l:H.base<=H.next)(h:∀ n∈W',n∈W\/H.next<=n):Mod W H H2 where
 next:=zC7 a.next b.next
 base:=b.base.trans a.base
 get:=fun n c g=>(b.get n (zD1 c a.next) (fun e=>(h n e).elim g li)).trans (a.get n c g)
 sub:=fun n h=>b.sub n (a.sub n h)
 dirty:=fun n e=>by
  rcases b.dirty n e with e|⟨m,j⟩
  .exact a.dirty n e
  .rw[a.base]at j;exact .inr ⟨(h n m).elim id li,j⟩
 jZ:=fun n c k=>(b.jZ n (by rw[a.base]; exact c) k).trans (a.jZ n c (fun h=>k (b.sub n h)))
def Mod.cy{n:Nat}{o:Option dw}(c:n∈W):Mod W H (H.cy n o) where
 next:=zA5 _
 base:=rfl
 get:=fun m _ b=>by
  have dK:m≠n:=by rintro rfl; exact b c
  rw[aa.fg,if_neg dK]
 sub:=fun m h=>by
  simp only[aa.eD];split
  .exact zC4 _ h
  .exact h
 dirty:=fun m h=>by
  simp only[aa.eD]at h;split at h
  .rename_i j;rcases zA9.1 h with rfl|h
   .exact .inr ⟨c,bO j⟩
   .exact .inl h
  .exact .inl h
 jZ:=fun m b g=>by
  by_cases e:m=n
  .subst e;simp only[aa.eD,bx b,if_true]at g;exact absurd zD7 g
  .rw[aa.fg,if_neg e]
def Mod.new{o:dw}(b:H.base<=H.next):Mod W H (H.new o) :=
 ⟨Nat.le_succ _,rfl,fun n c _=>by rw[aa.fN,if_neg li],fun _ h=>h,fun _ h=>.inl h,fun n c _=>by rw[aa.fN,if_neg li]⟩
def Mod.one(w:WF P H)(m:Mod [] H H1){k:Nat}{b:Bl}(O:H.next<=k)(R:Go.Ax.bk H1 k=ap b)(I:aX H.next b.l=bv):Rn (fun n=>if n<H.next then n else k) H H1 (Go.Ax.ext H [b]):=by
 have p:∀ n s,H.next<=n->(Go.Ax.ext H [b]).get n=ap s->n=H.next/\s=b.obj:=by
  intro n s hn h;by_cases hi:n=H.next
  .subst hi;have:=eW (L:=[b]) (H:=H) (i:=0) lw;simp only[zD6,zF3,zB1]at this;rw[this]at h;exact⟨rfl,(Option.some.inj h).symm⟩
  .rw[oq pp]at h;have:=(w.dom _ _ h).1;omega
 have q:∀(l:List gt),aX H.next l=bv->∀ j,j<l.length->aV H.next (l.getD j undef)=true:=by
  intro l
  induction l with
  |nil=>intro _ j g; simp at g
  |cons x r S =>
   intro C j g;simp only[aX,zA7]at C
   cases j with
   |zero=>simpa using C.1
   |succ j =>have:=S C.2 j (by simpa using g);simpa using this
 refine⟨fun n hn=>if_pos hn,by rw[aA]; omega,by rw[yG],fun n h=>by rw[gm]; exact h,fun n h=>by rw[gm]; exact (m.dirty n h).elim id (fun h=>by cases h.1),?_,?_,?_,fun n T=>⟨fun h=>.inl (by rw[gm]at h; exact h),fun _=>bS (by
  obtain⟨o,U,_⟩:=T
  exact (w.dom n o U).1)⟩⟩
 .intro n s h;rcases zC2 n H.next with hn|hn
  .rw[bS hn]at h;exact .inl ⟨hn,h,by rw[m.get n hn lw,h]⟩
  .obtain⟨rfl,rfl⟩:=p n s hn h;obtain⟨rv,y,D,A⟩:=qJ R;refine .inr ⟨by rw[aA]; simp,?_,fun h=>absurd w.base li,fun h=>absurd h li,fun _=>by rw[if_neg li]; exact O,?_⟩
   .simp only[Bl.obj,ki,RV.n_ofList];intro j g;rw[RV.cb,aA];exact cS li _ (q _ I j g)
   .rw[if_neg (Nat.lt_irrefl _)];unfold bI at y;split at y
    .rename_i c e z o v F;cases y;refine⟨_,F,⟨c,b.e,0,z,#[],0,rfl,rfl⟩,rfl,?_,?_⟩
     .simp only[Bl.obj,RV.n_ofList]; exact D
     .intro j g;simp only[Bl.obj,RV.n_ofList]at g;simp only[Bl.obj,RV.cb];rw[A j g,vP (N:=H.next) (fun n hn=>if_pos hn) _ (q _ I j g)]
    .cases y
 .intro n G h;have hn:n<H.next:=zD1 G w.base;rw[bS hn]at h;exact .inl h
 .have t:∀ n,(Go.Ax.ext H [b]).get n≠bi->n<H.next\/n=H.next:=by
   intro n hn;rcases zC2 n H.next with h|h
   .exact .inl h
   .cases A:(Go.Ax.ext H [b]).get n with
    |none=>exact absurd A hn
    |some s=>exact .inr (p n s h A).1
  intro V X Y hn B;rcases t V Y with J|rfl<;>rcases t X hn with M|rfl
  .rw[if_pos J,if_pos M]at B; exact B
  .rw[if_pos J,if_neg (Nat.lt_irrefl _)]at B; omega
  .rw[if_pos M,if_neg (Nat.lt_irrefl _)]at B; omega
  .rfl
variable{f:FuncId}{args:List gt}
def tj{b:Bl}{n c:Nat}{s:Option Nat}(h:WF P H->aX H.next args=bv->aL P f args H fun out H1=>∃ k,out=.ok (jp (ap ⟨k,0,s⟩) n c)/\H.next<=k/\Go.Ax.bk H1 k=ap b/\Mod [] H H1)(g:WF P H->aX H.next args=bv->aX H.next b.l=bv) :
  br P f args H (.ok (jp (ap ⟨H.next,0,s⟩) n c)) (Go.Ax.ext H [b]):=by
 intro ρ w r e;obtain⟨_,H1,j,k,rfl,o,p,m⟩:=h r.wf e;refine br.rn (σ:=fun n=>if n<H.next then n else k) (H1:=H1) ?_ (fun w=>m.one w o p (g r.wf e)) (by rw[aA]; exact bx (zD9 _)) ρ w r e;simp only[kO,Nat.lt_irrefl,if_false];exact j
end
section
variable{P:io}{ro:Option Nat}{H:aa}{N:Nat}{E:Env}{ds:List Deferred}{L:List Bl}
def c7{c:Code}{Q:Exit->ai->aa->Prop}(h:∀ b,b=E->gO P ro c Q (bj N b ds) H):gO P ro c Q (bj N E ds) H:=h E rfl
def MV{f:FuncId}{first b:List i4}{ops:Array Oper}{rest:List Oper}{d:Nat}{ty:ii}{pos:String}{after:Array Edge}{Q:Exit->ai->aa->Prop}(c:first.all (bd P N)=bv)(e:b.all (bd P N)=bv)(g:d<N) :
  wpOps P ro ops (⟨ap d,.makeFunc (.func f) ⟨first⟩ ⟨b⟩,ty,pos,after,bi⟩::rest) (bj N E ds) H Q=wpOps P ro ops rest (bj N (cy E d (.func (.func f) ⟨first.map (bX E)⟩ ⟨b.map (bX E)⟩)) ds) H Q:=by
 rw[zx rfl rfl];simp only[zQ,cj,Du,cT c,cT e,zA1,zA4,A9,nT,Kc,cW N E ds d _ g]
def yC:bd P N (.const .nilFunc)=true:=by simp only[bd,af]
def nm{l:List gt}(h:l.all one=bv)(a b:Nat):((l.drop a).take b).all one=true:=by rw[zD3]at h ⊢;exact fun x hx=>h x (List.mem_of_mem_drop (List.mem_of_mem_take hx))
def kK{sz cnt n off len cap:Nat}{s:Option Nat}{b:Bl}(h:rk H n=ap b)(c:off+cnt*sz<=b.l.length):dj H sz cnt (jp (ap ⟨n,off,s⟩) len cap)=ap ((b.l.drop off).take (cnt*sz)):=by
 obtain⟨rv,g,j,k⟩:=MF h;by_cases e:cnt=0
 .subst e;rw[Nat.zero_mul,List.take_zero];simp only[dj,if_true]
 simp only[dj,if_neg e,g,zA1,zA4];rw[if_pos (by rw[zE2]; omega),Q0.jJ j k _ _ c]
def fA{sz cnt n off len cap:Nat}{s:Option Nat}{b:Bl}(h:bk H n=ap b)(c:off+cnt*sz<=b.l.length):dj H sz cnt (jp (ap ⟨n,off,s⟩) len cap)=ap ((b.l.drop off).take (cnt*sz)):=kK (ma h) c
def LI{st xt e:ii}{sz by1 n off cnt cap:Nat}{s:Option Nat}{z:gt}{b:Bl}(p:P.underlying st=ap (.slice e))(h:bg P e=ap sz)(j:bytesOf P e=ap by1)(q:zeroOf P e=ap z)(k:z.cells.toList.length=sz)(hi:fM P xt=ap gc)
  (r:rk H n=ap b) (m:off+cnt*sz<=b.l.length) (c:b.l.all one=bv) (v:0<cnt) (o:small cnt by1=bv) :
  aF P H .append ⟨[st,xt]⟩ [jp bi 0 0,jp (ap ⟨n,off,s⟩) cnt cap]=(cH H e ((b.l.drop off).take (cnt*sz)) bv).map fun g=>(jp (ap ⟨H.next,0,bi⟩) cnt cnt,g):=by
 have t:((b.l.drop off).take (cnt*sz)).length=cnt*sz:=by simp; omega
 simp only[aF,fL,p,h,j,q,hi,zA1,zA4,kz,kK r m,t,k,zC6,o,and_self,if_true,dU];rw[if_neg li];simp only[dj,zA4,zB0,Nat.zero_mul,List.all_nil,nm c,decide_true,zD8,if_true,zD0];cases cH H e ((b.l.drop off).take (cnt*sz)) bv<;>rfl
def G7{st xt e:ii}{sz by1 n off cnt cap:Nat}{s:Option Nat}{z:gt}{b:Bl}(p:P.underlying st=ap (.slice e))(h:bg P e=ap sz)(j:bytesOf P e=ap by1)(q:zeroOf P e=ap z)(k:z.cells.toList.length=sz)(hi:fM P xt=ap gc)
  (r:bk H n=ap b) (m:off+cnt*sz<=b.l.length) (c:b.l.all one=bv) (t:0<cnt) (o:small cnt by1=bv) :
  aF P H .append ⟨[st,xt]⟩ [jp bi 0 0,jp (ap ⟨n,off,s⟩) cnt cap]=(cH H e ((b.l.drop off).take (cnt*sz)) bv).map fun g=>(jp (ap ⟨H.next,0,bi⟩) cnt cnt,g):=LI p h j q k hi (ma r) m c t o
def Jk{st xt e:ii}{sz by1 m k n off cnt cap:Nat}{s:Option Nat}{z:gt}{b:Bl}{old:List gt}(A:P.underlying st=ap (.slice e))(h:bg P e=ap sz)(j:bytesOf P e=ap by1)(B:zeroOf P e=ap z)(o:z.cells.toList.length=sz)(hi:fM P xt=ap gc)
  (y:bk H m=ap ⟨e,bv,old⟩) (C:old.length=k*sz) (p:old.all one=bv)
  (D:rk H n=ap b) (q:off+cnt*sz<=b.l.length) (c:b.l.all one=bv) (M:0<cnt) (r:small (k+cnt) by1=bv) :
  aF P H .append ⟨[st,xt]⟩ [jp (ap ⟨m,0,bi⟩) k k,jp (ap ⟨n,off,s⟩) cnt cap]=(cH (H.cy m bi) e (old++(b.l.drop off).take (cnt*sz)) bv).map fun g=>(jp (ap ⟨H.next,0,bi⟩) (k+cnt) (k+cnt),g):=by
 have F:((b.l.drop off).take (cnt*sz)).length=cnt*sz:=by simp; omega
 obtain⟨rv,t,G,I⟩:=qJ y;have v:il H m=ap true:=by obtain⟨O,R,J⟩:=ed t;simp only[il,J]
 simp only at t G I;have x:=fA (sz:=sz) (cnt:=k) (off:=0) (len:=k) (cap:=k) (s:=bi) y rc;simp only[zD2]at x;rw[zC3 li]at x;simp only[aF,fL,A,h,j,B,hi,zA1,zA4,kz,kK D q,F,o,r,and_self,if_true,dU];rw[if_neg li];simp only[x,zA4,C,p,nm c,decide_true,zD8,if_true,fK,dW,v,zB1,zE4,t];rw[if_pos ⟨trivial,by rw[zE2]; omega⟩];cases cH (H.cy m bi) e (old++(b.l.drop off).take (cnt*sz)) bv<;>rfl
def ET{st xt e:ii}{sz by1 m k n off cnt cap:Nat}{s:Option Nat}{z:gt}{b:Bl}{old:List gt}(t:P.underlying st=ap (.slice e))(h:bg P e=ap sz)(j:bytesOf P e=ap by1)(v:zeroOf P e=ap z)(o:z.cells.toList.length=sz)(hi:fM P xt=ap gc)
  (x:bk H m=ap ⟨e,bv,old⟩) (y:old.length=k*sz) (p:old.all one=bv)
  (A:bk H n=ap b) (q:off+cnt*sz<=b.l.length) (c:b.l.all one=bv) (B:0<cnt) (r:small (k+cnt) by1=bv) :
  aF P H .append ⟨[st,xt]⟩ [jp (ap ⟨m,0,bi⟩) k k,jp (ap ⟨n,off,s⟩) cnt cap]=(cH (H.cy m bi) e (old++(b.l.drop off).take (cnt*sz)) bv).map fun g=>(jp (ap ⟨H.next,0,bi⟩) (k+cnt) (k+cnt),g):=Jk t h j v o hi x y p (ma A) q c B r
def GF{st xt e:ii}{sz by1 m k n off cnt cap:Nat}{s:Option Nat}{z:gt}{b h:Bl}(A:P.underlying st=ap (.slice e))(o:bg P e=ap sz)(p:bytesOf P e=ap by1)(B:zeroOf P e=ap z)(q:z.cells.toList.length=sz)(hi:fM P xt=ap gc)
  (C:bk H m=ap h) (G:k*sz<=h.l.length) (r:h.l.all one=bv)
  (D:rk H n=ap b) (t:off+cnt*sz<=b.l.length) (j:b.l.all one=bv) (I:0<cnt) (v:small (k+cnt) by1=bv) :
  aF P H .append ⟨[st,xt]⟩ [jp (ap ⟨m,0,ap 0⟩) k k,jp (ap ⟨n,off,s⟩) cnt cap]=(cH H e (h.l.take (k*sz)++(b.l.drop off).take (cnt*sz)) bv).map fun g=>(jp (ap ⟨H.next,0,bi⟩) (k+cnt) (k+cnt),g):=by
 have F:((b.l.drop off).take (cnt*sz)).length=cnt*sz:=by simp; omega
 have x:(h.l.take (k*sz)).length=k*sz:=by simp; omega
 have y:=fA (sz:=sz) (cnt:=k) (off:=0) (len:=k) (cap:=k) (s:=ap 0) C li;simp only[zD2]at y;have c:=nm r 0 (k*sz);simp only[zD2]at c;simp only[aF,fL,A,o,p,B,hi,zA1,zA4,kz,kK D t,F,q,v,and_self,if_true,dU];rw[if_neg li];simp only[y,zA4,x,c,nm j,decide_true,zD8,if_true,fK,dW];cases cH H e (h.l.take (k*sz)++(b.l.drop off).take (cnt*sz)) bv<;>rfl
def kn{st xt e:ii}{sz by1 m k n off cnt cap:Nat}{s:Option Nat}{z:gt}{b h:Bl}(v:P.underlying st=ap (.slice e))(j:bg P e=ap sz)(o:bytesOf P e=ap by1)(x:zeroOf P e=ap z)(p:z.cells.toList.length=sz)(hi:fM P xt=ap gc)
  (y:bk H m=ap h) (A:k*sz<=h.l.length) (q:h.l.all one=bv)
  (B:bk H n=ap b) (r:off+cnt*sz<=b.l.length) (c:b.l.all one=bv) (C:0<cnt) (t:small (k+cnt) by1=bv) :
  aF P H .append ⟨[st,xt]⟩ [jp (ap ⟨m,0,ap 0⟩) k k,jp (ap ⟨n,off,s⟩) cnt cap]=(cH H e (h.l.take (k*sz)++(b.l.drop off).take (cnt*sz)) bv).map fun g=>(jp (ap ⟨H.next,0,bi⟩) (k+cnt) (k+cnt),g):=GF v j o x p hi y A q (ma B) r c C t
def dp(H:aa)(m:Nat):aa:=H.cy m bi
theorem iR{m:Nat}:(dp H m).next=H.next:=rfl
def QP{m n:Nat}(h:n≠m):(dp H m).get n=H.get n:=by rw[dp,aa.fg,if_neg h]
def GQ{m:Nat}(h:m<H.next):(ext H L).cy m bi=ext (dp H m) L:=lH h
def upto{α:Type}(b:α->Bool):List α->List α
 |[]=>[]
 |x::r=>if b x then x::upto b r else [x]
def Qt:Option Bl->List Nat
 |some x=>gH x.l
 |none=>[]
def Hp{e:ii}{o:Bool}{l:List gt}:Qt (ap ⟨e,o,l⟩)=gH l:=by simp only[Qt]
def LO{b i:Nat}(h:H.next=b)(hi:i<L.length):eY (ext H L) (b+i)=Qt L[i]?:=by rw[NT h hi];cases L[i]?<;>rfl
def QU(n:Nat):Option TypeDesc->Option gt
 |some (.slice _)=>ap (goInt n)
 |some (.array m _)=>ap (goInt m)
 |_=>bi
def QJ(n:Nat):Option TypeDesc->Option gt
 |some (.slice _)=>ap (goInt n)
 |_=>bi
def xE{n:Nat}{e:ii}:QU n (ap (.slice e))=ap (goInt n):=by simp only[QU]
def xM{n:Nat}{e:ii}:QJ n (ap (.slice e))=ap (goInt n):=by simp only[QJ]
def Hg{t:ii}{x:Option Addr}{n c:Nat}:aF P H .len ⟨[t]⟩ [.slice x n c]=(QU n (P.underlying t)).map fun v=>(v,H):=by
 simp only[aF,zr]
 cases P.underlying t with
 |none=>rfl
 |some d=>cases d<;>rfl
def HC{t:ii}{x:Option Addr}{n c:Nat}:kQ P .len ⟨[t]⟩ [.slice x n c]=QJ n (P.underlying t):=by
 simp only[kQ]
 cases P.underlying t with
 |none=>rfl
 |some d=>cases d<;>rfl
def Mz{n:Int}:goInt n=i7 i8 n:=by simp only[goInt]
def gP{t e:ii}{sz n off len cap:Nat}{s:Option Nat}{k:IntKind}{i:Int}(c:P.underlying t=ap (.slice e))(b:bg P e=ap sz)(g:0<=i)(h:i<len):aS P t (jp (ap ⟨n,off,s⟩) len cap) (.int k i)=ap (i9 (ap ⟨n,off+i.toNat*sz,bi⟩)):=by simp only[aS,c,b,zA1,zA4,g,h,and_self,if_true]
def Ar{anc j lo hi:Nat}{F W O:List Nat}{fps:List Fp}:ir anc (⟨j,F,W,lo,hi⟩::fps) O=((lo<hi->anc.testBit j=bv\/∀ n∈O,n<lo\/hi<=n)/\ir anc fps O):=by simp[ir]
def AX{anc j lo hi:Nat}{F W O:List Nat}{fps:List Fp}(h:anc.testBit j=bv):ir anc (⟨j,F,W,lo,hi⟩::fps) O=ir anc fps O:=by simp[ir,h]
def Ai{anc j lo hi:Nat}{F W b W' O:List Nat}(h:anc.testBit j=bv):fw anc F W O ⟨j,b,W',lo,hi⟩=True:=by simp[fw,h]
end
section
variable{P:io}{ro:Option Nat}{H:aa}{N:Nat}{E:Env}{ds:List Deferred}{L:List Bl}
def l6{n:Nat}{b:Bl}(h:bk H n=ap b):il H n=ap b.o:=by
 unfold bk at h
 cases c:bI H n with
 |none=>rw[c]at h; cases h
 |some x =>rw[c]at h;obtain⟨rv,e,o⟩:=x;cases h;obtain⟨j,k,g⟩:=ed c;simp only[il,g]
section
variable{ops:Array Oper}{anc:List Nat}{d:Nat}{ty:ii}{pos:String}{after:Array Edge}{rest:List Oper}{i:Nat}{fps:List Fp}{Q:ai -> aa -> Prop}
end
end
section
variable{P:io}{ro:Option Nat}{H:aa}{N:Nat}{E:Env}{ds:List Deferred}{L:List Bl}
def Bk(N:Nat)(ds:List Deferred)(J:Env->aa->Prop)(Q:Exit->ai->aa->Prop):Exit->ai->aa->Prop
 |.normal,a,H=>∃ E,a=bj N E ds/\J E H
 |e,a,H=>Q e a H
def ah{J:Env->aa->Prop}{Q:Exit->ai->aa->Prop}(h:J E H):Bk N ds J Q .normal (bj N E ds) H:=⟨E,rfl,h⟩
def da{J:Env->aa->Prop}{Q:Exit->ai->aa->Prop}{a:ai}:Bk N ds J Q .ret a H=Q .ret a H:=Eq.trans rfl rfl
def pU{J:Env->aa->Prop}{Q:Exit->ai->aa->Prop}{z:Code}(b:∀ E H,J E H->gO P ro z Q (bj N E ds) H):∀ e a H,Bk N ds J Q e a H->DI P ro z Q e a H:=by
 intro e a H h
 cases e with
 |normal =>obtain⟨c,rfl,g⟩:=h;exact b c H g
 |_=>exact h
def dG{x y z:Code}{Q:Exit->ai->aa->Prop}{v:gt}(J:Env->aa->Prop)(c:qf P ro x y (Bk N ds J Q) (bj N E ds) H v)(e:∀ E H,J E H->gO P ro z Q (bj N E ds) H):qf P ro x y (DI P ro z Q) (bj N E ds) H v:=by
 cases v with
 |bool b =>
  cases b with
  |true=>rw[qR]at c ⊢; exact lU x _ H (pU e) c
  |false=>rw[om]at c ⊢; exact lU y _ H (pU e) c
 |_=>exact c
def bn{c z:Code}{id:Nat}{Q:Exit->ai->aa->Prop}(J:Env->aa->Prop)(b:gO P ro c (np id (Bk N ds J Q)) (bj N E ds) H)(g:∀ E H,J E H->gO P ro z Q (bj N E ds) H):gO P ro c (np id (DI P ro z Q)) (bj N E ds) H:=by refine lU c _ H (fun e a H h=>?_) b;exact pU g _ _ _ h
def fW{c z:Code}{Q:Exit->ai->aa->Prop}(J:Env->aa->Prop)(b:gO P ro c (Bk N ds J Q) (bj N E ds) H)(e:∀ E H,J E H->gO P ro z Q (bj N E ds) H):gO P ro c (DI P ro z Q) (bj N E ds) H :=
 lU c _ H (pU e) b
def aC{K:Env->aa->Prop}{Q:Exit->ai->aa->Prop}(h:K E H):vm N ds K Q .normal (bj N E ds) H:=by rw[BE];exact⟨E,rfl,h⟩
end
section
variable{P:io}
def dx{α β:Type}(s:Sem α)(f:α->Sem β):cN P (s >>= f)=(cN P s).bind fun a=>cN P (f a):=by
 show cN P (Sem.bind s f)=_
 induction s with
 |pure x=>rfl
 |program k b=>simp only[Sem.bind,cN]; exact b P
 |mark m k b=>simp only[Sem.bind,cN]; exact b
 |load|store|new|shape|freeze|frozen|getObj|setObj|choose|sys|halt=>simp[Sem.bind,cN]
theorem dv{α:Type}(a:α):cN P (pure a:Sem α)=ap a:=rfl
theorem jw:cN P Go.program=ap P:=rfl
def mI{t:ii}{d:TypeDesc}(h:P.underlying t=ap d):cN P (underlying t)=ap d:=by simp only[underlying,dx,jw,zA4,h,dv]
def z7{t:ii}{b:Bool}(h:ey P t=ap b):cN P (isAgg t)=ap b:=by
 unfold ey at h
 cases e:P.underlying t with
 |none=>rw[e]at h; cases h
 |some d =>rw[e]at h;simp only[isAgg,dx,mI e,zA4];cases d<;>simp only[dv]<;>simpa using h
def GN{t:ii}{n:Nat}(h:bg P t=ap n):cN P (sizeOf t)=ap n:=by
 unfold bg at h
 cases e:P.info? t with
 |none=>rw[e]at h; cases h
 |some i =>rw[e]at h;simp only[sizeOf,typeInfo,dx,jw,zA4,e,dv];simpa using h
def pr(P:io)(t:ii)(v:gt):Bool :=
 match P.underlying t,v with
 |some .bool,kw _=>bv
 |some (.int k),.int b _=>k == b
 |some .string,.string _=>bv
 |_,_=>gc
def fits(P:io):List ii->List gt->Bool
 |[],[]=>bv
 |t::ts,v::vs=>pr P t v&&fits P ts vs
 |_,_=>gc
def MT:gt->gt->Bool
 |.bool a,kw b=>a == b
 |.int _ a,.int _ b=>a == b
 |.string a,.string b=>a == b
 |_,_=>gc
def BB:List gt->List gt->Bool
 |[],[]=>bv
 |x::xs,y::ys=>MT x y&&BB xs ys
 |_,_=>gc
def ld(P:io)(c:ii->Option (List ii)):List Field->Nat->Option (List ii)
 |[],_=>ap []
 |f::fs,o =>
  if f.name ≠ "_" /\ f.offset=o then
   (match c f.type with
   |some a=>if bg P f.type=ap a.length then (match ld P c fs (o+a.length) with
    |some b=>ap (a++b)
    |none=>bi) else bi
   |none=>bi)
  else bi
def flat(P:io):Nat->ii->Option (List ii)
 |0,_=>bi
 |d+1,t =>
  match P.underlying t with
  |some .bool=>ap [t]
  |some (.int _)=>ap [t]
  |some .string=>ap [t]
  |some (.struct fs)=>if P.stoodInHeld t then bi else ld P (flat P d) fs.toList 0
  |_=>bi
def Jy{d:Nat}{t:ii}{x y:gt}(hx:pr P t x=bv)(b:pr P t y=bv):cN P (Op.equalIn (d+1) t x y)=ap (MT x y):=by
 unfold pr at hx b;split at hx
 .rename_i a e;rw[e]at b;cases y<;>simp only[zC8]at b;simp only[Op.equalIn,dx,mI e,zA4,dv,MT]
 .rename_i k c a e;rw[e]at b;cases y<;>simp only[zC8]at b;simp only[Op.equalIn,dx,mI e,zA4,MT];rw[if_pos ((eq_of_beq hx).symm.trans (eq_of_beq b))];rfl
 .rename_i a e;rw[e]at b;cases y<;>simp only[zC8]at b;simp only[Op.equalIn,dx,mI e,zA4,dv,MT]
 .cases hx
def q8:∀ {ts b:List ii} {vs:List gt},fits P (ts++b) vs=bv->fits P ts (vs.take ts.length)=bv/\fits P b (vs.drop ts.length)=bv/\ts.length<=vs.length
 |[],b,vs,h=>by simpa[fits]using h
 |t::ts,b,[],h=>by simp[fits]at h
 |t::ts,b,v::vs,h=>by simp only[zG1,fits,zA7]at h;have:=q8 h.2;simp only[zA3,List.take_succ_cons,List.drop_succ_cons,fits,h.1,this.1,this.2.1,zD8,true_and];omega
def AL:∀ {n:Nat} {xs ys:List gt},n<=xs.length->n<=ys.length->BB xs ys=(BB (xs.take n) (ys.take n)&&BB (xs.drop n) (ys.drop n))
 |0,xs,ys,_,_=>by simp[BB]
 |n+1,[],_,h,_=>by simp at h
 |n+1,_::_,[],_,h=>by simp at h
 |n+1,x::xs,y::ys,b,c=>by simp only[zA3,Nat.add_le_add_iff_right]at b c;simp only[List.take_succ_cons,List.drop_succ_cons,BB,AL b c,Bool.and_assoc]
def jE:∀ {ts:List ii} {vs:List gt},fits P ts vs=bv->ts.length=vs.length
 |[],[],_=>rfl
 |[],_::_,h=>by simp[fits]at h
 |_::_,[],h=>by simp[fits]at h
 |t::ts,v::vs,h=>by simp only[fits,zA7]at h;simp only[zA3,jE h.2]
def BW{d:Nat}{t:ii}{xs ys:Array gt}{fs:Array Field}(c:P.underlying t=ap (.struct fs))(g:P.stoodInHeld t=gc) :
  cN P (Op.equalIn (d+1) t (.agg xs) (.agg ys))=cN P (Op.eqFields d xs ys fs.toList):=by
 simp only[Op.equalIn,dx,mI c,zA4,jw,g,zC8,if_false];rw[<-Array.forIn_toList];generalize fs.toList=l;clear c
 induction l with
 |nil=>simp[Op.eqFields,dv]
 |cons f fs e =>
  simp only[List.forIn_cons,Op.eqFields,dx];split
  .simp only[dx]
   cases cN P (part f.type xs f.offset) with
   |none=>rfl
   |some a =>
    simp only[zA4]
    cases cN P (part f.type ys f.offset) with
    |none=>rfl
    |some b =>
     simp only[zA4]
     cases cN P (Op.equalIn d f.type a b) with
     |none=>rfl
     |some r =>
      cases r
      .simp[dv]
      .simp only[zA4,zE4,zC8,if_false,dv];rw[<-e]
  .simp only[dv,zA4];rw[<-e]
def xA{t:ii}{sz o:Nat}{b:Bool}{xs:List gt}(e:ey P t=ap b)(g:bg P t=ap sz)(h:b=gc->sz=1)(j:o+sz<=xs.length) :
  cN P (part t ⟨xs⟩ o)=ap (if b then .agg ⟨(xs.drop o).take sz⟩ else xs.getD o undef):=by
 cases b with
 |true => 
  simp only[part,dx,z7 e,zA4,if_true,GN g,dv,i5,Value.agg.injEq];apply Array.ext';simp[List.extract_eq_take_drop]
 |false =>
  have:=h rfl;have c:o<xs.length:=by omega
  simp only[part,dx,z7 e,zA4,zC8,if_false];simp[zB3 c,dv,zE3]
def uR{d:Nat}{t:ii}{ts:List ii}(h:flat P (d+1) t=ap ts)(b:ey P t=ap gc):ts=[t]:=by
 simp only[flat]at h;unfold ey at b
 cases e:P.underlying t with
 |none=>rw[e]at b; cases b
 |some c=>rw[e]at h b; cases c<;>simp_all
def MM{d:Nat}{t:ii}{ts:List ii}(h:flat P (d+1) t=ap ts):∃ b,ey P t=ap b:=by
 simp only[flat]at h;unfold ey
 cases e:P.underlying t with
 |none=>rw[e]at h; cases h
 |some c=>rw[e]at h; cases c<;>simp_all
def rR{d:Nat}(B:∀ t ts xs ys,flat P d t=ap ts->ey P t=ap bv->fits P ts xs=bv->fits P ts ys=bv->cN P (Op.equalIn d t (.agg ⟨xs⟩) (.agg ⟨ys⟩))=ap (BB xs ys)) :
  ∀(fs:List Field)(o:Nat)(ts:List ii)(xs ys:List gt),ld P (flat P d) fs o=ap ts->o<=xs.length->o<=ys.length->fits P ts (xs.drop o)=bv->fits P ts (ys.drop o)=bv->cN P (Op.eqFields d ⟨xs⟩ ⟨ys⟩ fs)=ap (BB (xs.drop o) (ys.drop o))
 |[],o,ts,xs,ys,h,_,_,hx,y=>by simp only[ld,i5]at h;subst h;have k:=jE hx;have C:=jE y;rw[zE7 k.symm,zE7 C.symm];rfl
 |f::fs,o,ts,xs,ys,h,D,F,hx,y=>by
  simp only[ld]at h;split at h
  .rename_i G;obtain⟨I,J⟩:=G
   cases e:flat P d f.type with
   |none=>rw[e]at h; cases h
   |some a =>
    rw[e]at h;simp only at h;split at h
    .rename_i l
     cases z:ld P (flat P d) fs (o+a.length) with
     |none=>rw[z]at h; cases h
     |some b =>
      rw[z]at h;simp only[i5]at h;subst h;obtain⟨g,m,n⟩:=q8 hx;obtain⟨j,p,q⟩:=q8 y;have r:=AL n q;rw[List.drop_drop]at m p;rw[List.drop_drop,List.drop_drop]at r;rw[zC1]at n q;have A:=rR B fs (o+a.length) b xs ys z li li m p
      cases d with
      |zero=>simp[flat]at e
      |succ d =>
       obtain⟨x,c⟩:=MM e;have k:x=gc->a.length=1:=fun M=>by subst M; rw[uR e c]; rfl
       simp only[Op.eqFields,I,ne_eq,not_false_eq_true,if_true,dx,J];rw[xA c l k li,xA c l k li];simp only[zA4]
       have O:cN P (Op.equalIn (d+1) f.type (if x then .agg ⟨(xs.drop o).take a.length⟩ else xs.getD o undef) (if x then .agg ⟨(ys.drop o).take a.length⟩ else ys.getD o undef))=ap (BB ((xs.drop o).take a.length) ((ys.drop o).take a.length)):=by
        cases x with
        |true=>simp only[if_true]; exact B f.type a _ _ e c g j
        |false =>
         have R:=uR e c;have U:=k rfl;subst R;have s:o<xs.length:=by omega
         have v:o<ys.length:=by omega
         have S:(xs.drop o).take 1=[xs.getD o undef]:=by rw[List.take_one,List.head?_drop,zB3 s,zE3,zB3 s]; rfl
         have T:(ys.drop o).take 1=[ys.getD o undef]:=by rw[List.take_one,List.head?_drop,zB3 v,zE3,zB3 v]; rfl
         simp only[List.length_singleton,S,T,fits,Bool.and_true]at g j ⊢;simp only[zC8,if_false,Jy g j,BB,Bool.and_true]
       rw[O,zA4,r]
       cases BB ((xs.drop o).take a.length) ((ys.drop o).take a.length) with
       |true=>simp only[zE4,zC8,if_false,Bool.true_and]; exact A
       |false=>simp only[Bool.not_false,if_true,dv,zF7]
    .cases h
  .cases h
def AN:∀(d:Nat)(t:ii)(ts:List ii)(xs ys:List gt),flat P d t=ap ts->ey P t=ap bv->fits P ts xs=bv->fits P ts ys=bv->cN P (Op.equalIn d t (.agg ⟨xs⟩) (.agg ⟨ys⟩))=ap (BB xs ys)
 |0,t,ts,xs,ys,h,_,_,_=>by simp[flat]at h
 |d+1,t,ts,xs,ys,h,b,hx,c=>by
  simp only[flat]at h;unfold ey at b
  cases e:P.underlying t with
  |none=>rw[e]at b; cases b
  |some g =>
   rw[e]at h b;cases g<;>simp only[reduceCtorEq,i5,zC8]at b h;rename_i fs;split at h
   .cases h
   .rename_i j;rw[BW e (by simpa using j)];exact rR (AN d) fs.toList 0 ts xs ys h (zB7 _) (zB7 _) hx c
def z6{c:BinOp}{t:ii}{ts:List ii}{xs ys:List gt}{x y:i4}{r:Bool}(h:flat P 10000 t=ap ts)(g:ey P t=ap bv)(j:P.eqGuardType P.depth t=gc)(hx:fits P ts xs=bv)(k:fits P ts ys=bv)(b:sH c (BB xs ys)=ap (kw r)) :
  iZ P (do eqGuard c t x y (.agg ⟨xs⟩) (.agg ⟨ys⟩); binOp c t (.agg ⟨xs⟩) (.agg ⟨ys⟩))=ap (.value (kw r)):=by
 have e:=AN 10000 t ts xs ys h g hx k;cases c<;>simp only[sH,i5,Value.bool.injEq,reduceCtorEq]at b
 all_goals
  subst b;simp only[iZ,dx,eqGuard,jw,dv,zA4,j,Bool.not_false,zE4,if_true,zC8,if_false,binOp,Op.equal,Op.maxDepth,e,af]
def D4{H:aa}{b:BinOp}{t:ii}{xs:Array gt}{y:gt}:df P H b t (.agg xs) y=none:=by cases y<;>rfl
def sq:∀ {ts:List ii} {vs:List gt},fits P ts vs=bv->Cz vs=bv
 |[],[],_=>rfl
 |[],_::_,h=>by simp[fits]at h
 |_::_,[],h=>by simp[fits]at h
 |t::ts,v::vs,h=>by
  simp only[fits,zA7]at h;have b:=h.1;unfold pr at b;have:af v=true:=by split at b<;>first|rfl|cases b
  simp only[Cz,this,sq h.2,zD8]
variable{ro:Option Nat}{H:aa}{N:Nat}{E:Env}{ds:List Deferred}
def IV{c:Op}{ops:Array Oper}{anc:List Nat}{d:Nat}{ty:ii}{pos:String}{after:Array Edge}{rest:List Oper}{i:Nat}{fps:List Fp}{Q:ai->aa->Prop}{v:gt}
  (e:iM P ⟨ap d,c,ty,pos,after,bi⟩ (bj N E ds) H (anc.getD i 0) i fps=CD P ⟨ap d,c,ty,pos,after,bi⟩ (bj N E ds) H (anc.getD i 0) i fps) (hx:∀ G,cj c P (bj N E ds) G=ap (.value v,G)) (g:ae v=[]) (j:d<N)
  (h:eV P ops anc rest (i+1) (⟨i,[],[],H.next,H.next⟩::fps) (bj N (cy E d v) ds) H Q):eV P ops anc (⟨ap d,c,ty,pos,after,bi⟩::rest) i fps (bj N E ds) H Q:=by
 have b:=aI H [];simp only[eV,cG];rw[e];refine⟨[],v,H.restrict [],gL (hx _) ⟨rfl,rfl⟩,by simp,(by rw[b.2.2]; simp),fun r _=>iL ?_,?_⟩
 .simp only[fV,b.2.2,b.1,zG0,c8,zD4,List.flatMap_nil,g];exact .inr ⟨by simp,by simp,fun _=>⟨by simp,by simp⟩⟩
 .rw[nC,b.2.2,b.1];simp only[cW N E ds d _ j];exact h
def QF{g:BinOp}{t u:ii}{x y:i4}{ts:List ii}{xs ys:List gt}{r:Bool}{ops:Array Oper}{anc:List Nat}{d:Nat}{ty:ii}{pos:String}{after:Array Edge}{rest:List Oper}{i:Nat}{fps:List Fp}{Q:ai->aa->Prop}
  (h:flat P 10000 t=ap ts) (m:ey P t=ap bv) (n:P.eqGuardType P.depth t=gc) (e:sH g (BB xs ys)=ap (kw r)) (hx:bd P N x=bv) (j:bd P N y=bv) (o:d<N) (b:bX E x=.agg ⟨xs⟩) (c:bX E y=.agg ⟨ys⟩) (k:fits P ts xs=bv) (l:fits P ts ys=bv)
  (p:eV P ops anc rest (i+1) (⟨i,[],[],H.next,H.next⟩::fps) (bj N (cy E d (kw r)) ds) H Q):eV P ops anc (⟨ap d,.binOp g t x y u,ty,pos,after,bi⟩::rest) i fps (bj N E ds) H Q:=by
 refine IV ?_ (fun G=>?_) rfl o p
 .funext K;simp only[iM,gC,Nc,aD hx,aD j,b,c,cP]
 .simp only[cj,BM,aD hx,aD j,b,c,zA1,zA4,zo,D4,af,KF,sq k,sq l,zD8,if_true,z6 h m n k l e,zB1]
def Ra{g:BinOp}{t u:ii}{x y:i4}{ts:List ii}{xs ys:List gt}{r:Bool}{ops:Array Oper}{d:Nat}{ty:ii}{pos:String}{after:Array Edge}{rest:List Oper}{Q:Exit->ai->aa->Prop}
  (h:flat P 10000 t=ap ts) (l:ey P t=ap bv) (m:P.eqGuardType P.depth t=gc) (b:sH g (BB xs ys)=ap (kw r)) (hx:bd P N x=bv) (n:bd P N y=bv) (o:d<N) (c:bX E x=.agg ⟨xs⟩) (e:bX E y=.agg ⟨ys⟩) (j:fits P ts xs=bv) (k:fits P ts ys=bv)
  (p:wpOps P ro ops rest (bj N (cy E d (kw r)) ds) H Q):wpOps P ro ops (⟨ap d,.binOp g t x y u,ty,pos,after,bi⟩::rest) (bj N E ds) H Q:=by
 rw[qW (x:=ap (kw r)) rfl ?_ o,ji]
 .exact p
 .simp only[cj,BM,aD hx,aD n,c,e,zA1,zA4,zo,D4,af,KF,sq j,sq k,zD8,if_true,z6 h l m j k b,zB1];rfl
end
section
variable{P:io}{ro:Option Nat}{H:aa}
variable{N:Nat}{E:Env}{ds:List Deferred}{ops:Array Oper}{anc:List Nat}{ty:ii}{pos:String}{after:Array Edge}{rest:List Oper}{i:Nat}{fps:List Fp}
end
section
variable{P:io}{H:aa}
def Ly{st xt e:ii}{sz by1 m off k cap n:Nat}{sp:Option Nat}{z x:gt}{new:List gt}(l:P.underlying st=ap (.slice e))(b:bg P e=ap sz)(c:bytesOf P e=ap by1)(o:zeroOf P e=ap z)(h:z.cells.toList.length=sz)(hi:fM P xt=ap gc)
  (hx:kz x=ap n) (p:dj H sz n x=ap new) (q:new.length=n*sz) (r:k+n<=cap) (j:small (k+n) by1=bv) :
  aF P H .append ⟨[st,xt]⟩ [jp (ap ⟨m,off,sp⟩) k cap,x]=(dX H m (off+k*sz) new).map fun g=>(jp (ap ⟨m,off,sp⟩) (k+n) cap,g):=by
 simp only[aF,fL,l,b,c,o,hi,zA1,zA4,hx,p,q,h,j,and_self,if_true,dU,r];cases dX H m (off+k*sz) new<;>rfl
def Qe{st xt e:ii}{sz by1:Nat}{z x:gt}(j:P.underlying st=ap (.slice e))(b:bg P e=ap sz)(c:bytesOf P e=ap by1)(k:zeroOf P e=ap z)(g:z.cells.toList.length=sz)(hi:fM P xt=ap gc)
  (hx:kz x=ap 0) (l:dj H sz 0 x=ap []) :
  aF P H .append ⟨[st,xt]⟩ [jp bi 0 0,x]=ap (jp bi 0 0,H):=by
 have h:small (0+0) by1=true:=by simp[small]
 simp only[aF,fL,j,b,c,k,hi,zA1,zA4,hx,l,zB0,Nat.zero_mul,g,h,and_self,if_true,dU,zA5,zC6]
def my{N:Nat}{E:Env}{ds:List Deferred}{ops:Array Oper}{anc:List Nat}{o:Oper}{W:List Nat}{rest:List Oper}{i:Nat}{fps:List Fp}{Q:ai->aa->Prop}{v:gt}{g:aa}
  (F:List Nat) (I:H.base<=H.next) (J:∀ n∈F,H.get n≠bi) (m:∀ n∈F,n<H.next) (M:∀ n∈W,n∈F)
  (O:F8 P (bj N E ds) (H.restrict F) o (.ok v) g) (e:Mod W (H.restrict F) g)
  (R:∀ r∈fps,(anc.getD i 0).testBit r.i=bv\/(r.hi<=r.lo/\(∀ n∈r.W,n∉F)/\(∀ n∈r.F,n∉W)))
  (h:∀ p D,Mod W H p->(∀ n∈F,p.get n=g.get n)->(∀ n,H.next<=n->n<g.next->p.get n=g.get n)->p.next=g.next->(∀ n∈D,n∈W)->eV P ops anc rest (i+1) (⟨i,F,D,H.next,g.next⟩::fps) ((bj N E ds).put o.dst v) p Q) :
  mh P ops anc o rest i fps (bj N E ds) H Q:=by
 have t:=aI H F
 have q:∀ n∈g.dirty,n∈W:=by
  intro n S;rcases e.dirty n S with h|h
  .rw[t.2.2]at h; cases h
  .exact h.1
 have b:H.next<=g.next:=by have:=e.next; rw[t.1]at this; exact this
 have x:∀ n∈F,(H.merge g).get n=g.get n:=by
  intro n k;by_cases c:n∈g.dirty
  .exact kq H g b (.inl c)
  .rw[fC H g b]
   .rw[e.jZ n (by rw[t.2.1]; exact m n k) c,bf,if_pos k]
   .rintro (h'|h')
    .exact c h'
    .have:=m n k; omega
 have j:=jD H g;refine⟨F,v,g,?_,J,fun n h'=>M n (q n h'),fun r T=>iL ?_,?_⟩
 .exact O
 .rcases R r T with h'|⟨G,y,U⟩
  .exact .inl h'
  .exact .inr ⟨y,fun n z A=>U n z (q n A),fun s=>absurd s li⟩
 .refine h (H.merge g) g.dirty ⟨by rw[j.1]; exact b,j.2.1,fun n V B=>?_,j.2.2.1,fun n l=>?_,fun n C l=>?_⟩ x (fun n G y=>kq H g b (.inr ⟨G,y⟩)) j.1 q
  .rw[fC H g b];rintro (h'|h')
   .exact B (q n h')
   .omega
  .rcases vF H g n l with h'|h'
   .exact .inl h'
   .exact .inr ⟨q n h'.1,h'.2⟩
  .by_cases c:n∈g.dirty
   .exact absurd (j.2.2.2 n c C) l
   .rw[fC H g b];rintro (h'|h')
    .exact c h'
    .omega
def sL{N:Nat}{E:Env}{ds:List Deferred}{ops:Array Oper}{anc:List Nat}{o:Oper}{d:Nat}{rest:List Oper}{i:Nat}{fps:List Fp}{Q:ai->aa->Prop}{v:gt}{M:List Bl}(F:List Nat)(y:o.dst=ap d)(hd:d<N)(hF:∀ n∈F,H.get n≠bi)
  (hc:∀ G:aa,G.next=H.next->(∀ n∈F,G.get n=H.get n)->F8 P (bj N E ds) G o (.ok v) (ext G M)) (hm:∀ r∈fps,fw (anc.getD i 0) F [] (ae v++M.flatMap fun x=>gH x.l) r)
  (h:eV P ops anc rest (i+1) (⟨i,F,[],H.next,H.next+M.length⟩::fps) (bj N (cy E d v) ds) (ext H M) Q):mh P ops anc o rest i fps (bj N E ds) H Q:=by
 have D:=aI H F;have b:(ext (H.restrict F) M).dirty=[]:=by rw[gm,D.2.2]
 have p:(ext (H.restrict F) M).next=H.next+M.length:=by rw[aA,D.1]
 have c:∀ j,j<M.length->(ext (H.restrict F) M).get (H.next+j)=M[j]?.map Bl.obj:=by intro j J;rw[<-D.1];exact eW J
 have O:∀(M:List Bl)(K g:aa)(m:Nat),K.next=m->(∀ j,j<M.length->g.get (m+j)=M[j]?.map Bl.obj)->∀ t,t=aa.cF K g m M.length->(⟨t.root,m+M.length,t.base,t.dirty⟩:aa)=ext K M:=by
  intro M
  induction M with
  |nil=>intro K g m I _ t z; subst I; subst z; rfl
  |cons x M R =>
   intro K g m I hg t z;have h0:=hg 0 lw;simp only[zD6,zF3,zB1]at h0;rw[zA3]at z;simp only[aa.cF,h0]at z
   have:=R (nw K x.e x.l x.o) g (m+1) (by rw[iF,I]) (fun j J=>by
    have:=hg (j+1) (by simpa using J);simp only[zG6]at this;rw[show m+1+j=m+(j+1) by omega]
    exact this) (aa.cF (nw K x.e x.l x.o) g (m+1) M.length) rfl
   have S:∀(A B:aa)(n k:Nat),A.root=B.root->A.base=B.base->A.dirty=B.dirty->(aa.cF A g n k).root=(aa.cF B g n k).root/\(aa.cF A g n k).base=(aa.cF B g n k).base/\(aa.cF A g n k).dirty=(aa.cF B g n k).dirty:=by
    intro A B n k
    induction k generalizing A B n with
    |zero=>exact fun T U V=>⟨T,U,V⟩
    |succ k X =>intro T U V;simp only[aa.cF];exact X _ _ _ (by simp only[aa.put_eq,T]) U V
   have Y:=S (nw K x.e x.l x.o) (K.put m (ap x.obj)) (m+1) M.length (by simp only[nw,aa.o5,aa.put_eq,I,Bl.obj]) rfl rfl;rw[ext,<-this,z,Y.1,Y.2.1,Y.2.2,zA3,show m+(M.length+1)=m+1+M.length by omega]
 have Z:H.merge (ext (H.restrict F) M)=ext H M:=by unfold aa.merge;rw[b,p,zF9];simp only[aa.eA];exact O M H _ H.next rfl c _ rfl
 refine⟨F,v,ext (H.restrict F) M,?_,hF,(by rw[b]; simp),fun r hr=>iL ?_,?_⟩
 .exact hc _ D.1 (fun n hn'=>by rw[bf,if_pos hn'])
 .have C:∀(k s:Nat),s+k=M.length->(c8 (H.next+s) k).flatMap (eY (ext (H.restrict F) M))=(M.drop s).flatMap fun x=>gH x.l:=by
   intro k
   induction k with
   |zero=>intro s hs; rw[c8,zE8 li]; rfl
   |succ k R =>
    intro s hs;have q:s<M.length:=by omega
    rw[c8,List.flatMap_cons,List.drop_eq_getElem_cons q,List.flatMap_cons];have:=R (s+1) li;rw[show H.next+(s+1)=H.next+s+1 by omega]at this;rw[this];congr 1;simp only[eY,c s q,zB3 q,zB1,Bl.obj,p8,RV.n_ofList,RV.jG]
  have:=C M.length 0 li;simp only[zD6,zD2]at this;rw[b];simp only[fV,b,p,zF9,zD0,this];exact hm r hr
 .rw[Z,b,p];simp only[y,cW N E ds d v hd];exact h
def ng:∀(b old new:List gt),new.length<=old.length->cQ (b++old) b.length new=b++(new++old.drop new.length)
 |[],old,new,h=>by
  simp only[zD0,zB0]
  induction new generalizing old with
  |nil=>cases old<;>rfl
  |cons y ys c =>
   cases old with
   |nil=>simp at h
   |cons x xs =>simp only[zA3,Nat.add_le_add_iff_right]at h;simp only[cQ,c xs h,zA3,List.drop_succ_cons,zG1]
 |p::b,old,new,h=>by simp only[zG1,zA3,cQ,ng b old new h]
end
section
variable{P:io}{ro:Option Nat}{H:aa}{N:Nat}{E:Env}{ds:List Deferred}
variable{ops:Array Oper}{anc:List Nat}{d:Nat}{ty:ii}{pos:String}{after:Array Edge}{rest:List Oper}{i:Nat}{fps:List Fp}{Q:ai -> aa -> Prop}
def MB{x:i4}{t:ii}(hx:bd P N x=bv)(c:d<N)(h:(JG (bX E x)).isSome=bv):eV P ops anc (⟨ap d,.unOp .not t x,ty,pos,after,bi⟩::rest) i fps (bj N E ds) H Q=nY P ops anc rest i fps N E ds d H Q (JG (bX E x)) :=
 qx rfl (by
  simp only[cj,QZ,aD hx,zA1,zA4]
  cases e:bX E x with
  |bool b=>rfl
  |_=>rw[e]at h; cases h) c
def Bp{N:Nat}{E:Env}{ds:List Deferred}{ro:Option Nat}{ops:Array Oper}{o:Oper}{rest:List Oper}{Q:Exit->ai->aa->Prop}{want:Bool}:jn P ro ops o rest N E ds H Q want undef=wpOps P ro ops rest ((bj N E ds).put o.dst undef) H Q:=by simp only[jn,undef]
def Ay{N:Nat}{E:Env}{ds:List Deferred}{ops:Array Oper}{anc:List Nat}{o:Oper}{rest:List Oper}{i:Nat}{fps:List Fp}{Q:ai->aa->Prop}{want:Bool}:jg P ops anc o rest i fps N E ds H Q want undef=eV P ops anc rest (i+1) fps ((bj N E ds).put o.dst undef) H Q:=by simp only[jg,undef]
end
theorem uv{α β:Type}(a:α)(f:α->Option β):(ap a).bind f=f a:=rfl
theorem xg{α β:Type}(a:α)(f:α->β):(ap a).map f=ap (f a):=rfl
theorem wM{α β:Type}(f:α->β)(a:α)(l:List α):(a::l).map f=f a::l.map f:=rfl
theorem A3{α β:Type}(f:α->β):([]:List α).map f=[]:=rfl
theorem jX{α:Type}(a:α)(l:List α):(a::l)[0]?=ap a:=rfl
def jV{α:Type}(a:α)(l:List α)(i:Nat):(a::l)[i+1]?=l[i]?:=zG6
theorem I9{α:Type}(a b:α):(a≠b)=¬a=b:=rfl
def jW:(¬False)=True:=not_false_eq_true
theorem uX:(!gc)=true:=rfl
theorem xc:(!bv)=false:=rfl
theorem qn{α:Type}(a:α)(l:List α):(a::l).length=l.length+1:=rfl
theorem rm{α:Type}:([]:List α).length=0:=rfl
theorem nR{α:Type}(a b:α)(l:List α):(a::l).set 0 b=b::l:=rfl
theorem nU{α:Type}(a b:α)(l:List α)(i:Nat):(a::l).set (i+1) b=a::l.set i b:=rfl
theorem rW{α:Type}(l:List α):[]++l=l:=rfl
theorem qc{α:Type}(a:α)(l m:List α):(a::l)++m=a::(l++m):=rfl
theorem ml{α:Type}(a:α)(l:List α)(i:Nat):(a::l).drop (i+1)=l.drop i:=rfl
theorem um{α:Type}(l:List α):l.drop 0=l:=rfl
theorem lT{α:Type}(a:α)(l:List α)(i:Nat):(a::l).take (i+1)=a::l.take i:=rfl
def uc{α:Type}(l:List α):l.take 0=[]:=List.take_zero
def Af{α:Type}(a b:α):(if True then a else b)=a:=if_true a b
def wY(p:Prop):(True/\p)=p:=true_and p
def xj(p:Prop):(p/\True)=p:=and_true p
def zL(p:Prop):(p\/True)=True:=or_true p
def AG(p:Prop):(True\/p)=True:=true_or p
def xQ(p:Prop):(p/\p)=p:=and_self p
def n8(p:Prop):(p->True)=True:=eq_true fun _=>trivial
def pg(p:Prop):(True->p)=p:=propext ⟨fun h=>h trivial,fun h _=>h⟩
def y8{α:Type}:(α->True)=True:=eq_true fun _=>trivial
def aE:type_of% (zA0 (zA0 (zA0 (zA0 (zA0 (@xi) (@yU)) (zA0 (@Lb) (@ok_int))) (zA0 (zA0 (@H6) (@pN)) (zA0 (@A8) (@uI)))) (zA0 (zA0 (zA0 (@AA) (@yC)) (zA0 (@IT) (@Bf))) (zA0 (zA0 (@IS) (@E5)) (zA0 (@wD) (@all_nil))))) (zA0 (zA0 (zA0 (zA0 (@all_cons) (@M0)) (zA0 (@Ib) (@C8))) (zA0 (zA0 (@pmap_nil) (@pmap_cons)) (zA0 (@yc) (@isSome_some)))) (zA0 (zA0 (zA0 (@uv) (@wM)) (zA0 (@A3) (@jX))) (zA0 (zA0 (@jV) (@I9)) (zA0 (@jW) (zA0 (@uX) (@xc))))))) :=
 zA0 (zA0 (zA0 (zA0 (zA0 (@xi) (@yU)) (zA0 (@Lb) (@ok_int))) (zA0 (zA0 (@H6) (@pN)) (zA0 (@A8) (@uI)))) (zA0 (zA0 (zA0 (@AA) (@yC)) (zA0 (@IT) (@Bf))) (zA0 (zA0 (@IS) (@E5)) (zA0 (@wD) (@all_nil))))) (zA0 (zA0 (zA0 (zA0 (@all_cons) (@M0)) (zA0 (@Ib) (@C8))) (zA0 (zA0 (@pmap_nil) (@pmap_cons)) (zA0 (@yc) (@isSome_some)))) (zA0 (zA0 (zA0 (@uv) (@wM)) (zA0 (@A3) (@jX))) (zA0 (zA0 (@jV) (@I9)) (zA0 (@jW) (zA0 (@uX) (@xc))))))
def fX:type_of% (zA0 (zA0 (zA0 (zA0 (zA0 (zA0 (zA0 (@Rw) (@Em)) (zA0 (@vd) (@Ad))) (zA0 (zA0 (@AI) (@Bp)) (zA0 (@Mp) (zA0 (@DR) (@LX))))) (zA0 (zA0 (zA0 (@DO) (@M6)) (zA0 (@Ei) (@PA))) (zA0 (zA0 (@MD) (@PC)) (zA0 (@KW) (zA0 (@LP) (@CB)))))) (zA0 (zA0 (zA0 (zA0 (@Az) (@Pz)) (zA0 (@HK) (@MY))) (zA0 (zA0 (@zX) (@PF)) (zA0 (@wU) (zA0 (@uV) (@uT))))) (zA0 (zA0 (zA0 (@Hh) (@MJ)) (zA0 (@Hb) (@PI))) (zA0 (zA0 (@G3) (@su)) (zA0 (@vj) (zA0 (@Hl) (@lS))))))) (zA0 (zA0 (zA0 (zA0 (zA0 (@mn) (@ur)) (zA0 (@iB) (@MO))) (zA0 (zA0 (@MV) (@ji)) (zA0 (@yX) (zA0 (@vC) (@ve))))) (zA0 (zA0 (zA0 (@EF) (@tg)) (zA0 (@qs) (@yJ))) (zA0 (zA0 (@od) (@qB)) (zA0 (@Am) (zA0 (@qR) (@om)))))) (zA0 (zA0 (zA0 (zA0 (@Dq) (@uO)) (zA0 (@Nb) (@A5))) (zA0 (zA0 (@AZ) (@De)) (zA0 (@wJ) (zA0 (@ui) (@G8))))) (zA0 (zA0 (zA0 (@H9) (@HV)) (zA0 (@He) (@IX))) (zA0 (zA0 (@Ig) (@HW)) (zA0 (@Jb) (zA0 (@ID) (@IG)))))))) (zA0 (zA0 (zA0 (zA0 (zA0 (zA0 (@IA) (@Ht)) (zA0 (@Mf) (@K0))) (zA0 (zA0 (@Hg) (@xE)) (zA0 (@xM) (zA0 (@Mz) (@Nu))))) (zA0 (zA0 (zA0 (@kB) (@aA)) (zA0 (@Hd) (@gN))) (zA0 (zA0 (@bJ) (@iI)) (zA0 (@lL) (zA0 (@zk) (@Bo)))))) (zA0 (zA0 (zA0 (zA0 (@A2) (@nA)) (zA0 (@bE) (@eJ))) (zA0 (zA0 (@bR) (@r6)) (zA0 (@uz) (zA0 (@et) (@xg))))) (zA0 (zA0 (zA0 (@Bc) (@xu)) (zA0 (@uB) (@kr))) (zA0 (zA0 (@xv) (@vt)) (zA0 (@HM) (zA0 (@DG) (@zJ))))))) (zA0 (zA0 (zA0 (zA0 (zA0 (@xx) (@Ez)) (zA0 (@KK) (@HA))) (zA0 (zA0 (@MA) (@Im)) (zA0 (@zM) (zA0 (@vE) (@yP))))) (zA0 (zA0 (zA0 (@Ie) (@KM)) (zA0 (@DN) (@My))) (zA0 (zA0 (@KJ) (@Ni)) (zA0 (@La) (zA0 (@add_add) (@qn)))))) (zA0 (zA0 (zA0 (zA0 (@rm) (@nR)) (zA0 (@nU) (@rW))) (zA0 (zA0 (@qc) (@ml)) (zA0 (@um) (zA0 (@lT) (@uc))))) (zA0 (zA0 (zA0 (@Af) (@MP)) (zA0 (@vz) (@ME))) (zA0 (zA0 (@L0) (@HP)) (zA0 (@I6) (zA0 (@Is) (@HD))))))))) :=
 zA0 (zA0 (zA0 (zA0 (zA0 (zA0 (zA0 (@Rw) (@Em)) (zA0 (@vd) (@Ad))) (zA0 (zA0 (@AI) (@Bp)) (zA0 (@Mp) (zA0 (@DR) (@LX))))) (zA0 (zA0 (zA0 (@DO) (@M6)) (zA0 (@Ei) (@PA))) (zA0 (zA0 (@MD) (@PC)) (zA0 (@KW) (zA0 (@LP) (@CB)))))) (zA0 (zA0 (zA0 (zA0 (@Az) (@Pz)) (zA0 (@HK) (@MY))) (zA0 (zA0 (@zX) (@PF)) (zA0 (@wU) (zA0 (@uV) (@uT))))) (zA0 (zA0 (zA0 (@Hh) (@MJ)) (zA0 (@Hb) (@PI))) (zA0 (zA0 (@G3) (@su)) (zA0 (@vj) (zA0 (@Hl) (@lS))))))) (zA0 (zA0 (zA0 (zA0 (zA0 (@mn) (@ur)) (zA0 (@iB) (@MO))) (zA0 (zA0 (@MV) (@ji)) (zA0 (@yX) (zA0 (@vC) (@ve))))) (zA0 (zA0 (zA0 (@EF) (@tg)) (zA0 (@qs) (@yJ))) (zA0 (zA0 (@od) (@qB)) (zA0 (@Am) (zA0 (@qR) (@om)))))) (zA0 (zA0 (zA0 (zA0 (@Dq) (@uO)) (zA0 (@Nb) (@A5))) (zA0 (zA0 (@AZ) (@De)) (zA0 (@wJ) (zA0 (@ui) (@G8))))) (zA0 (zA0 (zA0 (@H9) (@HV)) (zA0 (@He) (@IX))) (zA0 (zA0 (@Ig) (@HW)) (zA0 (@Jb) (zA0 (@ID) (@IG)))))))) (zA0 (zA0 (zA0 (zA0 (zA0 (zA0 (@IA) (@Ht)) (zA0 (@Mf) (@K0))) (zA0 (zA0 (@Hg) (@xE)) (zA0 (@xM) (zA0 (@Mz) (@Nu))))) (zA0 (zA0 (zA0 (@kB) (@aA)) (zA0 (@Hd) (@gN))) (zA0 (zA0 (@bJ) (@iI)) (zA0 (@lL) (zA0 (@zk) (@Bo)))))) (zA0 (zA0 (zA0 (zA0 (@A2) (@nA)) (zA0 (@bE) (@eJ))) (zA0 (zA0 (@bR) (@r6)) (zA0 (@uz) (zA0 (@et) (@xg))))) (zA0 (zA0 (zA0 (@Bc) (@xu)) (zA0 (@uB) (@kr))) (zA0 (zA0 (@xv) (@vt)) (zA0 (@HM) (zA0 (@DG) (@zJ))))))) (zA0 (zA0 (zA0 (zA0 (zA0 (@xx) (@Ez)) (zA0 (@KK) (@HA))) (zA0 (zA0 (@MA) (@Im)) (zA0 (@zM) (zA0 (@vE) (@yP))))) (zA0 (zA0 (zA0 (@Ie) (@KM)) (zA0 (@DN) (@My))) (zA0 (zA0 (@KJ) (@Ni)) (zA0 (@La) (zA0 (@add_add) (@qn)))))) (zA0 (zA0 (zA0 (zA0 (@rm) (@nR)) (zA0 (@nU) (@rW))) (zA0 (zA0 (@qc) (@ml)) (zA0 (@um) (zA0 (@lT) (@uc))))) (zA0 (zA0 (zA0 (@Af) (@MP)) (zA0 (@vz) (@ME))) (zA0 (zA0 (@L0) (@HP)) (zA0 (@I6) (zA0 (@Is) (@HD))))))))
def bh:type_of% (zA0 (zA0 (zA0 (zA0 (zA0 (zA0 (@Dk) (@uK)) (zA0 (@qg) (@A7))) (zA0 (zA0 (@yg) (@Mw)) (zA0 (@NB) (zA0 (@HC) (@PT))))) (zA0 (zA0 (zA0 (@Eo) (@uG)) (zA0 (@AF) (@AQ))) (zA0 (zA0 (@Ay) (@Ir)) (zA0 (@AS) (zA0 (@zc) (@MB)))))) (zA0 (zA0 (zA0 (zA0 (@uE) (@rV)) (zA0 (@rQ) (@It))) (zA0 (zA0 (@IU) (@zi)) (zA0 (@Dc) (zA0 (@Hs) (@Nz))))) (zA0 (zA0 (zA0 (@Io) (@H8)) (zA0 (@HS) (@HE))) (zA0 (zA0 (@Iu) (@Je)) (zA0 (@Ij) (zA0 (@I2) (@I5))))))) (zA0 (zA0 (zA0 (zA0 (zA0 (@IF) (@G9)) (zA0 (@Ag) (@yR))) (zA0 (zA0 (@vB) (@Hu)) (zA0 (@D1) (zA0 (@Aw) (@vl))))) (zA0 (zA0 (zA0 (@vD) (@G4)) (zA0 (@EE) (@IZ))) (zA0 (zA0 (@wY) (@AX)) (zA0 (@Ar) (zA0 (@pg) (@Ai)))))) (zA0 (zA0 (zA0 (zA0 (@EV) (@tZ)) (zA0 (@LO) (@Hp))) (zA0 (zA0 (@IW) (@C3)) (zA0 (@A1) (zA0 (@bu) (@aj))))) (zA0 (zA0 (zA0 (@EH) (@DU)) (zA0 (@Bb) (@n8))) (zA0 (zA0 (@xj) (@zL)) (zA0 (@AG) (zA0 (@xQ) (@y8)))))))) :=
 zA0 (zA0 (zA0 (zA0 (zA0 (zA0 (@Dk) (@uK)) (zA0 (@qg) (@A7))) (zA0 (zA0 (@yg) (@Mw)) (zA0 (@NB) (zA0 (@HC) (@PT))))) (zA0 (zA0 (zA0 (@Eo) (@uG)) (zA0 (@AF) (@AQ))) (zA0 (zA0 (@Ay) (@Ir)) (zA0 (@AS) (zA0 (@zc) (@MB)))))) (zA0 (zA0 (zA0 (zA0 (@uE) (@rV)) (zA0 (@rQ) (@It))) (zA0 (zA0 (@IU) (@zi)) (zA0 (@Dc) (zA0 (@Hs) (@Nz))))) (zA0 (zA0 (zA0 (@Io) (@H8)) (zA0 (@HS) (@HE))) (zA0 (zA0 (@Iu) (@Je)) (zA0 (@Ij) (zA0 (@I2) (@I5))))))) (zA0 (zA0 (zA0 (zA0 (zA0 (@IF) (@G9)) (zA0 (@Ag) (@yR))) (zA0 (zA0 (@vB) (@Hu)) (zA0 (@D1) (zA0 (@Aw) (@vl))))) (zA0 (zA0 (zA0 (@vD) (@G4)) (zA0 (@EE) (@IZ))) (zA0 (zA0 (@wY) (@AX)) (zA0 (@Ar) (zA0 (@pg) (@Ai)))))) (zA0 (zA0 (zA0 (zA0 (@EV) (@tZ)) (zA0 (@LO) (@Hp))) (zA0 (zA0 (@IW) (@C3)) (zA0 (@A1) (zA0 (@bu) (@aj))))) (zA0 (zA0 (zA0 (@EH) (@DU)) (zA0 (@Bb) (@n8))) (zA0 (zA0 (@xj) (@zL)) (zA0 (@AG) (zA0 (@xQ) (@y8)))))))
end Go.Ax
namespace Go.Proofs.YtpohjcacnkhnkaaGreatDoor
open Go.Ax
set_option maxRecDepth 100000
def Sy:Tryz.prog.underlying 4=ap .bool:=by kernel_rfl
def mixed:Tryz.prog.follows .mixedOrders=true:=by kernel_rfl
def Ss :
  (∀ n off:Nat,aG Tryz.prog 41 (i9 (ap ⟨n,off,bi⟩)) 0=ap (i9 (ap ⟨n,off,bi⟩))) /\
  (∀ n off:Nat,aG Tryz.prog 41 (i9 (ap ⟨n,off,bi⟩)) 1=ap (i9 (ap ⟨n,off+1,bi⟩))) /\
  (∀ n off:Nat,aG Tryz.prog 41 (i9 (ap ⟨n,off,bi⟩)) 2=ap (i9 (ap ⟨n,off+2,bi⟩))) /\
  (∀ n off:Nat,aG Tryz.prog 44 (i9 (ap ⟨n,off,bi⟩)) 0=ap (i9 (ap ⟨n,off,bi⟩))) /\
  (∀ n off:Nat,aG Tryz.prog 44 (i9 (ap ⟨n,off,bi⟩)) 1=ap (i9 (ap ⟨n,off+1,bi⟩))) /\
  (∀ n off:Nat,aG Tryz.prog 44 (i9 (ap ⟨n,off,bi⟩)) 2=ap (i9 (ap ⟨n,off+2,bi⟩))) /\
  (∀ n off:Nat,aG Tryz.prog 44 (i9 (ap ⟨n,off,bi⟩)) 3=ap (i9 (ap ⟨n,off+3,bi⟩))) /\
  (∀ n off:Nat,aG Tryz.prog 44 (i9 (ap ⟨n,off,bi⟩)) 4=ap (i9 (ap ⟨n,off+4,bi⟩))) /\
  (∀ n off:Nat,aG Tryz.prog 58 (i9 (ap ⟨n,off,bi⟩)) 0=ap (i9 (ap ⟨n,off,bi⟩))) /\
  (∀ n off:Nat,aG Tryz.prog 58 (i9 (ap ⟨n,off,bi⟩)) 1=ap (i9 (ap ⟨n,off+1,bi⟩))) /\
  (∀ n off:Nat,aG Tryz.prog 58 (i9 (ap ⟨n,off,bi⟩)) 2=ap (i9 (ap ⟨n,off+2,bi⟩))) /\
  (∀ n off:Nat,aG Tryz.prog 58 (i9 (ap ⟨n,off,bi⟩)) 3=ap (i9 (ap ⟨n,off+3,bi⟩))) /\
  (∀ n off:Nat,aG Tryz.prog 58 (i9 (ap ⟨n,off,bi⟩)) 4=ap (i9 (ap ⟨n,off+4,bi⟩))) /\
  (∀ n off:Nat,aG Tryz.prog 58 (i9 (ap ⟨n,off,bi⟩)) 5=ap (i9 (ap ⟨n,off+9,bi⟩))) /\
  (∀ n off:Nat,aG Tryz.prog 64 (i9 (ap ⟨n,off,bi⟩)) 0=ap (i9 (ap ⟨n,off,bi⟩))) /\
  (∀ n off:Nat,aG Tryz.prog 64 (i9 (ap ⟨n,off,bi⟩)) 1=ap (i9 (ap ⟨n,off+1,bi⟩))) /\
  (∀ n off:Nat,aG Tryz.prog 64 (i9 (ap ⟨n,off,bi⟩)) 2=ap (i9 (ap ⟨n,off+2,bi⟩))) /\
  (∀ n off:Nat,aG Tryz.prog 66 (i9 (ap ⟨n,off,bi⟩)) 0=ap (i9 (ap ⟨n,off,bi⟩))) /\
  (∀ n off:Nat,aG Tryz.prog 66 (i9 (ap ⟨n,off,bi⟩)) 1=ap (i9 (ap ⟨n,off+7,bi⟩))) /\
  (∀ n off:Nat,aG Tryz.prog 66 (i9 (ap ⟨n,off,bi⟩)) 2=ap (i9 (ap ⟨n,off+14,bi⟩))) /\
  (∀ n off:Nat,aG Tryz.prog 66 (i9 (ap ⟨n,off,bi⟩)) 3=ap (i9 (ap ⟨n,off+15,bi⟩))) /\
  (∀ n off:Nat,aG Tryz.prog 66 (i9 (ap ⟨n,off,bi⟩)) 4=ap (i9 (ap ⟨n,off+16,bi⟩))) /\
  (∀ n off:Nat,aG Tryz.prog 66 (i9 (ap ⟨n,off,bi⟩)) 5=ap (i9 (ap ⟨n,off+17,bi⟩))) /\
  (∀ n off:Nat,aG Tryz.prog 66 (i9 (ap ⟨n,off,bi⟩)) 6=ap (i9 (ap ⟨n,off+18,bi⟩))) /\
  (∀ n off:Nat,aG Tryz.prog 66 (i9 (ap ⟨n,off,bi⟩)) 7=ap (i9 (ap ⟨n,off+19,bi⟩))) /\
  (∀ n off:Nat,aG Tryz.prog 66 (i9 (ap ⟨n,off,bi⟩)) 8=ap (i9 (ap ⟨n,off+20,bi⟩))) /\
  (∀ n off:Nat,aG Tryz.prog 66 (i9 (ap ⟨n,off,bi⟩)) 9=ap (i9 (ap ⟨n,off+21,bi⟩))) /\
  (∀ n off:Nat,aG Tryz.prog 66 (i9 (ap ⟨n,off,bi⟩)) 10=ap (i9 (ap ⟨n,off+22,bi⟩))) /\
  (∀ n off:Nat,aG Tryz.prog 69 (i9 (ap ⟨n,off,bi⟩)) 0=ap (i9 (ap ⟨n,off,bi⟩))) /\
  (∀ n off:Nat,aG Tryz.prog 69 (i9 (ap ⟨n,off,bi⟩)) 1=ap (i9 (ap ⟨n,off+1,bi⟩))) /\
  (∀ n off:Nat,aG Tryz.prog 69 (i9 (ap ⟨n,off,bi⟩)) 2=ap (i9 (ap ⟨n,off+2,bi⟩))) /\
  (∀ n off:Nat,aG Tryz.prog 71 (i9 (ap ⟨n,off,bi⟩)) 0=ap (i9 (ap ⟨n,off,bi⟩))) /\
  (∀ n off:Nat,aG Tryz.prog 71 (i9 (ap ⟨n,off,bi⟩)) 1=ap (i9 (ap ⟨n,off+1,bi⟩))) /\
  (∀ n off:Nat,aG Tryz.prog 71 (i9 (ap ⟨n,off,bi⟩)) 2=ap (i9 (ap ⟨n,off+8,bi⟩))) /\
  (∀ n off:Nat,aG Tryz.prog 71 (i9 (ap ⟨n,off,bi⟩)) 3=ap (i9 (ap ⟨n,off+15,bi⟩))) /\
  (∀ n off:Nat,aG Tryz.prog 71 (i9 (ap ⟨n,off,bi⟩)) 4=ap (i9 (ap ⟨n,off+16,bi⟩))) /\
  (∀ n off:Nat,aG Tryz.prog 71 (i9 (ap ⟨n,off,bi⟩)) 5=ap (i9 (ap ⟨n,off+17,bi⟩))) /\
  (∀ n off:Nat,aG Tryz.prog 71 (i9 (ap ⟨n,off,bi⟩)) 6=ap (i9 (ap ⟨n,off+18,bi⟩))) /\
  (∀ n off:Nat,aG Tryz.prog 77 (i9 (ap ⟨n,off,bi⟩)) 0=ap (i9 (ap ⟨n,off,bi⟩))) /\
  (∀ n off:Nat,aG Tryz.prog 150 (i9 (ap ⟨n,off,bi⟩)) 0=ap (i9 (ap ⟨n,off,bi⟩))) /\
  (∀ n off:Nat,aG Tryz.prog 150 (i9 (ap ⟨n,off,bi⟩)) 1=ap (i9 (ap ⟨n,off+1,bi⟩))) /\
  (∀ n off:Nat,aG Tryz.prog 163 (i9 (ap ⟨n,off,bi⟩)) 0=ap (i9 (ap ⟨n,off,bi⟩))) /\
  (∀ n off:Nat,aG Tryz.prog 163 (i9 (ap ⟨n,off,bi⟩)) 1=ap (i9 (ap ⟨n,off+1,bi⟩))):=by
 refine⟨?_,?_,?_,?_,?_,?_,?_,?_,?_,?_,?_,?_,?_,?_,?_,?_,?_,?_,?_,?_,?_,?_,?_,?_,?_,?_,?_,?_,?_,?_,?_,?_,?_,?_,?_,?_,?_,?_,?_,?_,?_,?_,?_⟩
 all_goals first|trivial|(intros; kernel_rfl)
def SF :
  (True):=by
 refine ?_
 all_goals first|trivial|(intros; kernel_rfl)
def SH :
  (True):=by
 refine ?_
 all_goals first|trivial|(intros; kernel_rfl)
def SK :
  (bg Tryz.prog 3=ap 1) /\
  (ey Tryz.prog 3=ap gc) /\
  (bg Tryz.prog 4=ap 1) /\
  (ey Tryz.prog 4=ap gc) /\
  (bg Tryz.prog 5=ap 1) /\
  (ey Tryz.prog 5=ap gc) /\
  (ey Tryz.prog 9=ap gc) /\
  (bg Tryz.prog 25=ap 1) /\
  (ey Tryz.prog 25=ap gc) /\
  (bg Tryz.prog 39=ap 1) /\
  (ey Tryz.prog 39=ap gc) /\
  (bg Tryz.prog 41=ap 3) /\
  (ey Tryz.prog 41=ap bv) /\
  (bg Tryz.prog 44=ap 5) /\
  (ey Tryz.prog 44=ap bv) /\
  (ey Tryz.prog 56=ap gc) /\
  (bg Tryz.prog 58=ap 10) /\
  (ey Tryz.prog 58=ap bv) /\
  (bg Tryz.prog 64=ap 7) /\
  (ey Tryz.prog 64=ap bv) /\
  (bg Tryz.prog 69=ap 7) /\
  (ey Tryz.prog 69=ap bv) /\
  (bg Tryz.prog 71=ap 19) /\
  (ey Tryz.prog 71=ap bv) /\
  (bg Tryz.prog 77=ap 6) /\
  (ey Tryz.prog 77=ap bv) /\
  (bg Tryz.prog 86=ap 5) /\
  (bg Tryz.prog 150=ap 2) /\
  (bg Tryz.prog 164=ap 14) /\
  (bg Tryz.prog 165=ap 28) /\
  (ey Tryz.prog 167=ap gc):=by
 refine⟨?_,?_,?_,?_,?_,?_,?_,?_,?_,?_,?_,?_,?_,?_,?_,?_,?_,?_,?_,?_,?_,?_,?_,?_,?_,?_,?_,?_,?_,?_,?_⟩
 all_goals first|trivial|(intros; kernel_rfl)
def xZ :
  (zeroOf Tryz.prog 41=ap (.agg #[jp bi 0 0,i7 i8 0,i7 i8 0])) /\
  (zeroOf Tryz.prog 44=ap (.agg #[i7 i8 0,i7 i8 0,kw gc,kw gc,kw gc])) /\
  (zeroOf Tryz.prog 58=ap (.agg #[i7 i8 0,i7 i8 0,i7 i8 0,i7 i8 0,i7 i8 0,i7 i8 0,kw gc,kw gc,kw gc,.string .empty])) /\
  (zeroOf Tryz.prog 86=ap (.agg #[.nilFunc,.nilFunc,.nilFunc,.nilFunc,.nilFunc])) /\
  (zeroOf Tryz.prog 150=ap (.agg #[.int .u8 0,.int .u8 0])) /\
  (zeroOf Tryz.prog 164=ap (.agg #[i7 i8 0,i7 i8 0,i7 i8 0,i7 i8 0,i7 i8 0,i7 i8 0,i7 i8 0,i7 i8 0,i7 i8 0,i7 i8 0,i7 i8 0,i7 i8 0,i7 i8 0,i7 i8 0])) /\
  (zeroOf Tryz.prog 165=ap (.agg #[i7 i8 0,i7 i8 0,i7 i8 0,i7 i8 0,i7 i8 0,i7 i8 0,i7 i8 0,i7 i8 0,i7 i8 0,i7 i8 0,i7 i8 0,i7 i8 0,i7 i8 0,i7 i8 0,i7 i8 0,i7 i8 0,i7 i8 0,i7 i8 0,i7 i8 0,i7 i8 0,i7 i8 0,i7 i8 0,i7 i8 0,i7 i8 0,i7 i8 0,i7 i8 0,i7 i8 0,i7 i8 0])) /\
  (zeroOf Tryz.prog 189=ap (.agg #[.int .u8 0,.int .u8 0,.int .u8 0,.int .u8 0,.int .u8 0,.int .u8 0,.int .u8 0,.int .u8 0,.int .u8 0,.int .u8 0,.int .u8 0,.int .u8 0,.int .u8 0,.int .u8 0,.int .u8 0,.int .u8 0,.int .u8 0,.int .u8 0,.int .u8 0,.int .u8 0,.int .u8 0,.int .u8 0,.int .u8 0,.int .u8 0])):=by
 refine⟨?_,?_,?_,?_,?_,?_,?_,?_⟩
 all_goals first|trivial|(intros; kernel_rfl)
def SA :
  (Tryz.prog.underlying 22=ap (.slice 3)) /\
  (Tryz.prog.underlying 23=ap (.slice 58)) /\
  (Tryz.prog.underlying 25=ap (.slice 5)) /\
  (Tryz.prog.underlying 39=ap (.slice 56)) /\
  (Tryz.prog.underlying 56=ap (.slice 77)) /\
  (Tryz.prog.underlying 167=ap (.slice 163)):=by
 refine⟨?_,?_,?_,?_,?_,?_⟩
 all_goals first|trivial|(intros; kernel_rfl)
def Sp :
  (∀(x1:Int),dR Tryz.prog 41 [(1,i7 i8 x1)]=ap (.agg #[jp bi 0 0,i7 i8 x1,i7 i8 0])) /\
  (dR Tryz.prog 44 []=ap (.agg #[i7 i8 0,i7 i8 0,kw gc,kw gc,kw gc])) /\
  (dR Tryz.prog 58 []=ap (.agg #[i7 i8 0,i7 i8 0,i7 i8 0,i7 i8 0,i7 i8 0,i7 i8 0,kw gc,kw gc,kw gc,.string .empty])) /\
  (∀(x2:Int),dR Tryz.prog 58 [(0,i7 i8 x2)]=ap (.agg #[i7 i8 x2,i7 i8 0,i7 i8 0,i7 i8 0,i7 i8 0,i7 i8 0,kw gc,kw gc,kw gc,.string .empty])) /\
  (∀(x3 x4 x5:Int),dR Tryz.prog 58 [(0,i7 i8 x3),(1,i7 i8 x4),(2,i7 i8 x5)]=ap (.agg #[i7 i8 x3,i7 i8 x4,i7 i8 x5,i7 i8 0,i7 i8 0,i7 i8 0,kw gc,kw gc,kw gc,.string .empty])) /\
  (∀(x6 x7 x8 x9:Int),dR Tryz.prog 58 [(0,i7 i8 x6),(1,i7 i8 x7),(2,i7 i8 x8),(3,i7 i8 x9)]=ap (.agg #[i7 i8 x6,i7 i8 x7,i7 i8 x8,i7 i8 x9,i7 i8 0,i7 i8 0,kw gc,kw gc,kw gc,.string .empty])) /\
  (∀(x10:Int)(b c e g h:gt),dR Tryz.prog 58 [(0,i7 i8 x10),(4,.agg #[b,c,e,g,h])]=ap (.agg #[i7 i8 x10,i7 i8 0,i7 i8 0,i7 i8 0,b,c,e,g,h,.string .empty])) /\
  (∀(x12:Int)(x13:ByteArray),dR Tryz.prog 58 [(0,i7 i8 x12),(5,.string x13)]=ap (.agg #[i7 i8 x12,i7 i8 0,i7 i8 0,i7 i8 0,i7 i8 0,i7 i8 0,kw gc,kw gc,kw gc,.string x13])) /\
  (∀(x14:Int),dR Tryz.prog 66 [(5,i7 i8 x14)]=ap (.agg #[i7 i8 0,i7 i8 0,i7 i8 0,i7 i8 0,kw gc,kw gc,kw gc,i7 i8 0,i7 i8 0,i7 i8 0,i7 i8 0,kw gc,kw gc,kw gc,jp bi 0 0,kw gc,i7 i8 0,i7 i8 x14,i7 i8 0,jp bi 0 0,jp bi 0 0,kw gc,.int .u8 0])) /\
  (∀(x15:Int),dR Tryz.prog 71 [(5,i7 i8 x15)]=ap (.agg #[jp bi 0 0,i7 i8 0,i7 i8 0,i7 i8 0,i7 i8 0,kw gc,kw gc,kw gc,i7 i8 0,i7 i8 0,i7 i8 0,i7 i8 0,kw gc,kw gc,kw gc,kw gc,i7 i8 0,i7 i8 x15,jp bi 0 0])) /\
  (∀(x16:Int),dR Tryz.prog 77 [(0,i7 i8 x16)]=ap (.agg #[i7 i8 x16,i7 i8 0,i7 i8 0,kw gc,kw gc,kw gc])) /\
  (∀(x17:Int)(j k l m n:gt),dR Tryz.prog 77 [(0,i7 i8 x17),(1,.agg #[j,k,l,m,n])]=ap (.agg #[i7 i8 x17,j,k,l,m,n])) /\
  (∀(x23:Fn)(y23 z23:Array gt)(x24:Fn)(y24 z24:Array gt)(x25:Fn)(y25 z25:Array gt)(x26:Fn)(y26 z26:Array gt)(x27:Fn)(y27 z27:Array gt),dR Tryz.prog 86 [(0,.func x23 y23 z23),(1,.func x24 y24 z24),(2,.func x25 y25 z25),(3,.func x26 y26 z26),(4,.func x27 y27 z27)]=ap (.agg #[.func x23 y23 z23,.func x24 y24 z24,.func x25 y25 z25,.func x26 y26 z26,.func x27 y27 z27])) /\
  (∀(x28 x29:Int),dR Tryz.prog 163 [(0,i7 i8 x28),(1,i7 i8 x29)]=ap (.agg #[i7 i8 x28,i7 i8 x29])) /\
  (∀(o p q r s t v x y z A B C D:gt),dR Tryz.prog 164 [(0,.agg #[o,p]),(1,.agg #[q,r]),(2,.agg #[s,t]),(3,.agg #[v,x]),(4,.agg #[y,z]),(5,.agg #[A,B]),(6,.agg #[C,D])]=ap (.agg #[o,p,q,r,s,t,v,x,y,z,A,B,C,D])) /\
  (∀(F G I J M O R S T U V X Y Z c44_0 c44_1 c45_0 c45_1 c46_0 c46_1 c47_0 c47_1 c48_0 c48_1 c49_0 c49_1 c50_0 c50_1:gt),dR Tryz.prog 165 [(0,.agg #[F,G]),(1,.agg #[I,J]),(2,.agg #[M,O]),(3,.agg #[R,S]),(4,.agg #[T,U]),(5,.agg #[V,X]),(6,.agg #[Y,Z]),(7,.agg #[c44_0,c44_1]),(8,.agg #[c45_0,c45_1]),(9,.agg #[c46_0,c46_1]),(10,.agg #[c47_0,c47_1]),(11,.agg #[c48_0,c48_1]),(12,.agg #[c49_0,c49_1]),(13,.agg #[c50_0,c50_1])]=ap (.agg #[F,G,I,J,M,O,R,S,T,U,V,X,Y,Z,c44_0,c44_1,c45_0,c45_1,c46_0,c46_1,c47_0,c47_1,c48_0,c48_1,c49_0,c49_1,c50_0,c50_1])):=by
 refine⟨?_,?_,?_,?_,?_,?_,?_,?_,?_,?_,?_,?_,?_,?_,?_,?_⟩
 all_goals first|trivial|(intros; kernel_rfl)
def Sk :
  (∀ H:aa,∀(r:Int),bU Tryz.prog H 22 1 [(0,i7 i8 r)]=(cH H 3 [i7 i8 r] gc).map fun g=>(jp (ap ⟨H.next,0,ap 0⟩) 1 1,g)) /\
  (∀ H:aa,∀(s t:Int),bU Tryz.prog H 22 2 [(0,i7 i8 s),(1,i7 i8 t)]=(cH H 3 [i7 i8 s,i7 i8 t] gc).map fun g=>(jp (ap ⟨H.next,0,ap 0⟩) 2 2,g)) /\
  (∀ H:aa,∀(v x y:Int),bU Tryz.prog H 22 3 [(0,i7 i8 v),(1,i7 i8 x),(2,i7 i8 y)]=(cH H 3 [i7 i8 v,i7 i8 x,i7 i8 y] gc).map fun g=>(jp (ap ⟨H.next,0,ap 0⟩) 3 3,g)) /\
  (∀ H:aa,∀(z A B C D F G I J M O R S T:Int),bU Tryz.prog H 22 14 [(0,i7 i8 z),(1,i7 i8 A),(2,i7 i8 B),(3,i7 i8 C),(4,i7 i8 D),(5,i7 i8 F),(6,i7 i8 G),(7,i7 i8 I),(8,i7 i8 J),(9,i7 i8 M),(10,i7 i8 O),(11,i7 i8 R),(12,i7 i8 S),(13,i7 i8 T)]=(cH H 3 [i7 i8 z,i7 i8 A,i7 i8 B,i7 i8 C,i7 i8 D,i7 i8 F,i7 i8 G,i7 i8 I,i7 i8 J,i7 i8 M,i7 i8 O,i7 i8 R,i7 i8 S,i7 i8 T] gc).map fun g=>(jp (ap ⟨H.next,0,ap 0⟩) 14 14,g)) /\
  (∀ H:aa,∀(U V X Y Z x76 x77 x78 x79 x80 x81 x82 x83 x84 x85 x86 x87 x88 x89 x90 x91 x92 x93 x94 x95 x96 x97 x98:Int),bU Tryz.prog H 22 28 [(0,i7 i8 U),(1,i7 i8 V),(2,i7 i8 X),(3,i7 i8 Y),(4,i7 i8 Z),(5,i7 i8 x76),(6,i7 i8 x77),(7,i7 i8 x78),(8,i7 i8 x79),(9,i7 i8 x80),(10,i7 i8 x81),(11,i7 i8 x82),(12,i7 i8 x83),(13,i7 i8 x84),(14,i7 i8 x85),(15,i7 i8 x86),(16,i7 i8 x87),(17,i7 i8 x88),(18,i7 i8 x89),(19,i7 i8 x90),(20,i7 i8 x91),(21,i7 i8 x92),(22,i7 i8 x93),(23,i7 i8 x94),(24,i7 i8 x95),(25,i7 i8 x96),(26,i7 i8 x97),(27,i7 i8 x98)]=(cH H 3 [i7 i8 U,i7 i8 V,i7 i8 X,i7 i8 Y,i7 i8 Z,i7 i8 x76,i7 i8 x77,i7 i8 x78,i7 i8 x79,i7 i8 x80,i7 i8 x81,i7 i8 x82,i7 i8 x83,i7 i8 x84,i7 i8 x85,i7 i8 x86,i7 i8 x87,i7 i8 x88,i7 i8 x89,i7 i8 x90,i7 i8 x91,i7 i8 x92,i7 i8 x93,i7 i8 x94,i7 i8 x95,i7 i8 x96,i7 i8 x97,i7 i8 x98] gc).map fun g=>(jp (ap ⟨H.next,0,ap 0⟩) 28 28,g)) /\
  (∀ H:aa,bU Tryz.prog H 25 0 []=(cH H 5 [] gc).map fun g=>(jp (ap ⟨H.next,0,ap 0⟩) 0 0,g)) /\
  (∀ H:aa,∀(l:Int),bU Tryz.prog H 25 1 [(0,.int .u8 l)]=(cH H 5 [.int .u8 l] gc).map fun g=>(jp (ap ⟨H.next,0,ap 0⟩) 1 1,g)) /\
  (∀ H:aa,∀(m n:Int),bU Tryz.prog H 25 2 [(0,.int .u8 m),(1,.int .u8 n)]=(cH H 5 [.int .u8 m,.int .u8 n] gc).map fun g=>(jp (ap ⟨H.next,0,ap 0⟩) 2 2,g)) /\
  (∀ H:aa,∀(o:Option Addr)(p q:Nat),bU Tryz.prog H 39 1 [(0,.slice o p q)]=(cH H 56 [.slice o p q] gc).map fun g=>(jp (ap ⟨H.next,0,ap 0⟩) 1 1,g)) /\
  (∀ H:aa,bU Tryz.prog H 56 0 []=(cH H 77 [] gc).map fun g=>(jp (ap ⟨H.next,0,ap 0⟩) 0 0,g)) /\
  (∀ H:aa,∀(b c e h j k:gt),bU Tryz.prog H 56 1 [(0,.agg #[b,c,e,h,j,k])]=(cH H 77 [b,c,e,h,j,k] gc).map fun g=>(jp (ap ⟨H.next,0,ap 0⟩) 1 1,g)):=by
 refine⟨?_,?_,?_,?_,?_,?_,?_,?_,?_,?_,?_⟩
 all_goals first|trivial|(intros; kernel_rfl)
def SL :
  (True):=by
 refine ?_
 all_goals first|trivial|(intros; kernel_rfl)
def Sn :
  (True):=by
 refine ?_
 all_goals first|trivial|(intros; kernel_rfl)
def SE :
  (∀(H:aa)(a:Addr),df Tryz.prog H .eql 30 (i9 (ap a)) (i9 bi)=ap (kw gc)) /\
  (∀(H:aa),df Tryz.prog H .eql 30 (i9 bi) (i9 bi)=ap (kw bv)) /\
  (∀(H:aa)(a:Addr),df Tryz.prog H .neq 30 (i9 (ap a)) (i9 bi)=ap (kw bv)) /\
  (∀(H:aa)(a:Addr),df Tryz.prog H .eql 33 (i9 (ap a)) (i9 bi)=ap (kw gc)) /\
  (∀(H:aa),df Tryz.prog H .eql 33 (i9 bi) (i9 bi)=ap (kw bv)) /\
  (∀(H:aa)(a:Addr)(n c:Nat),df Tryz.prog H .eql 56 (jp (ap a) n c) (jp bi 0 0)=ap (kw gc)) /\
  (∀(H:aa)(f:Fn)(a b:Array gt),df Tryz.prog H .neq 153 (.func f a b) (.nilFunc)=ap (kw bv)):=by
 refine⟨?_,?_,?_,?_,?_,?_,?_⟩
 all_goals first|trivial|(intros; kernel_rfl)
def Sv :
  (aB Tryz.prog 6=bv) /\
  (aB Tryz.prog 7=bv) /\
  (aB Tryz.prog 8=bv) /\
  (aB Tryz.prog 9=bv) /\
  (aB Tryz.prog 10=bv) /\
  (aB Tryz.prog 11=bv) /\
  (aB Tryz.prog 12=bv) /\
  (aB Tryz.prog 13=bv) /\
  (aB Tryz.prog 14=bv) /\
  (aB Tryz.prog 15=bv) /\
  (aB Tryz.prog 16=bv) /\
  (aB Tryz.prog 17=bv) /\
  (aB Tryz.prog 18=bv) /\
  (aB Tryz.prog 21=bv) /\
  (aB Tryz.prog 24=bv) /\
  (aB Tryz.prog 25=bv) /\
  (aB Tryz.prog 26=bv) /\
  (aB Tryz.prog 28=bv) /\
  (aB Tryz.prog 29=bv) /\
  (aB Tryz.prog 30=bv) /\
  (aB Tryz.prog 32=bv) /\
  (aB Tryz.prog 34=bv) /\
  (aB Tryz.prog 35=bv) /\
  (aB Tryz.prog 50=bv) /\
  (aB Tryz.prog 51=bv) /\
  (aB Tryz.prog 52=bv) /\
  (aB Tryz.prog 53=bv) /\
  (aB Tryz.prog 54=bv) /\
  (aB Tryz.prog 55=bv) /\
  (aB Tryz.prog 56=bv) /\
  (aB Tryz.prog 57=bv) /\
  (aB Tryz.prog 58=bv) /\
  (aB Tryz.prog 59=bv) /\
  (aB Tryz.prog 60=bv) /\
  (aB Tryz.prog 61=bv) /\
  (aB Tryz.prog 62=bv) /\
  (aB Tryz.prog 64=bv) /\
  (aB Tryz.prog 65=bv) /\
  (aB Tryz.prog 66=bv) /\
  (aB Tryz.prog 68=bv) /\
  (aB Tryz.prog 69=bv) /\
  (aB Tryz.prog 70=bv) /\
  (aB Tryz.prog 71=bv) /\
  (aB Tryz.prog 72=bv) /\
  (aB Tryz.prog 79=bv) /\
  (aB Tryz.prog 80=bv) /\
  (aB Tryz.prog 81=bv) /\
  (aB Tryz.prog 83=bv) /\
  (aB Tryz.prog 87=bv) /\
  (aB Tryz.prog 88=bv) /\
  (aB Tryz.prog 89=bv) /\
  (aB Tryz.prog 90=bv) /\
  (aB Tryz.prog 91=bv) /\
  (aB Tryz.prog 92=bv) /\
  (aB Tryz.prog 93=bv) /\
  (aB Tryz.prog 94=bv) /\
  (aB Tryz.prog 95=bv) /\
  (aB Tryz.prog 97=bv) /\
  (aB Tryz.prog 98=bv) /\
  (aB Tryz.prog 99=bv) /\
  (aB Tryz.prog 112=bv) /\
  (aB Tryz.prog 113=bv) /\
  (aB Tryz.prog 114=bv) /\
  (aB Tryz.prog 115=bv) /\
  (aB Tryz.prog 121=bv) /\
  (aB Tryz.prog 122=bv) /\
  (aB Tryz.prog 123=bv) /\
  (aB Tryz.prog 124=bv) /\
  (aB Tryz.prog 125=bv) /\
  (aB Tryz.prog 126=bv) /\
  (aB Tryz.prog 127=bv) /\
  (aB Tryz.prog 129=bv) /\
  (aB Tryz.prog 130=bv) /\
  (aB Tryz.prog 137=bv) /\
  (aB Tryz.prog 146=bv) /\
  (aB Tryz.prog 152=bv) /\
  (aB Tryz.prog 153=bv) /\
  (aB Tryz.prog 157=bv) /\
  (aB Tryz.prog 158=bv) /\
  (aB Tryz.prog 159=bv) /\
  (aB Tryz.prog 160=bv) /\
  (aB Tryz.prog 161=bv) /\
  (aB Tryz.prog 163=bv) /\
  (aB Tryz.prog 164=bv) /\
  (aB Tryz.prog 165=bv):=by
 refine⟨?_,?_,?_,?_,?_,?_,?_,?_,?_,?_,?_,?_,?_,?_,?_,?_,?_,?_,?_,?_,?_,?_,?_,?_,?_,?_,?_,?_,?_,?_,?_,?_,?_,?_,?_,?_,?_,?_,?_,?_,?_,?_,?_,?_,?_,?_,?_,?_,?_,?_,?_,?_,?_,?_,?_,?_,?_,?_,?_,?_,?_,?_,?_,?_,?_,?_,?_,?_,?_,?_,?_,?_,?_,?_,?_,?_,?_,?_,?_,?_,?_,?_,?_,?_,?_⟩
 all_goals first|trivial|(intros; kernel_rfl)
def SJ :
  (∀ N:Nat,bd Tryz.prog N (.global 0)=bv) /\
  (∀ N:Nat,bd Tryz.prog N (.global 1)=bv):=by
 refine⟨?_,?_⟩
 all_goals first|trivial|(intros; kernel_rfl)
def xF:type_of% (zA0 @Ss ( zA0 @SF ( zA0 @SH ( zA0 @SK ( zA0 @xZ ( zA0 @SA ( zA0 @Sp ( zA0 @Sk ( zA0 @SL ( zA0 @Sn ( zA0 @SE ( zA0 @Sv ( zA0 @SJ (@Sy)))))))))))))) :=
 zA0 @Ss ( zA0 @SF ( zA0 @SH ( zA0 @SK ( zA0 @xZ ( zA0 @SA ( zA0 @Sp ( zA0 @Sk ( zA0 @SL ( zA0 @Sn ( zA0 @SE ( zA0 @Sv ( zA0 @SJ (@Sy)))))))))))))
end Go.Proofs.YtpohjcacnkhnkaaGreatDoor
theorem Go.Ax.SB(a:Nat)(b:List Go.Value):Go.Ax.cQ [] a b=[]:=rfl
theorem Go.Ax.SD(x:Go.Value)(r:List Go.Value):Go.Ax.cQ (x::r) 0 []=x::r:=rfl
theorem Go.Ax.Su(x y:Go.Value)(r s:List Go.Value):Go.Ax.cQ (x::r) 0 (y::s)=y::Go.Ax.cQ r 0 s:=rfl
theorem Go.Ax.Sr(x:Go.Value)(r s:List Go.Value)(k:Nat):Go.Ax.cQ (x::r) (k+1) s=x::Go.Ax.cQ r k s:=rfl
theorem Go.Ax.SG(E:Go.Ax.Env)(k:Nat):Go.Ax.fq E k []=E:=rfl
theorem Go.Ax.SC(E:Go.Ax.Env)(k:Nat)(v:Go.Value)(r:List Go.Value):Go.Ax.fq E k (v::r)=Go.Ax.fq (Go.Ax.cy E k v) (k+1) r:=rfl
def Go.Ax.zW:type_of% (zA0 @Go.Ax.aE (zA0 @Go.Ax.fX (zA0 @Go.Proofs.YtpohjcacnkhnkaaGreatDoor.xF (zA0 @Go.Ax.SG (zA0 @Go.Ax.SC (zA0 @Go.Ax.SB (zA0 @Go.Ax.SD (zA0 @Go.Ax.Su @Go.Ax.Sr)))))))) :=
 zA0 @Go.Ax.aE (zA0 @Go.Ax.fX (zA0 @Go.Proofs.YtpohjcacnkhnkaaGreatDoor.xF (zA0 @Go.Ax.SG (zA0 @Go.Ax.SC (zA0 @Go.Ax.SB (zA0 @Go.Ax.SD (zA0 @Go.Ax.Su @Go.Ax.Sr)))))))
namespace Go.Proofs.YtpohjcacnkhnkaaGreatDoor.Tq
structure Lk where
 fore:Int
 back:Int
 bold:Bool
 under:Bool
 inv:Bool
deriving DecidableEq
def Lk.no:Lk:=⟨0,0,gc,gc,gc⟩
structure Ce where
 rune:Int
 look:Lk
deriving DecidableEq
def sp:Ce:=⟨32,Lk.no⟩
structure n5 where
 wd:Int->Nat
 full:List UInt8->Bool
 dec:List UInt8->Int × Nat
structure Tm where
 row:Int
 col:Int
 pen:Lk
 srow:Int
 scol:Int
 spen:Lk
 grid:List (List Ce)
 shown:Bool
 top:Int
 bottom:Int
 mode:Nat
 rest:List UInt8
 params:List UInt8
 middle:Bool
 last:UInt8
deriving DecidableEq
def Tm.new(h w:Nat):Tm:=⟨0,0,.no,0,0,.no,List.replicate h (List.replicate w sp),gc,0,h-1,0,[],[],gc,0⟩
def Tm.eQ(t:Tm):Int:=t.grid.length
def Tm.width(t:Tm):Int:=(t.grid.headD []).length
def Tm.inside(t:Tm):Int:=min t.col (t.width-1)
def ic(l:List Ce)(a b:Nat):List Ce :=
 let l:=if a<b/\(l.getD a sp).rune=-1 then l.set (a-1) sp else l
 let l:=if a<b/\b<l.length/\(l.getD b sp).rune=-1 then l.set b sp else l
 l.take a++List.replicate (b-a) sp++l.drop (max a b)
def Tm.No(t:Tm)(k:Nat)(f:List Ce->List Ce):Tm:={t with grid:=t.grid.set k (f (t.grid.getD k []))}
def Tm.blank(t:Tm)(k a b:Int):Tm:=t.No k.toNat fun l=>ic l a.toNat b.toNat
def Tm.write(u:n5)(t:Tm)(c:Int):Tm :=
 let n:=u.wd c
 if n=0\/t.col+n>t.width then t else
 let t:=t.blank t.row t.col (t.col+n)
 let t:=t.No t.row.toNat fun l=>l.set t.col.toNat ⟨c,t.pen⟩
 let t:=if n=2 then t.No t.row.toNat fun l=>l.set (t.col.toNat+1) ⟨-1,t.pen⟩ else t
 {t with col:=t.col+n}
def fT(w:Nat)(g:List (List Ce))(b c n:Nat)(up:Bool):List (List Ce) :=
 let len:=c+1-b
 let n:=min n len
 let e:=(g.drop b).take len
 let new:=List.replicate n (List.replicate w sp)
 g.take b++(if up then e.drop n++new else new++e.take (len-n))++g.drop (b+len)
def Tm.fe(t:Tm)(c b n:Int)(up:Bool):Tm:={t with grid:=fT t.width.toNat t.grid c.toNat b.toNat n.toNat up}
def Tm.control(t:Tm)(c:Int):Tm :=
 if c=8 then {t with col:=max 0 (t.inside-1)}
 else if c=9 then {t with col:=min (t.width-1) (t.col-t.col % 8+8)}
 else if c=10 then (if t.row=t.bottom then t.fe t.top t.bottom 1 bv else {t with row:=min (t.row+1) (t.eQ-1)})
 else if c=13 then {t with col:=0}
 else t
def Tm.character(u:n5)(t:Tm)(c:Int):Tm:=if c<32\/c=127 then t.control c else t.write u c
def Tm.drain(u:n5):Nat->Tm->Tm × Nat
 |0,t=>(t,0)
 |k+1,t =>
  if t.rest≠[]/\u.full t.rest=bv then
   if t.rest.headD 0=27 then ({t with rest:=[]},1)
   else
    let (r,n):=u.dec t.rest
    let t:=if r≠65533\/n>1 then t.character u r else t
    Tm.drain u k {t with rest:=t.rest.drop n}
  else (t,0)
def Tm.plain(u:n5)(t:Tm)(c:UInt8):Tm × Nat:=Tm.drain u (t.rest.length+2) {t with rest:=t.rest++[c]}
def Tm.second(t:Tm)(c:UInt8):Tm × Nat :=
 if c=91 then ({t with params:=[],middle:=false},3)
 else if c=93 then ({t with last:=0},4)
 else if c=27 then (t,1)
 else if 32<=c/\c<48 then (t,2)
 else if c=55 then ({t with srow:=t.row,scol:=t.col,spen:=t.pen},0)
 else if c=56 then ({t with row:=t.srow,col:=t.scol,pen:=t.spen},0)
 else if c=99 then (Tm.new t.eQ.toNat t.width.toNat,0)
 else if c=77/\t.row=t.top then (t.fe t.top t.bottom 1 gc,0)
 else if c=77 then ({t with row:=max 0 (t.row-1)},0)
 else (t,0)
def count(p:List Int):Int:=max 1 (p.headD 0)
def snd(p:List Int):Int:=p.getD 1 0
def Tm.bp(t:Tm)(r c:Int):Tm:={t with row:=max 0 (min r (t.eQ-1)),col:=max 0 (min c (t.width-1))}
def Tm.aU(t:Tm)(p:List Int):Tm :=
 if p.headD 0=0 then t.blank t.row t.inside t.width
 else if p.headD 0=1 then t.blank t.row 0 (t.inside+1)
 else if p.headD 0=2 then t.blank t.row 0 t.width
 else t
def Tm.bL(p:List Int):Nat->Nat->Tm->Tm
 |_,0,t=>t
 |i,k+1,t =>
  let m:=p.headD 0
  let t:=if (i<t.row/\(m=1\/m=2))\/(i>t.row/\(m=0\/m=2)) then t.blank i 0 t.width else t
  Tm.bL p (i+1) k t
def Tm.cf(t:Tm)(p:List Int):Tm:=Tm.bL p 0 t.grid.length (t.aU p)
def Tm.lines(t:Tm)(n:Int)(up:Bool):Tm:=if t.row ≥ t.top/\t.row<=t.bottom then t.fe t.row t.bottom n up else t
def Tm.region(t:Tm)(p:List Int):Tm :=
 let top:=count p-1
 let b:=snd p-1
 let b:=if b<0\/b ≥ t.eQ then t.eQ-1 else b
 if top<=b then Tm.bp {t with top:=top,bottom:=b} 0 0 else t
def Lk.attribute(l:Lk)(n:Int):Lk :=
 if n=0 then .no
 else if n=1\/n=22 then {l with bold:=n=1}
 else if n=4\/n=24 then {l with under:=n=4}
 else if n=7\/n=27 then {l with inv:=n=7}
 else if n=39 then {l with fore:=0}
 else if n=49 then {l with back:=0}
 else l
def Lk.attributes:List Int->Lk->Lk
 |[],l=>l
 |n::p,l =>
  if n=38\/n=48 then
   (match p with
   |a::b::p=>if a≠5\/b>255 then l else Lk.attributes p (if n=38 then {l with fore:=b+1} else {l with back:=b+1})
   |_=>l)
  else if 30<=n/\n<=37 then Lk.attributes p {l with fore:=n-29}
  else if 40<=n/\n<=47 then Lk.attributes p {l with back:=n-39}
  else Lk.attributes p (l.attribute n)
def numbers:List UInt8->List Int->Int->Option (List Int)
 |[],done,last=>ap (done++[last])
 |c::r,done,last =>
  if c=59 then numbers r (done++[last]) 0
  else if 48<=c/\c<=57 then numbers r done (min 9999 (last*10+((c.toNat:Int)-48)))
  else bi
def Tm.aT(t:Tm)(f:UInt8)(p:List Int):Tm :=
 if f=65 then t.bp (t.row-count p) t.col
 else if f=66 then t.bp (t.row+count p) t.col
 else if f=67 then t.bp t.row (t.inside+count p)
 else if f=68 then t.bp t.row (t.inside-count p)
 else if f=71 then t.bp t.row (count p-1)
 else if f=100 then t.bp (count p-1) t.col
 else if f=72\/f=102 then t.bp (count p-1) (max 1 (snd p)-1)
 else if f=74 then t.cf p
 else if f=75 then t.aU p
 else if f=76 then t.lines (count p) gc
 else if f=77 then t.lines (count p) bv
 else if f=109 then {t with pen:=Lk.attributes p t.pen}
 else if f=114 then t.region p
 else t
def Tm.dJ(t:Tm)(f:UInt8):Tm :=
 if t.params=[63,50,53]/\(f=104\/f=108) then {t with shown:=f=104}
 else match numbers t.params [] 0 with
  |some p=>t.aT f p
  |none=>t
def Tm.parameter(t:Tm)(c:UInt8):Tm × Nat :=
 if c=27 then (t,1)
 else if 64<=c/\c<=126 then (if t.params.length<=64 then t.dJ c else t,0)
 else if c<32\/c>126\/(c ≥ 48/\t.middle=bv) then (t,0)
 else
  let t:={t with middle:=t.middle||c<48}
  ((if t.params.length<=64 then {t with params:=t.params++[c]} else t),3)
def Tm.ignore(t:Tm)(c:UInt8):Tm × Nat:=if c=7\/(c=92/\t.last=27) then (t,0) else ({t with last:=c},4)
def Tm.step(u:n5)(t:Tm)(c:UInt8):Tm :=
 let (t,m):=match t.mode with
  |0=>t.plain u c
  |1=>t.second c
  |2=>(t,0)
  |3=>t.parameter c
  |_=>t.ignore c
 {t with mode:=m}
def Tm.feed(u:n5)(t:Tm)(b:List UInt8):Tm:=b.foldl (Tm.step u) t
def Tm.uo(u:n5)(t:Tm)(a b:List UInt8):t.feed u (a++b)=(t.feed u a).feed u b:=List.foldl_append
def dg(d:Nat):UInt8:=UInt8.ofNat (48+d)
def fu(n:Nat):List UInt8 :=
 if n<10 then [dg n] else if n<100 then [dg (n / 10),dg (n % 10)] else if n<1000 then [dg (n / 100),dg (n / 10 % 10),dg (n % 10)]
 else [dg (n / 1000),dg (n / 100 % 10),dg (n / 10 % 10),dg (n % 10)]
def fZ:List Nat->List UInt8
 |[]=>[]
 |[n]=>fu n
 |n::l=>fu n++59::fZ l
section
variable{u:n5}
structure Idle (t:Tm):Prop where
 mode:t.mode=0
 rest:t.rest=[]
end
end Go.Proofs.YtpohjcacnkhnkaaGreatDoor.Tq
namespace Go.Ax
def Ren.same:Ren:=⟨fun n=>n,fun _=>0,fun _=>0,fun _=>.nilIface,fun _=>rfl⟩
def Nx(P:io)(w:ip):Rel P Ren.same (aa.none P.globals.size) w :=
 ⟨zA5 _,⟨zA5 _,fun _ _=>⟨rfl,rfl⟩⟩,fun m _ h=>absurd (oR _ m) h,fun n o h=>(by rw[oR]at h; cases h),fun n o h=>(by rw[oR]at h; cases h)⟩
def Ky:cU Fence.wide:=⟨fun _=>trivial,rfl,rfl⟩
def Pr{P:io}(g:P.follows .mixedOrders=bv){K:FuncId->List gt->aa->Option gt}(k:yT P K){c:Nat}{f:FuncId}{args:List gt}{v:gt}{H H1:aa}{ρ:Ren}{w:ip}(r:Rel P ρ H w)
  (h:call P K c f args H=ap (.ok v,H1)) (j:aX H.next args=bv) {F:Fence} {n:Nat} (l:cU F):CallsIn F n P f (args.map ρ.val).toArray w (fun e w'=>∃ b,e=.returned (b.val v)/\St P ρ H w b H1 w') :=
 yj (yp g k c).1 r h j l (fun b w1 s _=>⟨b,rfl,s⟩)
def Dt{u v:gt}(h:Hw u v=bv):u=v/\af v=true:=by
 unfold Hw at h;split at h
 .simp only[zA7,decide_eq_true_eq]at h;obtain⟨rfl,rfl⟩:=h;exact⟨rfl,rfl⟩
 .simp only[beq_iff_eq]at h;subst h;exact⟨rfl,rfl⟩
 .cases h
def yi:∀ {u v:List gt},DA u v=bv->u=v/\∀ x∈v,af x=bv
 |[],[],_=>⟨rfl,fun _ h=>by cases h⟩
 |a::r,b::q,h=>by
  simp only[DA,zA7]at h;obtain⟨c,e⟩:=Dt h.1;obtain⟨g,j⟩:=yi h.2;refine⟨by rw[c,g],fun x hx=>?_⟩;rcases zA9.1 hx with rfl|hx
  .exact e
  .exact j x hx
 |[],_::_,h=>by cases h
 |_::_,[],h=>by cases h
def wK:∀ {l:List gt},(∀ x∈l,af x=bv)->Cz l=bv
 |[],_=>rfl
 |x::l,h=>by rw[Cz,h x (zD7 ..),wK fun y b=>h y (zC4 _ b)]; rfl
def LC{u v:gt}(h:I3 u v=bv):u=v/\af v=true:=by
 unfold I3 at h;split at h
 .rename_i a b;obtain⟨c,e⟩:=yi h;obtain⟨a⟩:=a;obtain⟨b⟩:=b;simp only at c e;subst c;exact⟨rfl,by rw[af,KF]; exact wK e⟩
 .rename_i a b;obtain⟨c,e⟩:=yi h;obtain⟨a⟩:=a;obtain⟨b⟩:=b;simp only at c e;subst c;exact⟨rfl,by rw[af,KF]; exact wK e⟩
 .exact Dt h
def Jh(P:io):yT P (MS []):=fun f args v H h=>by cases h
open Go.ChangeShapes
section
variable{P:io}{K:Type}{enc:ii × gt -> K}{w:ip}{base:Nat}{spare:Nat -> Bool}{held:Bool}
def mapM_each{α β:Type}{g:α->Option β}:∀ {l:List α} {r:List β},l.mapM g=ap r->∀ x∈l,∃ y,g x=ap y
 |[],_,_,x,hx=>by cases hx
 |a::l,r,h,x,hx=>by
  rw[List.mapM_cons]at h
  cases b:g a with
  |none=>rw[b]at h; cases h
  |some y =>
   rw[b]at h
   cases c:l.mapM g with
   |none=>simp[c]at h
   |some e =>
    rcases zA9.1 hx with rfl|hx
    .exact⟨y,b⟩
    .exact mapM_each c x hx
def vg:∀ {ts c:List ii} {a b:List gt},fits P ts a=bv->fits P c b=bv->fits P (ts++c) (a++b)=bv
 |[],c,[],b,_,h=>h
 |[],_,_::_,_,h,_=>by simp[fits]at h
 |_::_,_,[],_,h,_=>by simp[fits]at h
 |t::ts,c,v::a,b,h,e=>by simp only[fits,zA7]at h;simp only[zG1,fits,h.1,vg h.2 e,zD8]
def rS{c d:Nat}{cs:List gt}(n:∀(t:ii)(ts:List ii)(cs:List gt)(x:DataW K × List MemPlace),flat P d t=ap ts->bg P t=ap ts.length->DataW.trod enc P w base spare held c t cs=ap x->fits P ts cs=bv) :
  ∀(fs:List Field)(o:Nat)(ts:List ii),ld P (flat P d) fs o=ap ts->(∀ f∈fs,∃ y,DataW.trod enc P w base spare held c f.type ((cs.drop f.offset).take (P.cellsOf f.type))=ap y)->o+ts.length<=cs.length->fits P ts ((cs.drop o).take ts.length)=bv
 |[],o,ts,h,_,_=>by simp only[ld,i5]at h;subst h;rfl
 |f::fs,o,ts,h,p,k=>by
  simp only[ld]at h;split at h
  .rename_i q;obtain⟨_,r⟩:=q
   cases l:flat P d f.type with
   |none=>rw[l]at h; cases h
   |some a =>
    rw[l]at h;simp only at h;split at h
    .rename_i e
     cases m:ld P (flat P d) fs (o+a.length) with
     |none=>rw[m]at h; cases h
     |some b =>
      rw[m]at h;simp only[i5]at h;subst h;rw[zB2]at k;obtain⟨y,j⟩:=p f lw;rw[r,aZ e]at j;have s:=n f.type a _ y l e j;have v:=rS n fs (o+a.length) b m (fun g z=>p g (by simp[z])) li;have:(cs.drop o).take (a++b).length=(cs.drop o).take a.length++(cs.drop (o+a.length)).take b.length:=by rw[zB2,List.take_add,List.drop_drop]
      rw[this];exact vg s v
    .cases h
  .cases h
def tF:∀(fuel d:Nat)(t:ii)(ts:List ii)(cs:List gt)(x:DataW K × List MemPlace),flat P d t=ap ts->bg P t=ap ts.length->DataW.trod enc P w base spare held fuel t cs=ap x->fits P ts cs=bv
 |0,_,_,_,_,_,_,_,h=>by simp[DataW.trod]at h
 |_+1,0,_,_,_,_,h,_,_=>by simp[flat]at h
 |fuel+1,d+1,t,ts,cs,x,b,j,h=>by
  simp only[flat]at b;unfold DataW.trod at h
  cases e:P.underlying t with
  |none=>rw[e]at b; cases b
  |some l =>
   rw[e]at b h
   cases l with
   |bool =>
    simp only[i5]at b;subst b;split at h<;>first|cases h|skip
    all_goals first|(rename_i m; cases m; done)|skip
    all_goals simp_all [fits,pr]
   |int k =>simp only[i5]at b;subst b;split at h<;>simp_all [fits,pr]
   |string =>simp only[i5]at b;subst b;split at h<;>simp_all [fits,pr]
   |struct fs =>
    simp only at b;split at b
    .cases b
    .simp only at h;split at h
     .rename_i c;rw[aZ j]at c
      cases g:fs.toList.mapM fun f=>DataW.trod enc P w base spare held fuel f.type ((cs.drop f.offset).take (P.cellsOf f.type)) with
      |none=>rw[g]at h; cases h
      |some xs =>have:=rS (cs:=cs) (fun t ts cs x=>tF fuel d t ts cs x) fs.toList 0 ts b (mapM_each g) li;rw[zD2,zC3 li]at this;exact this
     .cases h
   |_=>simp at b
def trod_slice{k:Nat}{t e:ii}{ts:List ii}{D:Nat}(ht:P.underlying t=ap (.slice e))(C:bg P e=ap ts.length)(S:flat P D e=ap ts){b off len cap:Nat}{x:DataW K × List MemPlace}
  (h:DataW.trod enc P w 0 spare held k t [jp (ap ⟨b,off,bi⟩) len cap]=ap x) (T:w.noneFrozen x.2) :
  len<=cap/\(len*ts.length=0\/∃ (c:Array gt) (U:ii) (F:Nat × Nat) (vs:List gt),w.heap[b]?=ap (.cells c U F)/\vs.length=len*ts.length/\(∀ i,i<vs.length->c[off+i]?=ap (vs.getD i undef)) /\
   (∀ i,i<len->fits P ts ((vs.drop (i*ts.length)).take ts.length)=bv)/\∀ i,off<=i->i<off+len*ts.length->¬(F.1<=i/\i<F.2)):=by
 cases k with
 |zero=>simp[DataW.trod]at h
 |succ k =>
  unfold DataW.trod at h;rw[ht]at h;simp only[aZ C]at h;split at h
  .rename_i hc;refine⟨hc.2.1,?_⟩;by_cases Y:len*ts.length=0
   .exact .inl Y
   right
   cases R:(List.range len).mapM fun i=>(w.cells? 0 ((⟨b,off,bi⟩:Addr).add (i*ts.length)) ts.length).bind (DataW.trod enc P w 0 spare held k e) with
   |none=>rw[R]at h; cases h
   |some s =>
    rw[R,zA4]at h;have V:s.length=len:=by have:=mapM_len R; simpa using this
    have p:∀ i,i<len->∃ cs y,w.cells? 0 ((⟨b,off,bi⟩:Addr).add (i*ts.length)) ts.length=ap cs/\DataW.trod enc P w 0 spare held k e cs=ap y:=fun i hi=>by
     obtain⟨y,B⟩:=mapM_each R i (by simpa using hi)
     cases l:w.cells? 0 ((⟨b,off,bi⟩:Addr).add (i*ts.length)) ts.length with
     |none=>rw[l]at B; cases B
     |some cs=>rw[l]at B; exact⟨cs,y,rfl,B⟩
    have q:∀ i,i<len*ts.length->∃ v,w.cell? ⟨b,off+i,bi⟩=ap v:=fun i hi=>by
     have Z:0<ts.length:=Nat.pos_of_ne_zero fun h=>Y (by rw[h,Nat.mul_zero]);have hq:i / ts.length<len:=(Nat.div_lt_iff_lt_mul Z).2 hi;obtain⟨cs,y,l,_⟩:=p _ hq;unfold World.cells? at l;rw[if_pos (zB7 _)]at l;obtain⟨v,r⟩:=mapM_each l (i % ts.length) (by simpa using Nat.mod_lt _ Z);rw[dT,dT]at r;have:off+i / ts.length*ts.length+i % ts.length=off+i:=by rw[Nat.add_assoc,Nat.mul_comm,Nat.div_add_mod]
     rw[this]at r;exact⟨v,r⟩
    obtain⟨v0,z⟩:=q 0 li;unfold World.cell? at z
    cases G:w.heap[b]? with
    |none=>simp[G]at z
    |some o =>
     cases o with
     |cells c U F =>
      have A:∀ i,i<len*ts.length->∃ v,c[off+i]?=ap v:=fun i hi=>by obtain⟨v,r⟩:=q i hi;simp only[World.cell?,G]at r;exact⟨v,by simpa using r⟩
      obtain⟨vs,I⟩:∃ vs:List gt,vs=(List.range (len*ts.length)).map fun i=>(c[off+i]?).getD undef:=⟨_,rfl⟩
      have m:vs.length=len*ts.length:=by simp[I]
      have J:∀ i,i<vs.length->c[off+i]?=ap (vs.getD i undef):=fun i hi=>by rw[m]at hi;obtain⟨v,r⟩:=A i hi;simp[I,hi,r,zE3]
      refine⟨c,U,F,vs,rfl,m,J,fun i hi=>?_,fun i h1 h2=>?_⟩
      .obtain⟨cs,y,l,B⟩:=p i hi
       have M:(vs.drop (i*ts.length)).take ts.length=cs:=by
        unfold World.cells? at l;rw[if_pos (zB7 _)]at l;have hin:i*ts.length+ts.length<=len*ts.length:=by rw[<-Nat.succ_mul]; exact Nat.mul_le_mul_right _ hi
        have hr:=mapM_range_of (f:=fun j=>w.cell? (((⟨b,off,bi⟩:Addr).add (i*ts.length)).add j)) (g:=fun j=>vs.getD (i*ts.length+j) undef) ts.length (fun j X=>by
         have h3:=J (i*ts.length+j) (by rw[m]; omega);rw[dT,dT,Nat.add_assoc]
         simp[World.cell?,G,h3])
        rw[hr]at l;cases l;apply zG4;intro j;by_cases X:j<ts.length
        .rw[List.getElem?_take,if_pos X,List.getElem?_drop,zE1,List.getElem?_range X,zB3 (by rw[m]; omega)];simp only[zB1,zE3];rw[zB3 (by rw[m]; omega)];rfl
        .rw[zC5 pp,zC5 pp]
       rw[M];exact tF k D e ts cs y S C B
      .have O:MemPlace.cell b i∈x.2:=by
        cases n:(if spare b then (List.range (cap-len)).mapM fun j=>(w.cells? 0 ((⟨b,off,bi⟩:Addr).add ((len+j)*ts.length)) ts.length).bind (DataW.trod enc P w 0 spare held k e) else ap []) with
        |none=>rw[n]at h; cases h
        |some rest =>rw[n]at h;simp only[zB1,i5]at h;subst h;simp only[zB4];left;unfold MemPlace.row;rw[zB6];refine⟨i-off,?_,by simp only[MemPlace.cell.injEq,true_and]; omega⟩;rw[zF5,V,Nat.add_mul];omega
       have:=T b i O;intro hh;simp only[World.frozen?,G]at this;simp[hh.1,hh.2]at this
     |_=>simp[G]at z
  .cases h
def J9{f:FuncId}{args:List gt}{H:aa}{ρ:Ren}(r:Rel P ρ H w)(c:aX H.next args=bv)(g:H.base=H.next)(k:H.dirty=[])(h:aL P f args H fun out H1=>out=.ok (kw bv)/\Mod [] H H1) :
  Calls P f (args.map ρ.val).toArray w (fun e w'=>e=.returned (kw bv)/\RowKit.Below w.heap.size w w'):=by
 obtain⟨_,H1,l,rfl,m⟩:=h;refine (callsIn_wide (n:=0)).1 (l ρ w r c Fence.wide 0 _ Ky ?_);intro o w1 s _;refine⟨by rw[Ren.val],s.os,s.tape,s.output,s.size,fun b p=>s.old b p fun n q j _=>?_⟩;rcases j with h|h
 .omega
 .rcases m.dirty n h with h|h
  .rw[k]at h; cases h
  .exact absurd h.1 lw
end
section
variable{P:io}{K:Type}{enc:ii × gt -> K}{w:ip}{base:Nat}{spare:Nat -> Bool}{held:Bool}
mutual
def dc:DataW K->List gt
 |.lit (.int k z)=>[.int k z]
 |.lit (.bool b)=>[kw b]
 |.agg l=>P8 l
 |_=>[]
def P8:List (DataW K)->List gt
 |[]=>[]
 |d::r=>dc d++P8 r
end
mutual
def NN:DataW K->Bool
 |.lit (.int _ _)=>bv
 |.lit (.bool _)=>bv
 |.agg l=>Jl l
 |_=>gc
def Jl:List (DataW K)->Bool
 |[]=>bv
 |d::r=>NN d&&Jl r
end
def oO{α β:Type}{g:α->Option β}{a:α}{l:List α}{r:List β}(h:(a::l).mapM g=ap r):∃ y ys,g a=ap y/\l.mapM g=ap ys/\r=y::ys:=by
 rw[List.mapM_cons]at h
 cases b:g a with
 |none=>rw[b]at h; cases h
 |some y =>
  rw[b]at h
  cases c:l.mapM g with
  |none=>simp[c]at h
  |some ys=>simp[c]at h; exact⟨y,ys,rfl,rfl,h.symm⟩
def sk{c d:Nat}{cs:List gt}(p:∀(t:ii)(ts:List ii)(cs:List gt)(x:DataW K × List MemPlace),flat P d t=ap ts->bg P t=ap ts.length->DataW.trod enc P w base spare held c t cs=ap x->NN x.1=bv->cs=dc x.1) :
  ∀(fs:List Field)(o:Nat)(ts:List ii)(xs:List (DataW K × List MemPlace)),ld P (flat P d) fs o=ap ts->(fs.mapM fun f=>DataW.trod enc P w base spare held c f.type ((cs.drop f.offset).take (P.cellsOf f.type)))=ap xs->Jl (xs.map (·.1))=bv->o+ts.length<=cs.length->(cs.drop o).take ts.length=P8 (xs.map (·.1))
 |[],o,ts,xs,h,g,_,_=>by simp only[ld,i5]at h;subst h;simp at g;subst g;simp[P8]
 |f::fs,o,ts,xs,h,g,j,k=>by
  simp only[ld]at h;split at h
  .rename_i r;obtain⟨_,s⟩:=r
   cases l:flat P d f.type with
   |none=>rw[l]at h; cases h
   |some a =>
    rw[l]at h;simp only at h;split at h
    .rename_i e
     cases m:ld P (flat P d) fs (o+a.length) with
     |none=>rw[m]at h; cases h
     |some b =>
      rw[m]at h;simp only[i5]at h;subst h;rw[zB2]at k;obtain⟨y,ys,q,n,rfl⟩:=oO g;simp only[zB9,Jl,zA7]at j;rw[s,aZ e]at q;have v:=p f.type a _ y l e q j.1;have z:=sk p fs (o+a.length) b ys m n j.2 li;have:(cs.drop o).take (a++b).length=(cs.drop o).take a.length++(cs.drop (o+a.length)).take b.length:=by rw[zB2,List.take_add,List.drop_drop]
      rw[this,v,z];simp only[zB9,P8]
    .cases h
  .cases h
def HF:∀(fuel d:Nat)(t:ii)(ts:List ii)(cs:List gt)(x:DataW K × List MemPlace),flat P d t=ap ts->bg P t=ap ts.length->DataW.trod enc P w base spare held fuel t cs=ap x->NN x.1=bv->cs=dc x.1
 |0,_,_,_,_,_,_,_,h,_=>by simp[DataW.trod]at h
 |_+1,0,_,_,_,_,h,_,_,_=>by simp[flat]at h
 |fuel+1,d+1,t,ts,cs,x,b,l,h,g=>by
  simp only[flat]at b;unfold DataW.trod at h
  cases e:P.underlying t with
  |none=>rw[e]at b; cases b
  |some m =>
   rw[e]at b h
   cases m with
   |bool =>
    simp only at h;split at h<;>first|(simp only[i5]at h; subst h; rfl)|cases h|skip
    all_goals (rename_i n; cases n)
   |int k =>
    simp only at h;split at h<;>first|(simp only[i5]at h; subst h; simp_all []; done)|cases h|skip
    all_goals simp_all []
    all_goals (obtain⟨o,rfl⟩:=h; simp[dc])
   |string =>
    simp only at h;split at h<;>first|(simp only[i5]at h; subst h; simp[NN]at g; done)|cases h|skip
    all_goals simp_all
    all_goals (obtain⟨_,rfl⟩:=h; simp[NN]at g)
   |struct fs =>
    simp only at b;split at b
    .cases b
    .simp only at h;split at h
     .rename_i c;rw[aZ l]at c
      cases j:fs.toList.mapM fun f=>DataW.trod enc P w base spare held fuel f.type ((cs.drop f.offset).take (P.cellsOf f.type)) with
      |none=>rw[j]at h; cases h
      |some xs =>rw[j]at h;simp only[zB1,i5]at h;subst h;simp only[NN]at g;have:=sk (cs:=cs) (fun t ts cs x=>HF fuel d t ts cs x) fs.toList 0 ts xs b j g li;rw[zD2,zC3 li]at this;rw[this,dc]
     .cases h
   |_=>simp at b
def xY{α:Type}{m:Nat}:∀(n:Nat)(cs:List α),cs.length=n*m->cs=((List.range n).map fun i=>(cs.drop (i*m)).take m).flatten
 |0,cs,h=>by have:cs=[]:=zE7 (by simpa using h);subst this;rfl
 |n+1,cs,h=>by
  have b:(cs.drop m).length=n*m:=by rw[zC1,h,Nat.succ_mul]; omega
  have c:=xY n (cs.drop m) b;rw[List.range_succ_eq_map,zB9,List.flatten_cons,List.map_map,Nat.zero_mul,zD2];have:((List.range n).map ((fun i=>(cs.drop (i*m)).take m) ∘ Nat.succ))=(List.range n).map fun i=>((cs.drop m).drop (i*m)).take m:=by apply List.map_congr_left;intro i _;simp only[Function.comp,List.drop_drop,Nat.succ_mul];rw[Nat.add_comm]
  rw[this,<-c,List.take_append_drop]
def En:∀(ds:List (DataW K)),P8 ds=(ds.map dc).flatten
 |[]=>rfl
 |d::r=>by simp only[P8,zB9,List.flatten_cons,En r]
def Ds:∀ {ds:List (DataW K)},Jl ds=bv->∀ d∈ds,NN d=bv
 |[],_,_,h=>by cases h
 |d::r,h,x,hx=>by
  simp only[Jl,zA7]at h;rcases zA9.1 hx with rfl|hx
  .exact h.1
  .exact Ds h.2 x hx
def mapM_map{α β γ:Type}{f:α->Option β}{g:α->γ}{h:β->γ}:∀ {l:List α} {r:List β},l.mapM f=ap r->(∀ a∈l,∀ b∈r,f a=ap b->g a=h b)->l.map g=r.map h
 |[],r,c,_=>by simp at c; subst c; rfl
 |a::l,r,c,e=>by obtain⟨y,ys,j,k,rfl⟩:=oO c;rw[zB9,zB9,e a lw y lw j,mapM_map k fun a m b n=>e a (by simp[m]) b (by simp[n])]
def Mr{b:Nat}{t e:ii}{ts:List ii}{D n:Nat}{cs:List gt}{x:DataW K × List MemPlace}(m:P.underlying t=ap (.array n e))(c:bg P e=ap ts.length)(g:flat P D e=ap ts)(j:bg P t=ap (n*ts.length))
  (h:DataW.trod enc P w base spare held b t cs=ap x) (l:NN x.1=bv):cs=dc x.1:=by
 cases b with
 |zero=>simp[DataW.trod]at h
 |succ b =>
  unfold DataW.trod at h;rw[m]at h;simp only[aZ c,aZ j]at h;split at h
  .rename_i o
   cases k:(List.range n).mapM fun i=>DataW.trod enc P w base spare held b e ((cs.drop (i*ts.length)).take ts.length) with
   |none=>rw[k]at h; cases h
   |some xs =>rw[k]at h;simp only[zB1,i5]at h;subst h;simp only[NN]at l;rw[dc,En,List.map_map];refine (xY n cs o).trans (congrArg List.flatten (mapM_map k fun i _ y p q=>?_));exact HF b D e ts _ y g c q (Ds l _ (List.mem_map_of_mem p))
  .cases h
def Hy:∀ {c:List (String × DataW Unit)} {e:List MemPlace},DataW.LaidVars P w c e->∀ {x:String × DataW Unit},x∈c->∃ g t cs b p,P.globalNamed x.1=ap g/\(P.globals[g]?).map (·.type)=ap t/\w.var? P x.1=ap cs/\DataW.trod (fun _=>()) P w 0 (fun _=>bv) gc b t cs.toList=ap (x.2,p)/\∀ y∈MemPlace.row ⟨g,0,bi⟩ cs.size,y∈e
 |[],_,_,_,hx=>by cases hx
 |(n,d)::r,e,h,x,hx=>by
  obtain⟨g,t,cs,b,p,q,k,l,m,o,s,rfl⟩:=h;rcases zA9.1 hx with rfl|hx
  .exact⟨g,t,cs,b,p,k,l,m,o,fun y j=>by simp[j]⟩
  .obtain⟨g,t,cs,b,p,v,z,A,B,C⟩:=Hy s hx;exact⟨g,t,cs,b,p,v,z,A,B,fun y j=>by simp[C y j]⟩
def zd{b:List (String × DataW Unit)}(h:laidMet P b w){name:String}{d:DataW Unit}(hx:(name,d)∈b){g:Nat}{t e:ii}{ts:List ii}{D n:Nat}(r:P.globalNamed name=ap g)(x:(P.globals[g]?).map (·.type)=ap t)
  (y:P.underlying t=ap (.array n e)) (m:bg P e=ap ts.length) (o:flat P D e=ap ts) (q:bg P t=ap (n*ts.length)) (z:NN d=bv) (j:0<(dc d).length) :
  ∃ (c:Array gt) (ty:ii),w.heap[g]?=ap (.cells c ty (0,0))/\c.toList=dc d:=by
 obtain⟨M,A,_,B⟩:=h;obtain⟨O,R,cs,s,p,C,F,G,I,J⟩:=Hy A hx;obtain rfl:=Option.some.inj (r.symm.trans C);obtain rfl:=Option.some.inj (x.symm.trans F);have l:=Mr y m o q I z;have k:0<cs.size:=by rw[<-l]at j; simpa using j
 obtain⟨⟨c,ty,v⟩,_⟩:=B g 0 (J _ (by unfold MemPlace.row; rw[zB6]; exact⟨0,by simpa using k,rfl⟩));refine⟨c,ty,v,?_⟩;have:w.var? P name=ap c:=by simp only[World.var?,r,zA4,v]
 obtain rfl:=Option.some.inj (this.symm.trans G);exact l
def Ch(e:ii)(vs:List gt):dw:=⟨.cells #[] e,gc,RV.ofList vs⟩
def Pg{ρ:Ren}{H:aa}{g:Nat}{e:ii}{c:Array gt}{vs:List gt}(r:Rel P ρ H w)(G:g<P.globals.size)(v:ρ.ex g=0)(k:∀ n,H.get n≠bi->ρ.blk n=g->n=g)
  (I:w.heap[g]?=ap (.cells c e (0,0))) (z:c.toList=vs) (A:Cz vs=bv):Rel P ρ (H.put g (ap (Ch e vs))) w:=by
 obtain⟨l,q⟩:=r.glob.2 g G
 have B:∀ x∈vs,af x=true:=by
  intro x hx;clear z k
  induction vs with
  |nil=>cases hx
  |cons y ys J =>
   simp only[Cz,zA7]at A;rcases zA9.1 hx with rfl|hx
   .exact A.1
   .exact J A.2 hx
 have s:∀ i,i<vs.length->af (vs.getD i undef)=true:=fun i hi=>B _ (by simp[zE3,zB3 hi]);have b:∀ m,(H.put g (ap (Ch e vs))).get m=if m=g then ap (Ch e vs) else H.get m:=fun m=>aa.pR H g _ m
 refine⟨r.base,r.glob,fun m n t j C=>?_,fun n o j=>?_,fun n o j=>?_⟩
 .rw[b]at t j;by_cases D:m=g
  .subst D;by_cases p:n=m
   .exact .inl p.symm
   .rw[if_neg p]at j;exact .inl (k n j (C.symm.trans l)).symm
  .rw[if_neg D]at t;by_cases p:n=g
   .subst p;exact .inl (k m t (C.trans l))
   .rw[if_neg p]at j;rw[b,b,if_neg D,if_neg p];exact r.inj m n t j C
 .rw[b]at j;by_cases h:n=g
  .subst h;rw[if_pos rfl]at j;cases j;refine⟨zD1 G r.glob.1,?_⟩;simp only[ki,Ch,RV.n_ofList,RV.cb];intro i hi;exact fB _ (s i hi)
  .rw[if_neg h]at j;exact r.dom n o j
 .rw[b]at j;by_cases h:n=g
  .subst h;rw[if_pos rfl]at j;cases j;refine⟨_,by rw[l]; exact I,?_⟩;have F:c.size=vs.length:=by rw[<-z]; simp
   simp only[Fits,Ch];refine⟨c,(0,0),rfl,fun i hi=>?_,fun _=>⟨by rw[RV.n_ofList,F],q,v,rfl⟩,fun h=>(by cases h)⟩;simp only[RV.n_ofList]at hi;rw[RV.cb,di _ _ (s i hi),q,zD6];subst z;have:i<c.size:=by simpa using hi
   simp[zE3,this]
  .rw[if_neg h]at j;exact r.obj n o j
def qy(N:Nat):List (Nat × ii × List gt)->aa
 |[]=>aa.none N
 |(g,e,vs)::r=>(qy N r).put g (ap (Ch e vs))
def mN(N:Nat):∀ T,(qy N T).next=N/\(qy N T).base=N/\(qy N T).dirty=[]
 |[]=>⟨rfl,rfl,rfl⟩
 |(_,_,_)::r=>mN N r
def OU(P:io)(K:FuncId->List gt->aa->Option gt)(b:Nat)(f:FuncId)(args:List gt)(v:gt)(T:List (Nat × ii × List gt)):Bool :=
 match call P K b f args (qy P.globals.size T) with
 |some (.ok u,H1)=>I3 u v&&H1.dirty.isEmpty
 |_=>gc
def y7:∀(T:List (Nat × ii × List gt)),(∀ x∈T,x.1<P.globals.size/\Cz x.2.2=bv/\∃ c,w.heap[x.1]?=ap (.cells c x.2.1 (0,0))/\c.toList=x.2.2)->Rel P Ren.same (qy P.globals.size T) w
 |[],_=>Nx P w
 |(g,e,vs)::r,h=>by obtain⟨b,j,c,k,l⟩:=h (g,e,vs) lw;exact Pg (y7 r fun x hx=>h x (by simp[hx])) b rfl (fun n _ m=>m) k l j
def OR(g:P.follows .mixedOrders=bv){L:FuncId->List gt->aa->Option gt}(p:yT P L){j:Nat}{f:FuncId}{args:List gt}{v:gt}{T:List (Nat × ii × List gt)}(m:args.all af=bv)(h:OU P L j f args v T=bv)
  (q:∀ x∈T,x.1<P.globals.size/\Cz x.2.2=bv/\∃ c,w.heap[x.1]?=ap (.cells c x.2.1 (0,0))/\c.toList=x.2.2) (F:Fence) (n:Nat) (r:cU F) :
  CallsIn F n P f args.toArray w (fun e w'=>e=.returned v/\RowKit.Below w.heap.size w w')/\af v=true:=by
 unfold OU at h;split at h
 .rename_i u H1 t;simp only[zA7]at h;obtain⟨h,y⟩:=h;obtain⟨rfl,o⟩:=LC h;refine⟨?_,o⟩;have:=Pr g p (y7 T q) t (nt _ (wK fun x hx=>zD3.1 m x hx)) (F:=F) (n:=n) r;rw[tD _ args (fun x hx=>zD3.1 m x hx)]at this;refine this.mono ?_;rintro e w' ⟨k,rfl,s⟩;refine⟨by rw[di k _ o],s.os,s.tape,s.output,s.size,fun b z=>s.old b z fun n A l _=>?_⟩;obtain⟨B,C,_⟩:=mN P.globals.size T;rcases l with h|h
  .omega
  .rw[List.isEmpty_iff.1 y]at h;cases h
 .cases h
def pH{ρ:Ren}{H:aa}{g:Nat}{e:ii}{vs:List gt}(r:Rel P ρ H w)(A:g<P.globals.size)(h:bk H g=ap ⟨e,gc,vs⟩)(j:Cz vs=bv):∃ c,w.heap[g]?=ap (.cells c e (0,0))/\c.toList=vs:=by
 obtain⟨k,B⟩:=r.glob.2 g A
 have l:∀ x∈vs,af x=true:=by
  intro x hx;clear h
  induction vs with
  |nil=>cases hx
  |cons y ys C =>
   simp only[Cz,zA7]at j;rcases zA9.1 hx with rfl|hx
   .exact j.1
   .exact C j.2 hx
 simp only[bk,zB5]at h;obtain⟨⟨rv,G,o⟩,hc,hx⟩:=h;simp only[Bl.mk.injEq]at hx;obtain⟨rfl,rfl,rfl⟩:=hx;obtain⟨z,q,m⟩:=ed hc;obtain⟨o',v,b⟩:=r.obj _ _ m;simp only[Fits]at b;obtain⟨c,I,rfl,p,s,_⟩:=b;obtain⟨J,D,M,rfl⟩:=s trivial;rw[k]at v;refine⟨c,v,?_⟩;apply zG4;intro i;rw[RV.gl];by_cases hi:i<rv.n
 .have t:=p i hi;rw[D,zD6]at t;have F:rv.get i∈rv.jJ 0 rv.n:=by rw[RV.gl,zB6]; exact⟨i,by simpa using hi,by simp⟩
  rw[di ρ _ (l _ F)]at t;rw[zE1,List.getElem?_range hi];simpa using t
 .rw[zC5 pp,zC5 pp]
def JM(b:P.follows .mixedOrders=bv){L:FuncId->List gt->aa->Option gt}(l:yT P L){c:Nat}{f:FuncId}{args:List gt}{v:gt}{T:List (Nat × ii × List gt)}{H:aa}(j:args.all af=bv)(h:OU P L c f args v T=bv)
  (g:∀ x∈T,x.1<P.globals.size/\Cz x.2.2=bv/\bk H x.1=ap ⟨x.2.1,gc,x.2.2⟩):br P f args H (.ok v) H:=by
 intro ρ w r m F n R o p;rw[tD ρ args (fun x hx=>zD3.1 j x hx)];obtain⟨q,k⟩:=OR (w:=w) b l j h (fun x hx=>⟨(g x hx).1,(g x hx).2.1,pH r (g x hx).1 (g x hx).2.2 (g x hx).2.1⟩) F n o;refine q.mono ?_;rintro e w' ⟨rfl,s⟩;have:=p ρ w' (St.below r s) (fB _ k);rwa [di ρ _ k]at this
end
section
variable{P:io}{ro:Option Nat}{H:aa}{N:Nat}{E:Env}{ds:List Deferred}{ops:Array Oper}{rest:List Oper}{d:Nat}{ty:ii}{pos:String}{after:Array Edge}{Q:Exit -> ai -> aa -> Prop}
def ln{b:BinOp}{t u:ii}{x y:i4}{p q v:gt}(hx:bd P N x=bv)(c:bd P N y=bv)(e:bX E x=p)(g:bX E y=q)(j:d<N)(k:df P H b t p q=bi)(l:af p=bv)(m:af q=bv)(h:cN P (do eqGuard b t x y p q; binOp b t p q)=ap v)(n:af v=bv) :
  wpOps P ro ops (⟨ap d,.binOp b t x y u,ty,pos,after,bi⟩::rest) (bj N E ds) H Q=wpOps P ro ops rest (bj N (cy E d v) ds) H Q :=
 (qW (x:=ap v) rfl (by simp only[cj,BM,aD hx,aD c,e,g,zA1,zA4,zo,k,l,m,iZ,h,n,zD8,if_true,zB1]; rfl) j).trans ji
def fb(k:IntKind)(x y:Int):Int:=k.wrap ((BitVec.ofInt k.bits x &&& BitVec.ofInt k.bits y).toNat:Int)
def Ks(k:IntKind)(x y:Int):Int:=k.wrap ((BitVec.ofInt k.bits x ||| BitVec.ofInt k.bits y).toNat:Int)
def N5(k:IntKind)(x y:Int):Int:=k.wrap ((BitVec.ofInt k.bits x &&& ~~~BitVec.ofInt k.bits y).toNat:Int)
def vJ(k:IntKind)(x:Int)(n:Nat):Int:=k.wrap (x*2 ^ (min n k.bits))
def jS(k:IntKind)(x:Int)(n:Nat):Int:=x.fdiv (2 ^ (min n k.bits))
def jb(e:BinOp):gt->gt->Option gt
 |.int k a,.int c b=>(match e with
  |.and=>if k=c then ap (.int k (fb k a b)) else bi
  |.or=>if k=c then ap (.int k (Ks k a b)) else bi
  |.andNot=>if k=c then ap (.int k (N5 k a b)) else bi
  |.shl=>if 0<=b then ap (.int k (vJ k a b.toNat)) else bi
  |.shr=>if 0<=b then ap (.int k (jS k a b.toNat)) else bi
  |_=>bi)
 |.string a,.string b=>(match e with
  |.eql=>ap (kw (a.toList == b.toList))
  |_=>bi)
 |_,_=>bi
def Nv{n:BinOp}{t u:ii}{x y:i4}{p q v:gt}(hx:bd P N x=bv)(c:bd P N y=bv)(e:bX E x=p)(g:bX E y=q)(j:d<N)(h:jb n p q=ap v)(l:df P H n t p q=bi) :
  wpOps P ro ops (⟨ap d,.binOp n t x y u,ty,pos,after,bi⟩::rest) (bj N E ds) H Q=wpOps P ro ops rest (bj N (cy E d v) ds) H Q:=by
 unfold jb at h;split at h
 .rename_i k a r b;split at h<;>try split at h
  .rename_i m;subst m;simp only[i5]at h;subst h;exact ln hx c e g j l rfl rfl (by simp[eqGuard,binOp,cN,Op.intBits,fb,pure,bind,Sem.bind]) rfl
  .cases h
  .rename_i m;subst m;simp only[i5]at h;subst h;exact ln hx c e g j l rfl rfl (by simp[eqGuard,binOp,cN,Op.intBits,Ks,pure,bind,Sem.bind]) rfl
  .cases h
  .rename_i m;subst m;simp only[i5]at h;subst h;exact ln hx c e g j l rfl rfl (by simp[eqGuard,binOp,cN,Op.intBits,N5,pure,bind,Sem.bind]) rfl
  .cases h
  .rename_i o;simp only[i5]at h;subst h;exact ln hx c e g j l rfl rfl (by simp[eqGuard,binOp,cN,Op.shift,vJ,pure,bind,Sem.bind,show ¬b<0 by omega]) rfl
  .cases h
  .rename_i o;simp only[i5]at h;subst h;exact ln hx c e g j l rfl rfl (by simp[eqGuard,binOp,cN,Op.shift,jS,pure,bind,Sem.bind,show ¬b<0 by omega]) rfl
  .cases h
  all_goals cases h
 .rename_i a b;split at h
  .simp only[i5]at h;subst h;exact ln hx c e g j l rfl rfl (by simp[eqGuard,binOp,cN,Op.stringOp,pure,bind,Sem.bind]) rfl
  .cases h
 .cases h
def J0{c:BinOp}{t:ii}{p q v:gt}(e:c=.and\/c=.or\/c=.andNot\/c=.shl\/c=.shr)(h:jb c p q=ap v):df P H c t p q=none:=by
 unfold jb at h;split at h
 .rename_i k a g b;simp only[df];split
  .rcases e with rfl|rfl|rfl|rfl|rfl<;>rfl
  .rfl
 .rcases e with rfl|rfl|rfl|rfl|rfl<;>cases h
 .cases h
def Eb{b:BinOp}{t u:ii}{x y:i4}(c:b=.and\/b=.or\/b=.andNot\/b=.shl\/b=.shr)(hx:bd P N x=bv)(g:bd P N y=bv)(j:d<N)(h:(jb b (bX E x) (bX E y)).isSome=bv) :
  wpOps P ro ops (⟨ap d,.binOp b t x y u,ty,pos,after,bi⟩::rest) (bj N E ds) H Q=mB P ro ops rest N E ds d H Q (jb b (bX E x) (bX E y)):=by
 cases e:jb b (bX E x) (bX E y) with
 |none=>rw[e]at h; cases h
 |some v=>exact (Nv hx g rfl rfl j e (J0 c e)).trans ji.symm
def oY{t u:ii}{x y:i4}(hx:bd P N x=bv)(b:bd P N y=bv)(c:d<N)(h:(jb .and (bX E x) (bX E y)).isSome=bv):wpOps P ro ops (⟨ap d,.binOp .and t x y u,ty,pos,after,bi⟩::rest) (bj N E ds) H Q=mB P ro ops rest N E ds d H Q (jb .and (bX E x) (bX E y)):=Eb lw hx b c h
def Og{t u:ii}{x y:i4}(hx:bd P N x=bv)(b:bd P N y=bv)(c:d<N)(h:(jb .or (bX E x) (bX E y)).isSome=bv):wpOps P ro ops (⟨ap d,.binOp .or t x y u,ty,pos,after,bi⟩::rest) (bj N E ds) H Q=mB P ro ops rest N E ds d H Q (jb .or (bX E x) (bX E y)):=Eb lw hx b c h
def Ny{t u:ii}{x y:i4}(hx:bd P N x=bv)(b:bd P N y=bv)(c:d<N)(h:(jb .andNot (bX E x) (bX E y)).isSome=bv):wpOps P ro ops (⟨ap d,.binOp .andNot t x y u,ty,pos,after,bi⟩::rest) (bj N E ds) H Q=mB P ro ops rest N E ds d H Q (jb .andNot (bX E x) (bX E y)):=Eb lw hx b c h
def IJ{t u:ii}{x y:i4}(hx:bd P N x=bv)(b:bd P N y=bv)(c:d<N)(h:(jb .shl (bX E x) (bX E y)).isSome=bv):wpOps P ro ops (⟨ap d,.binOp .shl t x y u,ty,pos,after,bi⟩::rest) (bj N E ds) H Q=mB P ro ops rest N E ds d H Q (jb .shl (bX E x) (bX E y)):=Eb lw hx b c h
def oT{t u:ii}{x y:i4}(hx:bd P N x=bv)(b:bd P N y=bv)(c:d<N)(h:(jb .shr (bX E x) (bX E y)).isSome=bv):wpOps P ro ops (⟨ap d,.binOp .shr t x y u,ty,pos,after,bi⟩::rest) (bj N E ds) H Q=mB P ro ops rest N E ds d H Q (jb .shr (bX E x) (bX E y)):=Eb lw hx b c h
def iH{k:IntKind}{a b:Int}:jb .and (.int k a) (.int k b)=ap (.int k (fb k a b)):=by simp only[jb,if_true]
def BX{k:IntKind}{a b:Int}:jb .or (.int k a) (.int k b)=ap (.int k (Ks k a b)):=by simp only[jb,if_true]
def F3{k:IntKind}{a b:Int}:jb .andNot (.int k a) (.int k b)=ap (.int k (N5 k a b)):=by simp only[jb,if_true]
def vZ{k c:IntKind}{a b:Int}(h:0<=b):jb .shl (.int k a) (.int c b)=ap (.int k (vJ k a b.toNat)):=by simp only[jb,h,if_true]
def iP{k c:IntKind}{a b:Int}(h:0<=b):jb .shr (.int k a) (.int c b)=ap (.int k (jS k a b.toNat)):=by simp only[jb,h,if_true]
def vT{t u:ii}{x y:i4}{a b:ByteArray}(hx:bd P N x=bv)(c:bd P N y=bv)(e:bX E x=.string a)(g:bX E y=.string b)(h:d<N)(j:df P H .eql t (.string a) (.string b)=bi):wpOps P ro ops (⟨ap d,.binOp .eql t x y u,ty,pos,after,bi⟩::rest) (bj N E ds) H Q=wpOps P ro ops rest (bj N (cy E d (kw (a.toList == b.toList))) ds) H Q :=
 Nv hx c e g h rfl j
def fj(b:List MapEntry)(c:Nat):dw:=⟨.map ⟨b⟩ c,gc,⟨[],0⟩⟩
def Oo{t:ii}(b:d<N):wpOps P ro ops (⟨ap d,.makeMap t bi,ty,pos,after,bi⟩::rest) (bj N E ds) H Q=wpOps P ro ops rest (bj N (cy E d (.map (ap H.next))) ds) (H.new (fj [] 0)) Q:=by rw[zx rfl rfl];simp only[zQ,cj,rD,qY,nT,Kc,cW N E ds d _ b];rfl
def Q8{t:ii}{x k y:i4}(hx:bd P N x=bv)(b:bd P N k=bv)(c:bd P N y=bv):wpOps P ro ops (⟨bi,.insert t x k y,ty,pos,after,bi⟩::rest) (bj N E ds) H Q=sZ P ro ops rest (bj N E ds) Q (bN P H t (bX E x) (bX E k) (bX E y)):=by
 rw[zx rfl rfl];simp only[zQ,cj,ij,aD hx,aD b,aD c,Mi,zA1,zA4]
 cases bN P H t (bX E x) (bX E k) (bX E y) with
 |none=>rfl
 |some H1=>simp only[zB1,nT,Kc,xh,sZ]
def Dy{t:ii}{x k:i4}{ok:Bool}(hx:bd P N x=bv)(b:bd P N k=bv)(c:d<N):wpOps P ro ops (⟨ap d,.lookup t x k ok,ty,pos,after,bi⟩::rest) (bj N E ds) H Q=mB P ro ops rest N E ds d H Q (lr P H t (bX E x) (bX E k) ok) :=
 qW rfl (by simp only[cj,vO,aD hx,aD b,zA1,zA4]) c
def Fs{t key h:ii}{kd:TypeDesc}{k v:gt}{b:List MapEntry}{c m:Nat}(j:H.next=m)(g:H.base<=H.next)(l:P.underlying t=ap (.map key h))(n:P.underlying key=ap kd)(p:(oC k&&lj kd)=bv)(q:aV (H.next+1) v=bv)(r:Instr.findNow kd k b 0=ap bi) :
  bN P (H.new (fj b c)) t (.map (ap m)) k v=ap (H.new (fj (b++[{key:=k,val:=v,born:=c}]) (c+1))):=by
 subst j;have s:(H.new (fj b c)).get H.next=ap ⟨.map ⟨b⟩ c,gc,⟨[],0⟩⟩:=by rw[aa.fN,if_pos rfl]; rfl
 have y:(oC k&&lj kd&&aV (H.new (fj b c)).next v)=true:=by rw[p,Bool.true_and]; exact q
 have e:=IC (H:=H) (x:=fj b c) (o:=fj (b++[{key:=k,val:=v,born:=c}]) (c+1)) g;unfold bN;rw[l];simp only[s,n,zA1,zA4,y,if_true,r];rw[<-e];simp[fj]
end
section
variable{P:io}{H:aa}{N:Nat}{E:Env}{ds:List Deferred}{ro:Option Nat}{ops:Array Oper}{rest:List Oper}{d:Nat}{ty:ii}{pos:String}{after:Array Edge}
def aY{Q:Exit->ai->aa->Prop}{x:i4}{s t:ii}(hx:bd P N x=bv):wpOps P ro ops (⟨ap d,.convert s t x,ty,pos,after,bi⟩::rest) (bj N E ds) H Q=ph P ro ops rest N E ds (ap d) Q (bM P H s t (bX E x)) :=
 uF rfl (by simp only[cj,og,aD hx,zA1,zA4])
def im{s t:ii}{u:TypeDesc}{k k0:IntKind}{n:Int}(b:P.underlying s=ap u)(c:P.underlying t=ap (.int k)):bM P H s t (.int k0 n)=ap (.int k (k.wrap n),H):=by simp only[bM,b,c]
def Lv{t e:ii}{sz by1 n:Nat}{z:gt}(k:P.underlying t=ap (.slice e))(b:bg P e=ap sz)(c:bytesOf P e=ap by1)(l:zeroOf P e=ap z)(h:z.cells.toList.length=sz)(j:small n by1=bv) :
  fc P H t (i7 i8 (n:Int)) (i7 i8 (n:Int))=(cH H e (cg z.cells.toList n) gc).map fun g=>(jp (ap ⟨H.next,0,ap 0⟩) n n,g):=by
 simp only[fc,k,b,c,l,zA1,zA4,Int.toNat_natCast];rw[if_pos ⟨by omega,Int.le_refl _,j,h⟩];cases cH H e (cg z.cells.toList n) gc<;>rfl
def JF{dt st e:ii}{sz m off dl dc n off2 sl sc:Nat}{s s2:Option Nat}{b:Bl}(j:P.underlying dt=ap (.slice e))(c:bg P e=ap sz)(k:s.getD 0=0)(o:rk H n=ap b)(h:off2+zF0 sl dl*sz<=b.l.length) :
  aF P H .copy ⟨[dt,st]⟩ [jp (ap ⟨m,off,s⟩) dl dc,jp (ap ⟨n,off2,s2⟩) sl sc]=(dX H m off ((b.l.drop off2).take (zF0 sl dl*sz))).map fun g=>(goInt (zF0 sl dl),g):=by
 simp only[aF,Aq,j,c,zA1,zA4,kz,kK o h];rw[if_pos (.inl k)];cases dX H m off ((b.l.drop off2).take (zF0 sl dl*sz))<;>rfl
def y9{dt st e:ii}{sz m off dl dc n off2 sl sc:Nat}{s s2:Option Nat}{b:Bl}(j:P.underlying dt=ap (.slice e))(c:bg P e=ap sz)(k:s.getD 0=0)(o:bk H n=ap b)(h:off2+zF0 sl dl*sz<=b.l.length) :
  aF P H .copy ⟨[dt,st]⟩ [jp (ap ⟨m,off,s⟩) dl dc,jp (ap ⟨n,off2,s2⟩) sl sc]=(dX H m off ((b.l.drop off2).take (zF0 sl dl*sz))).map fun g=>(goInt (zF0 sl dl),g):=JF j c k (ma o) h
def xT{t e:ii}{sz n off len cap:Nat}{lo hi:Option gt}{l h:Nat}(c:P.underlying t=ap (.slice e))(b:bg P e=ap sz)(g:bound 0 lo=ap l)(j:bound len hi=ap h)(k:h<=cap)(m:l<=h)(o:l<cap) :
  cw P H t (jp (ap ⟨n,off,ap 0⟩) len cap) lo hi bi=ap (jp (ap ⟨n,off+l*sz,ap 0⟩) (h-l) (cap-l),H):=by
 simp only[cw,c,b,kh,g,j,zA1,zA4,dW];rw[if_pos ⟨k,m⟩,if_neg li]
def wV{Q:ai->aa->Prop}{i:Nat}{fps:List Fp}{anc:List Nat}{t:ii}{x:i4}{lo hi b:Option i4}{dst:Option Nat} :
  eV P ops anc (⟨dst,.slice t x lo hi b,ty,pos,after,bi⟩::rest) i fps (bj N E ds) H Q=mh P ops anc ⟨dst,.slice t x lo hi b,ty,pos,after,bi⟩ rest i fps (bj N E ds) H Q:=by
 simp only[eV,cG,iM,gC,oQ,qA,mh]
def Pd{Q:ai->aa->Prop}{i:Nat}{fps:List Fp}{anc:List Nat}{args:List i4}{ts:Array ii}{dst:Option Nat}(b:args.all (bd P N)=bv) :
  eV P ops anc (⟨dst,.call ⟨.builtin .copy,⟨args⟩,ts⟩,ty,pos,after,bi⟩::rest) i fps (bj N E ds) H Q=mh P ops anc ⟨dst,.call ⟨.builtin .copy,⟨args⟩,ts⟩,ty,pos,after,bi⟩ rest i fps (bj N E ds) H Q:=by
 simp only[eV,cG,iM,gC,oQ,qA,mh,cT b,Rx,kQ]
def wE{o:Oper}{Q:ai->aa->Prop}{i:Nat}{fps:List Fp}{anc:List Nat}{v:gt}(b:o.dst=ap d)(e:d<N)(c:∀ G,cj o.op P (bj N E ds) G=ap (.value v,G))(j:∀ r∈fps,fw (anc.getD i 0) [] [] (ae v++([]:List Bl).flatMap fun x=>gH x.l) r)
  (h:eV P ops anc rest (i+1) (⟨i,[],[],H.next,H.next+0⟩::fps) (bj N (cy E d v) ds) H Q):mh P ops anc o rest i fps (bj N E ds) H Q :=
 sL (v:=v) (M:=[]) [] b e (fun _ h=>by cases h) (fun G _ _=>gL (x:=.value v) (g:=G) (c G) ⟨rfl,rfl⟩) j h
def tn{t:ii}{x:i4}{lo hi b:Option i4}{v:gt}{G:aa}(hx:bd P N x=bv)(c:ik P N lo=bv)(e:ik P N hi=bv)(g:ik P N b=bv)(h:cw P G t (bX E x) (qZ E lo) (qZ E hi) (qZ E b)=ap (v,G)) :
  cj (.slice t x lo hi b) P (bj N E ds) G=ap (.value v,G):=by
 simp only[cj,wZ,aD hx,kk c,kk e,kk g,zA1,zA4,h,tN,zB1]
def jl{args:List i4}{b:Builtin}{ts:Array ii}{dst:Option Nat}{v:gt}{G:aa}(c:args.all (bd P N)=bv)(h:aF P H b ts (args.map (bX E))=ap (v,G)):F8 P (bj N E ds) H ⟨dst,.call ⟨.builtin b,⟨args⟩,ts⟩,ty,pos,after,bi⟩ (.ok v) G :=
 gL (x:=.value v) (g:=G) (by simp only[cj,lx,cT c,zA1,zA4,h,tN,zB1]) ⟨rfl,rfl⟩
end
section
variable{P:io}{ro:Option Nat}{H:aa}{N:Nat}{E:Env}{ds:List Deferred}{ops:Array Oper}{rest:List Oper}{d:Nat}{ty:ii}{pos:String}{after:Array Edge}
def PV{t:ii}{s:ByteArray}{i:Int}{k:Nat}{c:UInt8}{kd:IntKind}(b:P.underlying t=ap .string)(hi:i=k)(e:s.data.toList[k]?=ap c):gJ P t (.string s) (.int kd i)=ap (.int .u8 (c.toNat:Int)):=by subst hi;simp only[gJ,b];rw[if_pos (Int.natCast_nonneg k),Int.toNat_natCast,e];rfl
def pL{t:ii}{s:ByteArray}(b:P.underlying t=ap .string):aF P H .len ⟨[t]⟩ [.string s]=ap (goInt s.size,H):=by simp[aF,zr,b]
def Md{Q:Exit->ai->aa->Prop}{x:i4}{t:ii}(hx:bd P N x=bv):wpOps P ro ops (⟨ap d,.range t x,ty,pos,after,bi⟩::rest) (bj N E ds) H Q=ph P ro ops rest N E ds (ap d) Q (qP P H t (bX E x)) :=
 uF rfl (by simp only[cj,BA,aD hx,zA1,zA4])
def wg{Q:Exit->ai->aa->Prop}{x:i4}{s:Bool}(hx:bd P N x=bv):wpOps P ro ops (⟨ap d,.next x s,ty,pos,after,bi⟩::rest) (bj N E ds) H Q=ph P ro ops rest N E ds (ap d) Q (sa H (bX E x) s) :=
 uF rfl (by simp only[cj,Iy,aD hx,zA1,zA4])
def KU(s:ByteArray)(p:Nat):dw:=⟨.stringIter s p,gc,⟨[],0⟩⟩
def Jr{t:ii}{s:ByteArray}(b:P.underlying t=ap .string):qP P H t (.string s)=ap (i9 (ap ⟨H.next,0,bi⟩),H.new (KU s 0)):=by simp only[qP,b,KU]
def Nh{n p:Nat}{s:ByteArray}(h:H.get n=ap (KU s p))(b:p<s.size):sa H (i9 (ap ⟨n,0,bi⟩)) bv=ap (.tuple #[kw bv,goInt p,.int .i32 (Utf8.decode s p).1],H.cy n (ap (KU s (p+(Utf8.decode s p).2)))):=by simp only[sa,h,KU];rw[if_pos b]
def MQ{n p:Nat}{s:ByteArray}(h:H.get n=ap (KU s p))(b:¬p<s.size):sa H (i9 (ap ⟨n,0,bi⟩)) bv=ap (.tuple #[kw gc],H):=by simp only[sa,h,KU];rw[if_neg b]
def GC{Q:ai->aa->Prop}{i:Nat}{fps:List Fp}{anc:List Nat}{x:i4}{s t:ii}{dst:Option Nat} :
  eV P ops anc (⟨dst,.convert s t x,ty,pos,after,bi⟩::rest) i fps (bj N E ds) H Q=mh P ops anc ⟨dst,.convert s t x,ty,pos,after,bi⟩ rest i fps (bj N E ds) H Q:=by
 simp only[eV,cG,iM,gC,oQ,qA,mh]
def mJ{Q:ai->aa->Prop}{i:Nat}{fps:List Fp}{anc:List Nat}{x:i4}{s t:ii}{u:TypeDesc}{k k0:IntKind}{n:Int}(hx:bd P N x=bv)(b:d<N)(c:P.underlying s=ap u)(e:P.underlying t=ap (.int k))(g:bX E x=.int k0 n)
  (h:eV P ops anc rest (i+1) (⟨i,[],[],H.next,H.next+0⟩::fps) (bj N (cy E d (.int k (k.wrap n))) ds) H Q):eV P ops anc (⟨ap d,.convert s t x,ty,pos,after,bi⟩::rest) i fps (bj N E ds) H Q:=by
 rw[GC];refine wE rfl b (fun G=>by simp only[cj,og,aD hx,g,im c e,tN,zA1,zA4,zB1]) (fun r _=>?_) h;right;exact⟨fun _ _ h=>(by cases h),fun _ _ h=>(by cases h),fun _=>⟨fun _ h=>(by cases h),fun _ h=>(by cases h)⟩⟩
def lD{n:Nat}{b:Bl}(h:bk H n=ap b):∃ rv,bI H n=ap (rv,b.e,b.o)/\rv.n=b.l.length:=by obtain⟨rv,c,g,j⟩:=qJ h;exact⟨rv,c,g⟩
def Mn{st xt e:ii}{sz by1 m off k n off2 cnt cap:Nat}{sp s:Option Nat}{z:gt}{b c:Bl}(J:P.underlying st=ap (.slice e))(t:bg P e=ap sz)(v:bytesOf P e=ap by1)(M:zeroOf P e=ap z)(x:z.cells.toList.length=sz)(hi:fM P xt=ap gc)
  (y:bk H m=ap c) (O:c.e=e) (R:c.o=bv) (A:off+k*sz<=c.l.length) (q:((c.l.drop off).take (k*sz)).all one=bv) (B:sp=bi\/(∃ j,sp=ap (j+1))/\k=0)
  (S:rk H n=ap b) (r:off2+cnt*sz<=b.l.length) (h:((b.l.drop off2).take (cnt*sz)).all one=bv) (V:0<cnt) (C:small (k+cnt) by1=bv) :
  aF P H .append ⟨[st,xt]⟩ [jp (ap ⟨m,off,sp⟩) k k,jp (ap ⟨n,off2,s⟩) cnt cap]=(cH (H.cy m bi) e ((c.l.drop off).take (k*sz)++(b.l.drop off2).take (cnt*sz)) bv).map fun g=>(jp (ap ⟨H.next,0,bi⟩) (k+cnt) (k+cnt),g):=by
 have T:((b.l.drop off2).take (cnt*sz)).length=cnt*sz:=by simp; omega
 have D:((c.l.drop off).take (k*sz)).length=k*sz:=by simp; omega
 obtain⟨rv,F,G⟩:=lD y;have p:=l6 y;rw[R]at p;have U:=fA (sz:=sz) (cnt:=k) (off:=off) (len:=k) (cap:=k) (s:=sp) y A
 have I:fK H ⟨m,off,sp⟩ k k=ap false:=by
  rcases B with rfl|⟨⟨j,rfl⟩,rfl⟩
  .simp only[fK,dW,p,zB1,zE4]
  .simp only[fK,p];rfl
 simp only[aF,fL,J,t,v,M,hi,zA1,zA4,kz,kK S r,T,x,C,and_self,if_true,dU];rw[if_neg li];simp only[U,zA4,D,q,h,decide_true,zD8,if_true,I,F];rw[if_pos ⟨O,by rw[zE2,G]; omega⟩];cases cH (H.cy m bi) e ((c.l.drop off).take (k*sz)++(b.l.drop off2).take (cnt*sz)) bv<;>rfl
def LN{st xt e:ii}{sz by1 n off cnt cap:Nat}{s:Option Nat}{z:gt}{b:Bl}(p:P.underlying st=ap (.slice e))(h:bg P e=ap sz)(j:bytesOf P e=ap by1)(q:zeroOf P e=ap z)(k:z.cells.toList.length=sz)(hi:fM P xt=ap gc)
  (r:rk H n=ap b) (m:off+cnt*sz<=b.l.length) (c:((b.l.drop off).take (cnt*sz)).all one=bv) (v:0<cnt) (o:small cnt by1=bv) :
  aF P H .append ⟨[st,xt]⟩ [jp bi 0 0,jp (ap ⟨n,off,s⟩) cnt cap]=(cH H e ((b.l.drop off).take (cnt*sz)) bv).map fun g=>(jp (ap ⟨H.next,0,bi⟩) cnt cnt,g):=by
 have t:((b.l.drop off).take (cnt*sz)).length=cnt*sz:=by simp; omega
 simp only[aF,fL,p,h,j,q,hi,zA1,zA4,kz,kK r m,t,k,zC6,o,and_self,if_true,dU];rw[if_neg li];simp only[dj,zA4,zB0,Nat.zero_mul,List.all_nil,c,decide_true,zD8,if_true,zD0];cases cH H e ((b.l.drop off).take (cnt*sz)) bv<;>rfl
def cK(H:aa)(e:ii)(sz:Nat)(v:gt)(vs:List gt)(cnt:Nat):Prop :=
 vs.length=cnt*sz/\vs.all one=bv/\((cnt=0/\v=jp bi 0 0)\/(0<cnt/\∃ n,v=jp (ap ⟨n,0,bi⟩) cnt cnt/\bk H n=ap ⟨e,bv,vs⟩/\n<H.next))
def cK.nil{e:ii}{sz:Nat}:cK H e sz (jp bi 0 0) [] 0:=⟨by simp,rfl,.inl ⟨rfl,rfl⟩⟩
def cK.of{G:aa}{e:ii}{sz cnt:Nat}{v:gt}{vs:List gt}(h:cK H e sz v vs cnt)(l:H.next<=G.next)(c:∀ n∈ae v,G.get n=H.get n):cK G e sz v vs cnt:=by
 obtain⟨b,h2,⟨rfl,rfl⟩|⟨g,n,rfl,j,k⟩⟩:=h
 .exact⟨b,h2,.inl ⟨rfl,rfl⟩⟩
 .exact⟨b,h2,.inr ⟨g,n,rfl,(aO (c n ol)).trans j,by omega⟩⟩
def cK.ne{e:ii}{sz cnt:Nat}{v:gt}{vs:List gt}(h:cK H e sz v vs cnt):∀ n∈ae v,H.get n≠bi/\n<H.next:=by obtain⟨j,h2,⟨rfl,rfl⟩|⟨k,n,rfl,g,b⟩⟩:=h<;>intro m c<;>simp only[ae,zA6,zF2]at c;subst c; exact⟨fI g,b⟩
def cK.sc{e:ii}{sz cnt:Nat}{v:gt}{vs:List gt}(h:cK H e sz v vs cnt):aV H.next v=true:=by
 obtain⟨c,h2,⟨rfl,rfl⟩|⟨g,n,rfl,j,b⟩⟩:=h
 .rfl
 .exact bx b
def cK.len{e:ii}{sz cnt:Nat}{v:gt}{vs:List gt}(h:cK H e sz v vs cnt):∃ a,v=.slice a cnt cnt:=by
 obtain⟨c,h2,⟨rfl,rfl⟩|⟨g,n,rfl,j,b⟩⟩:=h
 .exact⟨_,rfl⟩
 .exact⟨_,rfl⟩
def Cc{st xt e:ii}{sz by1 n off cnt cnt2 cap x:Nat}{s:Option Nat}{z v:gt}{b:Bl}{vs ws:List gt}(M:P.underlying st=ap (.slice e))(t:bg P e=ap sz)(y:bytesOf P e=ap by1)(O:zeroOf P e=ap z)(A:z.cells.toList.length=sz)(hi:fM P xt=ap gc)
  (h:cK H e sz v vs cnt) (R:rk H n=ap b) (B:off+cnt2*sz<=b.l.length) (j:(b.l.drop off).take (cnt2*sz)=ws) (g:ws.all one=bv) (S:0<cnt2) (C:small (cnt+cnt2) by1=bv) (hx:H.next=x) (p:aX H.next (vs++ws)=bv) :
  ∃ G,aF P H .append ⟨[st,xt]⟩ [v,jp (ap ⟨n,off,s⟩) cnt2 cap]=ap (jp (ap ⟨x,0,bi⟩) (cnt+cnt2) (cnt+cnt2),G)/\cK G e sz (jp (ap ⟨x,0,bi⟩) (cnt+cnt2) (cnt+cnt2)) (vs++ws) (cnt+cnt2)/\(H.base<=H.next->Mod (ae v) H G)/\G.next=x+1/\(∀ m,m<x->m∉ae v->G.get m=H.get m):=by
 have D:ws.length=cnt2*sz:=by rw[<-j]; simp; omega
 obtain⟨T,h2,⟨rfl,rfl⟩|⟨Z,m,rfl,U,X⟩⟩:=h
 .have Y:vs=[]:=zE7 (by simpa using T);subst Y;rw[zD0]at p ⊢;have c:=LN (H:=H) (st:=st) (xt:=xt) (n:=n) (off:=off) (cnt:=cnt2) (cap:=cap) (s:=s) M t y O A hi R B (by rw[j]; exact g) S (by simpa using C);have I:=et (H:=H) (L:=[]) (e:=e) (l:=ws) (o:=true) (by simpa using p);rw[j,show cH H e ws bv=cH (ext H []) e ws bv from rfl,I,zB1,hx]at c;refine⟨ext H [⟨e,bv,ws⟩],by rw[zC6]; exact c,⟨by rw[D,zC6],g,.inr ⟨by omega,x,rfl,?_,by rw[aA,hx]; simp⟩⟩,fun r=>Mod.ext r,by rw[aA,hx]; rfl,fun m U _=>bS li⟩;rw[show x=x+0 from rfl,bJ hx lw]; rfl
 .have F:(vs.drop 0).take (cnt*sz)=vs:=by rw[zD2]; exact zC3 li
  have c:=Mn (H:=H) (st:=st) (xt:=xt) (m:=m) (off:=0) (k:=cnt) (sp:=bi) (n:=n) (off2:=off) (cnt:=cnt2) (cap:=cap) (s:=s) M t y O A hi U rfl rfl rc (by simp only[F]; exact h2) (.inl rfl) R B (by rw[j]; exact g) S C;simp only[F,j]at c;have I:=et (H:=dp H m) (L:=[]) (e:=e) (l:=vs++ws) (o:=true) (by rw[iR]; simpa using p);rw[show H.cy m bi=ext (dp H m) [] from rfl,I,zB1,hx]at c;have V:Mod (ae (jp (ap ⟨m,0,bi⟩) cnt cnt)) H (dp H m):=Mod.cy ol;refine⟨ext (dp H m) [⟨e,bv,vs++ws⟩],c,⟨by rw[zB2,T,D,Nat.add_mul],by rw[List.all_append,h2,g]; rfl,.inr ⟨by omega,x,rfl,?_,by rw[aA,iR,hx]; simp⟩⟩,fun r=>V.trans (Mod.ext (V.ok r)),by rw[aA,iR,hx]; rfl,fun q hq J=>?_⟩
  .rw[show x=x+0 from rfl,bJ (show (dp H m).next=x from hx) lw]; rfl
  .rw[bS (by rw[iR]; omega),QP (by simpa[ae]using J)]
end
open Go.Proofs
section
variable{P:io}{ρ:Ren}{H:aa}{w:ip}
end
end Go.Ax
namespace Go.Proofs.YtpohjcacnkhnkaaGreatDoor
open Go.Ax
abbrev Pure(f:FuncId)(args:List gt)(H:aa)(v:gt):Prop:=br Tryz.prog f args H (.ok v) H
abbrev Rs(n:Int):Int:=IntKind.i64.wrap n
def ak{n:Int}(b:-4000000000000<n)(c:n<4000000000000):Rs n=n:=by simp only[Rs,IntKind.wrap,IntKind.signed,IntKind.bits];simp;omega
def bA{k:Nat}(h:k<1000000):IntKind.i64.wrap ((k:Int)+1)=((k+1:Nat):Int):=by have:=ak (n:=(k:Int)+1) li li;rw[show IntKind.i64.wrap ((k:Int)+1)=_ from this]; omega
end Go.Proofs.YtpohjcacnkhnkaaGreatDoor
namespace Go.Ax
section
variable{P:io}{H:aa}
def Ip{st xt e:ii}{by1 cnt x:Nat}{z v:gt}{vs:List gt}{s:ByteArray}(T:P.underlying st=ap (.slice e))(p:bg P e=ap 1)(q:bytesOf P e=ap by1)(U:zeroOf P e=ap z)(r:z.cells.toList.length=1)(hi:fM P xt=ap gc)
  (h:cK H e 1 v vs cnt) (X:0<s.size) (c:small (cnt+s.size) by1=bv) (hx:H.next=x) (B:aX H.next vs=bv) :
  ∃ G,aF P H .append ⟨[st,xt]⟩ [v,.string s]=ap (jp (ap ⟨x,0,bi⟩) (cnt+s.size) (cnt+s.size),G)/\cK G e 1 (jp (ap ⟨x,0,bi⟩) (cnt+s.size) (cnt+s.size)) (vs++aq s.data.toList) (cnt+s.size)/\(H.base<=H.next->Mod (ae v) H G)/\G.next=x+1:=by
 have C:s.data.toList.length=s.size:=by rw[Array.length_toList]; rfl
 have D:s.data.toList.take s.size=s.data.toList:=zC3 li;have g:(aq s.data.toList).length=s.size:=by rw[aq,zE9,C]
 have b:(aq s.data.toList).all one=true:=zD3.2 fun Y j=>by obtain⟨w',_,rfl⟩:=zB6.1 j;rfl
 have t:dj H 1 s.size (.string s)=ap (aq s.data.toList):=by simp only[dj,D]
 have F:dj H 1 0 (jp bi 0 0)=ap []:=rfl;have y:∀ n,aX n (aq s.data.toList)=true:=fun n=>by rw[cx];intro Y j;obtain⟨w',_,rfl⟩:=zB6.1 j;rfl
 obtain⟨A,h2,⟨rfl,rfl⟩|⟨hp,m,rfl,I,Z⟩⟩:=h
 .have hv:vs=[]:=zE7 (by simpa using A);subst hv;rw[zD0,zC6];rw[zC6]at c;have J:=et (H:=H) (L:=[]) (e:=e) (l:=aq s.data.toList) (o:=true) (y _);refine⟨ext H [⟨e,bv,aq s.data.toList⟩],?_,⟨by omega,b,.inr ⟨X,x,rfl,?_,by rw[aA,hx]; simp⟩⟩,fun k=>Mod.ext k,by rw[aA,hx]; rfl⟩
  .simp only[aF,fL,T,p,q,U,hi,zA1,zA4,kz,t,g,r,zC6,c,zE5,and_self,if_true,dU];rw[if_neg li];simp only[F,zA4,zB0,List.all_nil,b,decide_true,zD8,if_true,zD0];rw[show cH H e (aq s.data.toList) bv=cH (ext H []) e (aq s.data.toList) bv from rfl,J,hx];rfl
  .rw[show x=x+0 from rfl,bJ hx lw]; rfl
 .obtain⟨rv,M,O⟩:=lD I;have R:=l6 I;have S:=fA (sz:=1) (cnt:=cnt) (off:=0) (len:=cnt) (cap:=cnt) (s:=bi) I rc;simp only[zD2]at S;rw[zC3 li]at S;have J:=et (H:=dp H m) (L:=[]) (e:=e) (l:=vs++aq s.data.toList) (o:=true) (by rw[iR]; exact eI (by simpa using B) (y _));have V:Mod (ae (jp (ap ⟨m,0,bi⟩) cnt cnt)) H (dp H m):=Mod.cy ol;refine⟨ext (dp H m) [⟨e,bv,vs++aq s.data.toList⟩],?_,⟨by rw[zB2,A,g,Nat.add_mul]; omega,by rw[List.all_append,h2,b]; rfl,.inr ⟨by omega,x,rfl,?_,by rw[aA,iR,hx]; simp⟩⟩,fun k=>V.trans (Mod.ext (V.ok k)),by rw[aA,iR,hx]; rfl⟩
  .simp only[aF,fL,T,p,q,U,hi,zA1,zA4,kz,t,g,r,c,zE5,and_self,if_true,dU];rw[if_neg li];rw[zE5]at A;simp only[S,zA4,A,h2,b,decide_true,zD8,if_true,fK,dW,R,zB1,zE4,M];rw[if_pos ⟨trivial,by rw[zE2,O]; simp only; omega⟩];rw[show H.cy m bi=ext (dp H m) [] from rfl,J,hx];rfl
  .rw[show x=x+0 from rfl,bJ (show (dp H m).next=x from hx) lw]; rfl
end
end Go.Ax
namespace Go.Proofs.YtpohjcacnkhnkaaGreatDoor.Tq
open Go.Ax
set_option maxRecDepth 100000
abbrev Jz:DataW Unit:=Rows.laid_internal_strconv_uint64pow10
def Pow(H:aa):Prop:=2<H.next/\∃ e,bk H 2=ap ⟨e,gc,dc Jz⟩
def Pow.of{H G:aa}(h:Pow H)(g:H.next<=G.next)(b:G.get 2=H.get 2):Pow G:=by obtain⟨j,e,c⟩:=h;exact⟨by omega,e,(aO b).trans c⟩
def Pow.mod{H G:aa}{W:List Nat}(h:Pow H)(m:Mod W H G)(b:2∉W):Pow G:=h.of m.next (m.get 2 h.1 b)
def MH:dc Jz=Go.Lib.pow10Tab.map fun z=>Value.int .u64 z:=by kernel_rfl
def Ka{ρ:Go.Ax.Ren}{H:aa}{w:ip}(r:Rel Tryz.prog ρ H w)(t:Pow H):Go.Lib.TabIs Tryz.prog w "internal/strconv.uint64pow10" .u64 Go.Lib.pow10Tab:=by
 obtain⟨_,e,h⟩:=t;obtain⟨c,a,b⟩:=pH r (show 2<Tryz.prog.globals.size by decide +kernel) h ls;have g:Tryz.prog.globalNamed "internal/strconv.uint64pow10" = ap 2:=by kernel_rfl
 have j:c=(Go.Lib.pow10Tab.map fun z=>Value.int .u64 z).toArray:=by rw[<-MH,<-b]
 unfold Go.Lib.TabIs World.var?;rw[g];simp[a,j]
def Ox:Go.Shelf.Ren:=⟨fun n=>if n=129 then 168 else if n=283 then 163 else if n=284 then 164 else if n=285 then 165 else if n=317 then 167 else if n=318 then 169 else 0,fun n=>if n=37 then 25 else if n=46 then 138 else if n=51 then 170 else if n=53 then 173 else if n=212 then 195 else n,fun n=>if n=17 then 2 else n⟩
def Rm:Go.Proofs.Lays.n283 Tryz.prog Ox:=by
 constructor
 all_goals first
  |exact mixed
  |kernel_rfl
  |(intro w; kernel_rfl)
def P9:Go.Proofs.Lays.n284 Tryz.prog Ox:=by
 constructor
 all_goals first
  |exact mixed
  |kernel_rfl
  |(intro w; kernel_rfl)
def Rc:Go.Proofs.LaysM.n284 Tryz.prog Ox:=by
 constructor
 all_goals first
  |exact P9
  |exact mixed
  |kernel_rfl
  |(intro w; kernel_rfl)
def Q6:Go.Proofs.Lays.n285 Tryz.prog Ox:=by
 constructor
 all_goals first
  |exact mixed
  |kernel_rfl
  |(intro w; kernel_rfl)
def DM{f:FuncId}{args:List gt}{H:aa}{v:gt}(b:∀ x∈args,af x=bv)(c:af v=bv)(g:∀ n,aV n v=bv)(h:∀ ρ w,Rel Tryz.prog ρ H w->Calls Tryz.prog f ⟨args⟩ w fun e w'=>e=.returned v/\w'=w):Pure f args H v:=by intro ρ w r j F m R k l;rw[tD ρ _ b];refine (k.calls (h ρ w r)).mono ?_;rintro e w' ⟨rfl,rfl⟩;have:=l ρ w' (St.below r ⟨rfl,rfl,rfl,zA5 _,fun _ _=>rfl⟩) (g _);rwa [di ρ _ c]at this
def ON(H:aa)(i:Nat)(h:i<100):Pure 163 [i7 i8 i] H (.string ⟨(Go.Lib.decDigits i).toArray⟩) :=
 DM (fun x hx=>by simp only[zA9,zF2,or_false]at hx; subst hx; rfl) rfl (fun _=>rfl) fun _ w _=>Go.Proofs.Any.internal_strconv_small Rm i h w
def Qj(H:aa)(t:Pow H)(u:Nat)(b:1<=u)(c:u<18446744073709551616):Pure 164 [.int .u64 u] H (i7 i8 (Go.Lib.nDigits u)) :=
 DM (fun x hx=>by simp only[zA9,zF2,or_false]at hx; subst hx; rfl) rfl (fun _=>rfl) fun _ w r=>Go.Proofs.Any.internal_strconv_numDigits Rc u b c w (Ka r t)
def Cy(c:Array gt)(off:Nat)(d:Array UInt8)(i:Nat)(hi:i<c.size):(Go.Sort.putCells (fun b:UInt8=>Value.int .u8 (b.toNat:Int)) off d c)[i]?=if off<=i/\i<off+d.size then ap (.int .u8 (d[i-off]!.toNat:Int)) else c[i]?:=by unfold Go.Sort.putCells;rw[Array.getElem?_mapIdx,Array.getElem?_eq_getElem hi];simp only[zB1];split<;>rfl
def uk{D:List UInt8}{j:Nat}(h:j<D.length):(aq D).getD j undef=.int .u8 (D[j].toNat:Int):=by rw[zE3,aq,zE1,zB3 h];rfl
def RA(H:aa)(b n u cap:Nat)(D:List UInt8)(e:ii)(hb:bk H b=ap ⟨e,gc,aq D⟩)(U:n=Go.Lib.nDigits u)(hD:n<=D.length)(hu:u<18446744073709551616)(hD2:D.length<=1000) :
  br Tryz.prog 165 [jp (ap ⟨b,0,ap 0⟩) n cap,.int .u64 u] H (.ok (.tuple #[])) (uw H b 0 (aq (Go.Lib.decDigits u))):=by
 intro ρ w r hsc F m R hF hR;obtain⟨rv,A,k,B⟩:=qJ hb;simp only at k B;obtain⟨cc,ff,G⟩:=ed A;have V:¬Fz (H.get b):=na A;obtain⟨o',hw,y⟩:=r.obj _ _ G;simp only[Fits]at y;obtain⟨c,fz,rfl,I,X,hop⟩:=y;obtain⟨k1,J,k3,rfl⟩:=X trivial;have g:(aq D).length=D.length:=by simp[aq]
 have C:∀ j,j<n->∃ x:UInt8,D[j]?=ap x/\c[j]?=ap (.int .u8 (x.toNat:Int)):=fun j l=>by
  have p:j<D.length:=by omega
  refine⟨D[j],zB3 p,?_⟩;have M:=I j (by rw[k,g]; omega);rw[J,zD6]at M;rw[M,B j (by rw[g]; exact p)];rw[uk p,Ren.val]
 obtain⟨d,hd⟩:∃ d:Array UInt8,d=(D.take n).toArray:=⟨_,rfl⟩
 have s:d.size=n:=by rw[hd]; simp; omega
 have hH:Go.Sort.Holds (fun (b:UInt8)=>Value.int .u8 (b.toNat:Int)) w (ρ.blk b) 0 d:=fun j l=>by
  rw[s]at l;obtain⟨x,hx,Y⟩:=C j l
  have Z:d[j]! = x:=by
   have h2:d[j]?=ap x:=by rw[hd,List.getElem?_toArray,List.getElem?_take,if_pos l,hx]
   rw[getElem!_def,h2]
  rw[Z];simp only[World.cell?,World.frozen?,hw,zC6,Y];exact⟨rfl,by simp⟩
 have hc:=Go.Proofs.Any.internal_strconv_formatBase10 Q6 (ρ.blk b) 0 cap u d w hH (by rw[s,U]; exact Go.Lib.lt_pow_nDigits u) hu (by rw[s]; omega);have hA:[Value.slice (ap ⟨b,0,ap 0⟩) n cap,.int .u64 (u:Int)].map ρ.val=[jp (ap ⟨ρ.blk b,0,bi⟩) d.size cap,.int .u64 (u:Int)]:=by simp[Ren.val,J,s]
 rw[hA];refine (hF.calls hc).mono ?_;rintro en w' ⟨rfl,q,v',t,rfl,hf⟩;have hdk:t.size=n:=by rw[hf.size,s]
 rw[s,U]at hf
 have z:∀ j,j<n->(aq (Go.Lib.decDigits u)).getD j undef=.int .u8 (t[j]!.toNat:Int):=fun j l=>by
  have p:j<(Go.Lib.decDigits u).length:=by rw[Go.Lib.decDigits_length]; omega
  rw[zE3,aq,zE1,zB3 p,Go.Lib.row_is_numeral hf j p];rfl
 have hu1:uw H b 0 (aq (Go.Lib.decDigits u))=H.cy b (ap ⟨.cells #[] e,gc,rv.fk 0 (aq (Go.Lib.decDigits u))⟩):=by simp only[uw,A]
 have v:(Go.Sort.putRow (fun (b:UInt8)=>Value.int .u8 (b.toNat:Int)) w (ρ.blk b) 0 t).heap=w.heap.modify (ρ.blk b) (Go.Sort.onCells (Go.Sort.putCells (fun b:UInt8=>Value.int .u8 (b.toNat:Int)) 0 t)):=rfl;have O:(Go.Sort.putRow (fun (b:UInt8)=>Value.int .u8 (b.toNat:Int)) w (ρ.blk b) 0 t).heap[ρ.blk b]?=ap (.cells (Go.Sort.putCells (fun b:UInt8=>Value.int .u8 (b.toNat:Int)) 0 t c) e (0,0)):=by rw[v,Array.getElem?_modify,if_pos rfl,hw];rfl
 have S:(Go.Sort.putCells (fun b:UInt8=>Value.int .u8 (b.toNat:Int)) 0 t c).size=c.size:=by simp[Go.Sort.putCells]
 have T:(aq (Go.Lib.decDigits u)).length=n:=by rw[aq,zE9,Go.Lib.decDigits_length,U]
 have hst:=St.cy r (n:=b) (o:=⟨.cells #[] e,gc,rv.fk 0 (aq (Go.Lib.decDigits u))⟩) (w1:=(Go.Sort.putRow (fun (b:UInt8)=>Value.int .u8 (b.toNat:Int)) w (ρ.blk b) 0 t).drewN q) (bw G) V (by
   simp only[ki];intro j l;rw[RV.pA,k,g]at l;rw[RV.lR,T,Nat.sub_zero];split
   .rename_i h;rw[z j li];rfl
   .rw[B j (by rw[g]; exact l)];rw[uk l]
    rfl) (o':=.cells (Go.Sort.putCells (fun b:UInt8=>Value.int .u8 (b.toNat:Int)) 0 t c) e (0,0)) (by
  simp only[Fits];refine⟨_,_,rfl,fun j l=>?_,fun _=>⟨?_,J,k3,rfl⟩,fun h=>(by cases h)⟩
  .rw[RV.pA,k,g]at l;rw[J,zD6,Cy _ _ _ _ (by rw[k1,k,g]; exact l),RV.lR,T,hdk,Nat.sub_zero];split
   .rename_i h;rw[z j li,Ren.val]
   .have M:=I j (by rw[k,g]; exact l);rw[J,zD6]at M;exact M
  .rw[S,RV.pA]; exact k1) O (by show (Go.Sort.putRow _ w (ρ.blk b) 0 t).heap.size=_; rw[v,Array.size_modify]) (fun b' hb'=>by show (Go.Sort.putRow _ w (ρ.blk b) 0 t).heap[b']?=_; rw[v,Array.getElem?_modify,if_neg (fun e=>hb' e.symm)]) rfl rfl rfl
 rw[hu1]at hR;have:=hR _ _ hst rfl;simpa[Ren.val,Ren.dO]using this
end Go.Proofs.YtpohjcacnkhnkaaGreatDoor.Tq
