/- Parts of the proof, one behind the other. -/
import Derived.Test.YtpohjcacnkhnkaaGreatDoorM2
import Derived.Laws.StructEq
import Derived.Test.YtpohjcacnkhnkaaGreatDoorProg
import Derived.KernelRfl
import Derived.Below
import Derived.WideShapes
import Derived.ChangeSlices
import Derived.ChangeAnyMap
import GoSem.ClaimJoined
import Derived.Shelf.Spec.SlicesInsertGrow
set_option linter.all false
set_option maxRecDepth 10000
set_option maxHeartbeats 16000000
open Option renaming some->a9,none->bi
open Bool renaming true->bv,false->ci
open Decidable renaming decide->f7
open Go renaming Value->go,TypeId->io,Program->ip,World->i6,Operand->i7
open Option.some renaming injEq->i8
open Prod.mk renaming injEq->i9
open Go.Value renaming int->jp,pointer->li,slice->lm,bool->ls
open Go.IntKind renaming i64->kw
open And renaming intro -> zA0
open Option renaming bind_eq_bind -> zA1, bind_eq_some_iff -> zA2, bind_some -> zA3, map_some -> zB2, map_eq_some_iff -> zB5, getD_some -> zH9
open Nat renaming le_refl -> zA4, le_of_ble_eq_true -> zA7, zero_le -> zB7, lt_or_ge -> zC0, zero_add -> zC2, le_trans -> zC4, add_zero -> zD5, lt_of_lt_of_le -> zE0, ble_eq -> zE8, mul_one -> zF0, lt_succ_self -> zF3, le_of_eq -> zF6, min -> zF9, add_sub_cancel_left -> zG2, sub_self -> zG8, min_eq_left -> zH0, zero_mul -> zH1
open List renaming mem_singleton -> zA5, mem_cons -> zA8, length_cons -> zA9, getElem?_eq_getElem -> zB0, mem_append -> zB1, length_append -> zB3, length_nil -> zB4, nil_append -> zB6, map_cons -> zB8, mem_cons_of_mem -> zB9, mem_map -> zC1, all_eq_true -> zC3, mem_of_getElem? -> zC5, length_drop -> zC6, append_nil -> zC7, append_assoc -> zC8, getD_eq_getElem?_getD -> zC9, drop_zero -> zD0, getElem?_eq_none -> zD3, take_of_length_le -> zD4, nodup_cons -> zD6, not_mem_nil -> zD7, length_take -> zD9, length_map -> zE1, mem_of_mem_take -> zE2, cons_append -> zE3, mem_of_mem_drop -> zE4, eq_nil_of_length_eq_zero -> zE5, nodup_append -> zE6, map_nil -> zE7, drop_eq_nil_of_le -> zE9, length_replicate -> zF1, mem_cons_self -> zF2, getElem?_eq_some_iff -> zF5, mem_range -> zF7, mem_append_left -> zF8, getElem?_map -> zG0, getElem?_cons_zero -> zG1, mem_flatMap -> zG3, take_add_one -> zG4, getElem?_append_right -> zG5, mem_append_right -> zG6, take_append_drop -> zG9, take_length -> zH2, drop_drop -> zH3, drop_eq_getElem_cons -> zH4, eq_of_mem_replicate -> zH6, getElem?_cons_succ -> zH8, length_singleton -> zI0
open Bool renaming and_eq_true -> zA6, not_true -> zD1, false_eq_true -> zD2, and_self -> zD8, not_false -> zF4, or_eq_true -> zH5, or_false -> zH7
open Int renaming toNat_natCast -> zG7
namespace Go.Ax
section
variable{P:ip}{ro:Option Nat}{H:aa}{Q:Exit -> ah -> aa -> Prop}{a:ah}{N:Nat}{E:Env}{ds:List Deferred}
def DL(P:ip)(ro:Option Nat)(y:Code)(Q:Exit->ah->aa->Prop):Exit->ah->aa->Prop:=Bw (fun b H1=>gL P ro y Q b H1) Q
def nm(id:Nat)(Q:Exit->ah->aa->Prop):Exit->ah->aa->Prop:=fun e b H1=>Q (E7 id e) b H1
def sj(P:ip)(ro:Option Nat)(x y:Code)(Q:Exit->ah->aa->Prop)(a:ah)(H:aa)(v:go):Prop:=KH (a9 v) (gL P ro x Q a H) (gL P ro y Q a H)
def KT{x y:Code}:gL P ro (.seq x y) Q a H=gL P ro x (DL P ro y Q) a H:=Eq.trans rfl rfl
def Ov:gL P ro .skip Q a H=Q .normal a H:=Eq.trans rfl rfl
def TL:gL P ro .ret Q a H=Q .ret a H:=Eq.trans rfl rfl
def Pc{id:Nat}:gL P ro (.exit id) Q a H=Q (.exit id) a H:=Eq.trans rfl rfl
def EA{id:Nat}{b:Code}:gL P ro (.block id b) Q a H=gL P ro b (nm id Q) a H:=Eq.trans rfl rfl
def Ox{t:Nat}{x y:Code}(b:t<N):gL P ro (.cond (.tmp t) x y) Q (bu N E ds) H=sj P ro x y Q (bu N E ds) H (E t):=by simp only[gL,sj,vA N E ds t b]
def Hz{id:Nat}{l:List Oper}:gL P ro (.region id ⟨l⟩ ci) Q a H=wpOps P ro ⟨l⟩ l a H Q:=Eq.trans rfl rfl
def w7{y:Code}:DL P ro y Q .normal a H=gL P ro y Q a H:=Eq.trans rfl rfl
def HE{y:Code}:DL P ro y Q .ret a H=Q .ret a H:=Eq.trans rfl rfl
def vF{y:Code}{id:Nat}:DL P ro y Q (.exit id) a H=Q (.exit id) a H:=Eq.trans rfl rfl
def iz{y:Code}{b:List PanicEntry}:DL P ro y Q (.panic b) a H=Q (.panic b) a H:=Eq.trans rfl rfl
def rW{id:Nat}:nm id Q .normal a H=Q .normal a H:=Eq.trans rfl rfl
def zh{id:Nat}:nm id Q .ret a H=Q .ret a H:=Eq.trans rfl rfl
def o5{id:Nat}{b:List PanicEntry}:nm id Q (.panic b) a H=Q (.panic b) a H:=Eq.trans rfl rfl
def pY{id:Nat}:nm id Q (.exit id) a H=Q .normal a H:=by simp[nm,E7]
def DU{id k:Nat}(h:k≠id):nm id Q (.exit k) a H=Q (.exit k) a H:=by simp[nm,E7,h]
def sq{x y:Code}:sj P ro x y Q a H (ls bv)=gL P ro x Q a H:=Eq.trans rfl rfl
def qv{x y:Code}:sj P ro x y Q a H (ls ci)=gL P ro y Q a H:=Eq.trans rfl rfl
def wY{fn:Func}{R:Out->aa->Prop}:Nc P fn R .normal (bu N E ds) H=ft P fn (bu N E ds) ds .returning H R:=Eq.trans rfl rfl
def GH{fn:Func}{R:Out->aa->Prop}:Nc P fn R .ret (bu N E ds) H=ft P fn (bu N E ds) ds .returning H R:=Eq.trans rfl rfl
def FZ(P:ip)(ro:Option Nat)(ops:Array Oper)(rest:List Oper)(a:ah)(dst:Option Tmp)(Q:Exit->ah->aa->Prop):Out->aa->Prop
 |.ok v,H1=>wpOps P ro ops rest (a.put dst v) H1 Q
 |.error b,H1=>Q (.panic b) a H1
def yt:Op->Bool
 |.defer _=>bv
 |_=>ci
def F3{a:ah}{b:Op}(h:yt b=ci):p8 P a b=none:=by cases b<;>first|rfl|cases h
def yf{ops:Array Oper}{o:Oper}{rest:List Oper}(b:o.guard=bi)(c:yt o.op=ci):wpOps P ro ops (o::rest) a H Q=Bv P o.op a H (FZ P ro ops rest a o.dst Q):=by
 have e : (fun out H1 => match out with
    |.ok v=>wpOps P ro ops rest (a.put o.dst v) H1 Q
    |.error g=>Q (.panic g) a H1)=FZ P ro ops rest a o.dst Q:=by
  funext out H1;cases out<;>rfl
 simp only[wpOps,cN,b,F3 c,<-e]<;>(cases ro<;>rfl)
def TT{ops:Array Oper}:wpOps P ro ops [] a H Q=Q .normal a H:=Eq.trans rfl rfl
def jY(P:ip)(ro:Option Nat)(ops:Array Oper)(o:Oper)(rest:List Oper)(N:Nat)(E:Env)(ds:List Deferred)(H:aa)(Q:Exit->ah->aa->Prop)(want:Bool):go->Prop
 |.bool b=>if b=want then wpOps P ro ops (o::rest) (bu N E ds) H Q else wpOps P ro ops rest ((bu N E ds).put o.dst undef) H Q
 |_=>wpOps P ro ops rest ((bu N E ds).put o.dst undef) H Q
def mN(ops:Array Oper)(j:Nat):Option Nat:=(ops[j]?).bind (·.dst)
def Tl{ops:Array Oper}{dst:Option Tmp}{g:Op}{ty:io}{pos:String}{after:Array Edge}{j d:Nat}{want:Bool}{rest:List Oper}(c:mN ops j=a9 d)(m:d<N) :
  wpOps P ro ops (⟨dst,g,ty,pos,after,a9 (j,want)⟩::rest) (bu N E ds) H Q=jY P ro ops ⟨dst,g,ty,pos,after,bi⟩ rest N E ds H Q want (E d):=by
 unfold mN at c
 cases k:ops[j]? with
 |none=>rw[k]at c; cases c
 |some o =>
  rw[k]at c;simp only[zA3]at c
  have e:cN ops (bu N E ds) ⟨dst,g,ty,pos,after,a9 (j,want)⟩=(match E d with
    |.bool b=>a9 (b == want)
    |_=>a9 ci):=by
   simp only[cN,k,c,A9 N E ds d m];cases E d<;>rfl
  have n:cN ops (bu N E ds) ⟨dst,g,ty,pos,after,bi⟩=a9 true:=Eq.trans rfl rfl
  cases l:E d with
  |bool b =>
   rw[l]at e;simp only[jY];by_cases h:b=want
   .rw[if_pos h];have:(b == want)=true:=by simpa using h
    simp only[wpOps,e,this,n]
   .rw[if_neg h];have:(b == want)=false:=by simpa using h
    simp only[wpOps,e,this]
  |_=>rw[l]at e; simp only[wpOps,e,jY]
def nL(P:ip)(ro:Option Nat)(ops:Array Oper)(rest:List Oper)(N:Nat)(E:Env)(ds:List Deferred)(d:Nat)(H:aa)(Q:Exit->ah->aa->Prop):Option go->Prop
 |some v=>wpOps P ro ops rest (bu N (cH E d v) ds) H Q
 |none=>False
def jX{ops:Array Oper}{rest:List Oper}{d:Nat}{v:go}:nL P ro ops rest N E ds d H Q (a9 v)=wpOps P ro ops rest (bu N (cH E d v) ds) H Q:=Eq.trans rfl rfl
def qa(P:ip)(ro:Option Nat)(ops:Array Oper)(rest:List Oper)(N:Nat)(E:Env)(ds:List Deferred)(dst:Option Nat)(Q:Exit->ah->aa->Prop):Option (go × aa)->Prop
 |some (v,H1)=>wpOps P ro ops rest ((bu N E ds).put dst v) H1 Q
 |none=>False
def zM{ops:Array Oper}{rest:List Oper}{d:Nat}{v:go}{H1:aa}(b:d<N):qa P ro ops rest N E ds (a9 d) Q (a9 (v,H1))=wpOps P ro ops rest (bu N (cH E d v) ds) H1 Q:=by simp only[qa,dK N E ds d v b]
section
variable{ops:Array Oper}{d:Nat}{ty:io}{pos:String}{after:Array Edge}{rest:List Oper}
def sC{b:Op}{x:Option go}(hx:yt b=ci)(h:cE b P (bu N E ds) H=rv H x)(c:d<N):wpOps P ro ops (⟨a9 d,b,ty,pos,after,bi⟩::rest) (bu N E ds) H Q=nL P ro ops rest N E ds d H Q x:=by
 rw[yf rfl hx];simp only[Bv,h,rv]
 cases x with
 |none=>rfl
 |some v=>simp only[zB2,mO,FZ,nL,dK N E ds d v c]
def xA{b:Op}{dst:Option Nat}{x:Option (go × aa)}(hx:yt b=ci)(h:cE b P (bu N E ds) H=uY x):wpOps P ro ops (⟨dst,b,ty,pos,after,bi⟩::rest) (bu N E ds) H Q=qa P ro ops rest N E ds dst Q x:=by
 rw[yf rfl hx];simp only[Bv,h,uY]
 cases x with
 |none=>rfl
 |some v=>obtain⟨v,H1⟩:=v; rfl
def cy(E:Env):i7->go
 |.tmp t=>E t
 |.const v=>v
 |.func f=>.func (.func f) #[] #[]
 |.global g=>li (a9 ⟨g,0,bi⟩)
def bj(P:ip)(N:Nat):i7->Bool
 |.tmp t=>Nat.blt t N
 |.const v=>af v
 |.func _=>bv
 |.global g=>Nat.blt g P.globals.size
def aH{x:i7}(h:bj P N x=bv):aO P (bu N E ds) x=a9 (cy E x):=by
 cases x with
 |tmp t=>exact vA N E ds t (bT h)
 |const v=>simp only[bj]at h; simp only[aO,h,if_true,cy]
 |func f=>rfl
 |global g=>simp only[bj]at h; simp only[aO,h,if_true,cy]
def cD:∀ {xs:List i7},xs.all (bj P N)=bv->fJ P (bu N E ds) xs=a9 (xs.map (cy E))
 |[],_=>rfl
 |x::xs,h=>by simp only[List.all_cons,zA6]at h;simp only[fJ,aH h.1,cD h.2,zA1,zA3,zB8]
def Pq{t:Nat}(h:t<N):bj P N (.tmp t)=true:=bd h
def ok_int{k:IntKind}{n:Int}:bj P N (.const (.int k n))=true:=by simp only[bj,af]
def Km{b:Bool}:bj P N (.const (ls b))=true:=by simp only[bj,af]
def nP{s:ByteArray}:bj P N (.const (.string s))=true:=by simp only[bj,af]
def BM:bj P N (.const (li bi))=true:=by simp only[bj,af]
def wM{n m:Nat}:bj P N (.const (lm bi n m))=true:=by simp only[bj,af]
def CO:bj P N (.const (.map bi))=true:=by simp only[bj,af]
def K7{f:FuncId}:bj P N (.func f)=true:=by simp only[bj]
def all_nil:([]:List i7).all (bj P N)=true:=by simp only[List.all_nil]
def all_cons{x:i7}{r:List i7}:(x::r).all (bj P N)=(bj P N x&&r.all (bj P N)):=by simp only[List.all_cons]
def On{b:Bool}:(bv&&b)=b:=by simp only[Bool.true_and]
def KE{t:Nat}:cy E (.tmp t)=E t:=by simp only[cy]
def BF{v:go}:cy E (.const v)=v:=by simp only[cy]
def Am{g:Nat}:cy E (.global g)=li (a9 ⟨g,0,bi⟩):=by simp only[cy]
def Gx{f:FuncId}:cy E (.func f)=.func (.func f) #[] #[]:=by simp only[cy]
def PG{x:i7}(hx:bj P N x=bv)(b:d<N):wpOps P ro ops (⟨a9 d,.move x,ty,pos,after,bi⟩::rest) (bu N E ds) H Q=wpOps P ro ops rest (bu N (cH E d (cy E x)) ds) H Q :=
 (sC (x:=a9 (cy E x)) rfl (by simp only[cE,rI,aH hx]) b).trans jX
def Ge{x:i7}(hx:bj P N x=bv)(b:d<N):wpOps P ro ops (⟨a9 d,.assign x,ty,pos,after,bi⟩::rest) (bu N E ds) H Q=wpOps P ro ops rest (bu N (cH E d (cy E x)) ds) H Q :=
 (sC (x:=a9 (cy E x)) rfl (by simp only[cE,rI,aH hx]) b).trans jX
def xj{x:i7}{t:io}{f:Nat}(hx:bj P N x=bv)(b:d<N):wpOps P ro ops (⟨a9 d,.fieldAddr t x f,ty,pos,after,bi⟩::rest) (bu N E ds) H Q=nL P ro ops rest N E ds d H Q (aJ P t (cy E x) f) :=
 sC rfl (by simp only[cE,j5,aH hx,zA1,zA3]) b
def xL{x i:i7}{t:io}(hx:bj P N x=bv)(hi:bj P N i=bv)(b:d<N):wpOps P ro ops (⟨a9 d,.indexAddr t x i,ty,pos,after,bi⟩::rest) (bu N E ds) H Q=nL P ro ops rest N E ds d H Q (aW P t (cy E x) (cy E i)) :=
 sC rfl (by simp only[cE,j9,aH hx,aH hi,zA1,zA3]) b
def QD{x:i7}{t:io}(hx:bj P N x=bv)(b:d<N):wpOps P ro ops (⟨a9 d,.load t x,ty,pos,after,bi⟩::rest) (bu N E ds) H Q=nL P ro ops rest N E ds d H Q (ib P H t (cy E x)) :=
 sC rfl (by simp only[cE,HS,aH hx,zA1,zA3]) b
def Wk(i:Nat):go->Option go
 |.tuple l=>l.toList[i]?
 |_=>bi
def Cu{i:Nat}{l:List go}:Wk i (.tuple ⟨l⟩)=l[i]?:=by simp only[Wk]
def Db{x:i7}{i:Nat}(hx:bj P N x=bv)(b:d<N):wpOps P ro ops (⟨a9 d,.extract x i,ty,pos,after,bi⟩::rest) (bu N E ds) H Q=nL P ro ops rest N E ds d H Q (Wk i (cy E x)) :=
 sC rfl (by
  simp only[cE,nO,aH hx,zA1,zA3,mf]
  cases cy E x<;>rfl) b
def BS(x y:go):go->Option go
 |.bool bv=>a9 x
 |.bool ci=>a9 y
 |_=>bi
def Be{x y:go}:BS x y (ls bv)=a9 x:=by simp only[BS]
def xy{x y:go}:BS x y (ls ci)=a9 y:=by simp only[BS]
def Qk{c x y:i7}(e:bj P N c=bv)(hx:bj P N x=bv)(g:bj P N y=bv)(h:d<N):wpOps P ro ops (⟨a9 d,.pick c x y,ty,pos,after,bi⟩::rest) (bu N E ds) H Q=nL P ro ops rest N E ds d H Q (BS (cy E x) (cy E y) (cy E c)) :=
 sC rfl (by
  simp only[cE,BI,aH e,aH hx,aH g,zA1,zA3]
  cases cy E c with
  |bool b=>cases b<;>rfl
  |_=>rfl) h
def Gd(P:ip)(v:go):Option go :=
 match By P (aa.none 0) v with
 |some (.value y,_)=>a9 y
 |_=>bi
def Hg{p:Addr}:Gd P (li (a9 p))=a9 (li (a9 p)):=by simp only[Gd,By]
def zu{x:i7}(hx:bj P N x=bv)(b:d<N)(h:(Gd P (cy E x)).isSome=bv):wpOps P ro ops (⟨a9 d,.nilCheck x,ty,pos,after,bi⟩::rest) (bu N E ds) H Q=nL P ro ops rest N E ds d H Q (Gd P (cy E x)) :=
 sC rfl (by
  simp only[cE,MN,aH hx,zA1,zA3];simp only[Gd]at h ⊢;unfold By at h ⊢
  split<;>simp_all [rv]) b
def MF:go->Option go
 |.bool b=>a9 (.bool !b)
 |_=>bi
def CE{b:Bool}:MF (ls b)=a9 (.bool !b):=by simp only[MF]
def TN{x:i7}{t:io}(hx:bj P N x=bv)(c:d<N)(h:(MF (cy E x)).isSome=bv):wpOps P ro ops (⟨a9 d,.unOp .not t x,ty,pos,after,bi⟩::rest) (bu N E ds) H Q=nL P ro ops rest N E ds d H Q (MF (cy E x)) :=
 sC rfl (by
  simp only[cE,U8,aH hx,zA1,zA3]
  cases e:cy E x with
  |bool b=>rfl
  |_=>rw[e]at h; cases h) c
def TK{b:BinOp}{t u:io}{x y:i7}(hx:bj P N x=bv)(e:bj P N y=bv)(g:d<N)(h:(fV P H b t (cy E x) (cy E y)).isSome=bv):wpOps P ro ops (⟨a9 d,.binOp b t x y u,ty,pos,after,bi⟩::rest) (bu N E ds) H Q=nL P ro ops rest N E ds d H Q (fV P H b t (cy E x) (cy E y)):=by
 cases c:fV P H b t (cy E x) (cy E y) with
 |none=>rw[c]at h; cases h
 |some v=>exact sC (x:=a9 v) rfl (by simp only[cE,Hp,aH hx,aH e,zA1,zA3,Ea,c]; rfl) g
def isSome_some{α:Type}{v:α}:(a9 v).isSome=true:=by simp only[Option.isSome_some]
def Ki{t:io}{k:IntKind}{x y:Int}:fV P H .add t (.int k x) (.int k y)=a9 (.int k (k.wrap (x+y))):=by simp[fV,eO]
def Mb{t:io}{k:IntKind}{x y:Int}:fV P H .sub t (.int k x) (.int k y)=a9 (.int k (k.wrap (x-y))):=by simp[fV,eO]
def Lg{t:io}{k:IntKind}{x y:Int}:fV P H .mul t (.int k x) (.int k y)=a9 (.int k (k.wrap (x*y))):=by simp[fV,eO]
def LA{t:io}{k:IntKind}{x y:Int}:fV P H .eql t (.int k x) (.int k y)=a9 (ls (f7 (x=y))):=by simp[fV,eO]; rfl
def Ko{t:io}{k:IntKind}{x y:Int}:fV P H .neq t (.int k x) (.int k y)=a9 (ls (f7 (x≠y))):=by
 have:(x != y)=f7 (x≠y):=by by_cases h:x=y<;>simp[h]
 simp[fV,eO,this]
def KM{t:io}{k:IntKind}{x y:Int}:fV P H .lss t (.int k x) (.int k y)=a9 (ls (f7 (x<y))):=by simp[fV,eO]
def J0{t:io}{k:IntKind}{x y:Int}:fV P H .leq t (.int k x) (.int k y)=a9 (ls (f7 (x<=y))):=by simp[fV,eO]
def LW{t:io}{k:IntKind}{x y:Int}:fV P H .gtr t (.int k x) (.int k y)=a9 (ls (f7 (y<x))):=by simp[fV,eO]
def Lx{t:io}{k:IntKind}{x y:Int}:fV P H .geq t (.int k x) (.int k y)=a9 (ls (f7 (y<=x))):=by simp[fV,eO]
def JU{t:io}{l:List (Nat × i7)}(b:d<N):wpOps P ro ops (⟨a9 d,.build t ⟨l⟩,ty,pos,after,bi⟩::rest) (bu N E ds) H Q=nL P ro ops rest N E ds d H Q ((iS P (bu N E ds) l).bind (cY P t)) :=
 sC rfl (by
  simp only[cE,vj,zA1]
  cases iS P (bu N E ds) l<;>rfl) b
def JI(P:ip)(t:io)(v:go):Option go :=
 match P.underlying t with
 |some (.interface _)=>bi
 |some _=>a9 (.iface t v)
 |none=>bi
def KF{t:io}{x:i7}(hx:bj P N x=bv)(b:d<N):wpOps P ro ops (⟨a9 d,.makeInterface t x,ty,pos,after,bi⟩::rest) (bu N E ds) H Q=nL P ro ops rest N E ds d H Q (JI P t (cy E x)) :=
 sC rfl (by
  simp only[cE,A1,aH hx,zA1,zA3,vu,JI]
  cases P.underlying t with
  |none=>rfl
  |some c=>cases c<;>rfl) b
def we(H:aa)(t:io):Option go->Option (go × aa)
 |some z=>(cJ H t z.cells.toList ci).map fun g=>(li (a9 ⟨H.next,0,bi⟩),g)
 |none=>bi
def xO{t:io}{z:go}(b:aT H.next z.cells.toList=bv):we H t (a9 z)=a9 (li (a9 ⟨H.next,0,bi⟩),nw H t z.cells.toList ci):=by simp only[we,EL b,zB2]
def Kr{t:io}{dst:Option Nat}:wpOps P ro ops (⟨dst,.alloc t,ty,pos,after,bi⟩::rest) (bu N E ds) H Q=qa P ro ops rest N E ds dst Q (we H t (zeroOf P t)) :=
 xA rfl (by
  simp only[cE,zo,zA1]
  cases zeroOf P t with
  |none=>rfl
  |some z =>
   simp only[zA3,AE,we,uY,zA1]
   cases cJ H t z.cells.toList ci<;>rfl)
def vZ(P:ip)(ro:Option Nat)(ops:Array Oper)(rest:List Oper)(a:ah)(Q:Exit->ah->aa->Prop):Option aa->Prop
 |some H1=>wpOps P ro ops rest a H1 Q
 |none=>False
def xY{H1:aa}:vZ P ro ops rest a Q (a9 H1)=wpOps P ro ops rest a H1 Q:=by simp only[vZ]
def LD{x y:i7}{t:io}(hx:bj P N x=bv)(b:bj P N y=bv):wpOps P ro ops (⟨bi,.store t x y,ty,pos,after,bi⟩::rest) (bu N E ds) H Q=vZ P ro ops rest (bu N E ds) Q (fw P H t (cy E x) (cy E y)):=by
 rw[yf rfl rfl];simp only[Bv,cE,wz,aH hx,aH b,Ob,zA1,zA3]
 cases fw P H t (cy E x) (cy E y) with
 |none=>rfl
 |some H1=>simp only[zB2,mO,FZ,AJ,vZ]
def TZ(P:ip)(N:Nat):List (Nat × i7)->Bool
 |[]=>bv
 |(_,x)::r=>bj P N x&&TZ P N r
def pmap(E:Env):List (Nat × i7)->List (Nat × go)
 |[]=>[]
 |(i,x)::r=>(i,cy E x)::pmap E r
def Lh:TZ P N []=true:=by simp only[TZ]
def Gr{i:Nat}{x:i7}{r:List (Nat × i7)}:TZ P N ((i,x)::r)=(bj P N x&&TZ P N r):=by simp only[TZ]
def pmap_nil:pmap E []=[]:=by simp only[pmap]
def pmap_cons{i:Nat}{x:i7}{r:List (Nat × i7)}:pmap E ((i,x)::r)=(i,cy E x)::pmap E r:=by simp only[pmap]
def zC:∀ {l:List (Nat × i7)},TZ P N l=bv->iS P (bu N E ds) l=a9 (pmap E l)
 |[],_=>rfl
 |(i,x)::r,h=>by simp only[TZ,zA6]at h;simp only[iS,aH h.1,zC h.2,zA1,zA3,pmap]
def Of{f:FuncId}{args:List i7}{ts:Array io}{dst:Option Nat}(b:args.all (bj P N)=bv)(c:aD P f=bv) :
  wpOps P ro ops (⟨dst,.call ⟨.value (.func f),⟨args⟩,ts⟩,ty,pos,after,bi⟩::rest) (bu N E ds) H Q=bF P f (args.map (cy E)) H (FZ P ro ops rest (bu N E ds) dst Q):=by
 rw[yf rfl rfl];simp only[Bv,cE,kH,cD b,aO,zA1,zA3,pA,fe,jh,c,if_true,zB6,zC7,zB2,mO]
def Rq{v:go}(b:d<N):FZ P ro ops rest (bu N E ds) (a9 d) Q (.ok v) H=wpOps P ro ops rest (bu N (cH E d v) ds) H Q:=by simp only[FZ,dK N E ds d v b]
def CQ{b:Builtin}{args:List i7}{ts:Array io}{dst:Option Nat}(c:args.all (bj P N)=bv) :
  wpOps P ro ops (⟨dst,.call ⟨.builtin b,⟨args⟩,ts⟩,ty,pos,after,bi⟩::rest) (bu N E ds) H Q=qa P ro ops rest N E ds dst Q (aE P H b ts (args.map (cy E))) :=
 xA rfl (by simp only[cE,kH,cD c,zA1,zA3])
def TD{x:i7}{t:io}(hx:bj P N x=bv)(b:d<N)(c:aT H.next (cy E x).cells.toList=bv):wpOps P ro ops (⟨a9 d,.box t x,ty,pos,after,bi⟩::rest) (bu N E ds) H Q =
  wpOps P ro ops rest (bu N (cH E d (li (a9 ⟨H.next,0,bi⟩))) ds) (nw H t (cy E x).cells.toList ci) Q:=by
 rw[yf rfl rfl];simp only[Bv,cE,vN,aH hx,zA1,zA3,AE,EL c,mO,FZ,dK N E ds d _ b]
end
end
section
variable{P:ip}{ro:Option Nat}{H:aa}{N:Nat}{E:Env}{ds:List Deferred}
def EZ(P:ip)(o:Oper)(a:ah)(H:aa)(anc i:Nat)(fps:List Fp)(K:List Fp->go->aa->Prop):Prop :=
 ∃ F v g,HX P a (H.restrict F) o (.ok v) g/\(∀ n∈F,H.get n≠bi)/\(∀ n∈g.dirty,n∈F)/\(∀ r∈fps,vd anc F v g H.next r=bv)/\K (⟨i,F,g.dirty,H.next,g.next⟩::fps) v (H.merge g)
def P7(P:ip)(t:io)(H:aa)(anc i:Nat)(fps:List Fp)(K:List Fp->go->aa->Prop):Option go->Prop
 |some (li (a9 ⟨n,off,bi⟩))=>(match ib P H t (li (a9 ⟨n,off,bi⟩)) with
  |some v=>(∀ r∈fps,cL anc [n] [] (ae v) r)/\K (⟨i,[n],[],H.next,H.next⟩::fps) v H
  |none=>False)
 |_=>False
def Px(K:List Fp->go->aa->Prop)(H:aa)(anc:Nat)(fps:List Fp):er->Prop
 |some (.value v,_)=>ju anc fps (ae v)/\K fps v H
 |_=>False
def ef(P:ip)(b:BinOp)(t:io):go->go->Option go
 |.int k p,.int c q=>if k=c then eO b k p q else bi
 |.bool p,ls q=>(match P.underlying t with
  |some .bool=>yd b (p == q)
  |_=>bi)
 |_,_=>bi
def FM{b:BinOp}{t:io}{p q v:go}(h:ef P b t p q=a9 v)(G:aa):fV P G b t p q=a9 v:=by
 unfold ef at h;split at h
 .simp only[fV]; exact h
 .simp only[fV]; exact h
 .cases h
def Sh(P:ip)(b:BinOp)(t:io)(K:List Fp->go->aa->Prop)(H:aa)(anc:Nat)(fps:List Fp)(D:Prop):Option go->Option go->Prop
 |some p,a9 q=>(match ef P b t p q with
  |some v=>ju anc fps (ae v)/\K fps v H
  |none=>D)
 |_,_=>D
def IU(P:ip)(t:io)(H:aa)(anc i:Nat)(fps:List Fp)(K:List Fp->go->aa->Prop):Option go->Option go->Prop
 |some (li (a9 ⟨n,off,bi⟩)),a9 v=>(match fw P H t (li (a9 ⟨n,off,bi⟩)) v with
  |some H1=>n<H.next/\(∀ r∈fps,cL anc [n] [n] (fM H1 n) r)/\K (⟨i,[n],[n],H.next,H.next⟩::fps) undef H1
  |none=>False)
 |_,_=>False
def sf:Op->Bool
 |.alloc _=>bv
 |.box _ _=>bv
 |.buildSlice _ _ _=>bv
 |.makeSlice _ _ _=>bv
 |_=>ci
def Sk{g:Op}(k:sf g=bv)(a:ah):∃ f:Nat->Option (go × dO),∀ G:aa,cE g P a G=(f G.next).map fun x=>(.value x.1,G.new x.2):=by
 have b:∀(t:io)(v:go),∃ f:Nat->Option (go × dO),∀ G:aa,AE t v G=(f G.next).map fun x=>(.value x.1,G.new x.2):=by intro t v;refine⟨fun n=>if aT n v.cells.toList then a9 (li (a9 ⟨n,0,bi⟩),⟨.cells #[] t,ci,RV.ofList v.cells.toList⟩) else bi,fun G=>?_⟩;simp only[AE,cJ,zA1];split<;>rfl
 cases g with
 |alloc t =>
  simp only[cE,zo]
  cases zeroOf P t with
  |none=>exact⟨fun _=>bi,fun G=>rfl⟩
  |some z=>exact b t z
 |box t x =>
  simp only[cE,vN]
  cases aO P a x with
  |none=>exact⟨fun _=>bi,fun G=>rfl⟩
  |some z=>exact b t z
 |buildSlice t n ps =>
  simp only[cE,jz]
  cases iS P a ps.toList with
  |none=>exact⟨fun _=>bi,fun G=>rfl⟩
  |some l =>
   simp only[zA1,zA3,bN]
   cases o:P.underlying t with
   |none=>exact⟨fun _=>bi,fun G=>rfl⟩
   |some h =>
    cases h with
    |slice e =>
     simp only[zA3]
     cases j:br P e with
     |none=>exact⟨fun _=>bi,fun G=>rfl⟩
     |some sz =>
      cases p:zeroOf P e with
      |none=>exact⟨fun _=>bi,fun G=>rfl⟩
      |some z =>
       simp only[zA3];split
       .cases r:Instr.fill (fun i=>a9 (i*sz,sz)) (bf z.cells.toList n).toArray l with
        |none=>exact⟨fun _=>bi,fun G=>rfl⟩
        |some cells =>refine⟨fun m=>if aT m cells.toList then a9 (lm (a9 ⟨m,0,a9 0⟩) n n,⟨.cells #[] e,ci,RV.ofList cells.toList⟩) else bi,fun G=>?_⟩;simp only[zA3,cJ,uY];split<;>rfl
       .exact⟨fun _=>bi,fun G=>rfl⟩
    |_=>exact⟨fun _=>bi,fun G=>rfl⟩
 |makeSlice t l c =>
  simp only[cE,me]
  cases aO P a l with
  |none=>exact⟨fun _=>bi,fun G=>rfl⟩
  |some l =>
   cases aO P a c with
   |none=>exact⟨fun _=>bi,fun G=>rfl⟩
   |some c =>
    simp only[zA1,zA3];unfold fS;split
    .rename_i l c
     cases o:P.underlying t with
     |none=>exact⟨fun _=>bi,fun G=>rfl⟩
     |some h =>
      cases h with
      |slice e =>
       simp only[zA1,zA3]
       cases q:bytesOf P e with
       |none=>exact⟨fun _=>bi,fun G=>rfl⟩
       |some by1 =>
        cases j:br P e with
        |none=>exact⟨fun _=>bi,fun G=>rfl⟩
        |some sz =>
         cases p:zeroOf P e with
         |none=>exact⟨fun _=>bi,fun G=>rfl⟩
         |some z =>
          simp only[zA3];split
          .refine⟨fun m=>if aT m (bf z.cells.toList c.toNat) then a9 (lm (a9 ⟨m,0,a9 0⟩) l.toNat c.toNat,⟨.cells #[] e,ci,RV.ofList (bf z.cells.toList c.toNat)⟩) else bi,fun G=>?_⟩;simp only[cJ,uY];split<;>rfl
          .exact⟨fun _=>bi,fun G=>rfl⟩
      |_=>exact⟨fun _=>bi,fun G=>rfl⟩
    .exact⟨fun _=>bi,fun G=>rfl⟩
 |_=>cases k
def Uu(H:aa)(anc i:Nat)(fps:List Fp)(K:List Fp->go->aa->Prop):er->Prop
 |some (.value v,H1)=>(∀ r∈fps,cL anc [] [] (ae v++fM H1 H.next) r)/\K (⟨i,[],[],H.next,H.next+1⟩::fps) v H1
 |_=>False
def mj(P:ip)(b:Builtin)(ts:Array io)(vs:List go):Option go :=
 match b with
 |.len=>(match ts.toList,vs with
  |t::_,[x]=>(match P.underlying t,x with
   |some (.slice _),.slice _ n _=>a9 (goInt n)
   |some .string,.string s=>a9 (goInt s.size)
   |_,_=>bi)
  |_,_=>bi)
 |.max=>gI bv vs
 |.min=>gI ci vs
 |_=>bi
def A2{b:Builtin}{ts:Array io}{vs:List go}{v:go}(h:mj P b ts vs=a9 v)(G:aa):aE P G b ts vs=a9 (v,G):=by
 unfold mj at h;split at h
 .split at h
  .rename_i t _ x c;split at h
   .rename_i e;simp only[aE,c,Hs,e];simp only[i8]at h;rw[h]; rfl
   .rename_i e;simp only[aE,c,Hs,e];simp only[i8]at h;rw[h]; rfl
   .cases h
  .cases h
 .simp only[aE,h,zB2]
 .simp only[aE,h,zB2]
 .cases h
def Vd(P:ip)(b:Builtin)(ts:Array io)(K:List Fp->go->aa->Prop)(H:aa)(anc:Nat)(fps:List Fp)(D:Prop):Option (List go)->Prop
 |some vs=>(match mj P b ts vs with
  |some v=>ju anc fps (ae v)/\K fps v H
  |none=>D)
 |none=>D
def qu(P:ip)(o:Oper)(a:ah)(H:aa)(anc i:Nat)(fps:List Fp)(K:List Fp->go->aa->Prop):Prop :=
 match sf o.op with
 |true=>Uu H anc i fps K (cE o.op P a H)
 |false=>(match o.op with
  |.call ⟨.builtin b,args,ts⟩=>Vd P b ts K H anc fps (EZ P o a H anc i fps K) (fJ P a args.toList)
  |_=>EZ P o a H anc i fps K)
def jQ(P:ip)(o:Oper)(a:ah)(H:aa)(anc i:Nat)(fps:List Fp)(K:List Fp->go->aa->Prop):Prop :=
 match jk o.op with
 |true=>Px K H anc fps (cE o.op P a H)
 |false=>(match o.op with
  |.load t x=>P7 P t H anc i fps K (aO P a x)
  |.store t x y=>IU P t H anc i fps K (aO P a x) (aO P a y)
  |.binOp b t x y _=>Sh P b t K H anc fps (EZ P o a H anc i fps K) (aO P a x) (aO P a y)
  |_=>qu P o a H anc i fps K)
def fO(P:ip)(ops:Array Oper)(anc:List Nat):List Oper->Nat->List Fp->ah->aa->(ah->aa->Prop)->Prop
 |[],_,_,a,H,Q=>Q a H
 |o::rest,i,fps,a,H,Q =>
  match cN ops a o with
  |some bv=>jQ P o a H (anc.getD i 0) i fps fun b v H1=>fO P ops anc rest (i+1) b (a.put o.dst v) H1 Q
  |some ci=>fO P ops anc rest (i+1) fps (a.put o.dst undef) H Q
  |none=>False
def EV{ops:Array Oper}{anc:List Nat}{o:Oper}{rest:List Oper}{i:Nat}{fps:List Fp}{a:ah}{Q:ah->aa->Prop}{t:io}{x y:i7}{v:go}{n off:Nat}{H1:aa}(J:o.op=.store t x y)(M:cN ops a o=a9 bv)
  (hx:aO P a x=a9 (li (a9 ⟨n,off,bi⟩))) (O:aO P a y=a9 v) (b:fw P H t (li (a9 ⟨n,off,bi⟩)) v=a9 H1) (B:n<H.next) (R:∀ r∈fps,cL (anc.getD i 0) [n] [n] (fM H1 n) r)
  (h:cI P ops anc rest (i+1) (⟨i,[n],[n],H.next,H.next⟩::fps) (a.put o.dst undef) H1 Q):cI P ops anc (o::rest) i fps a H Q:=by
 have s:=aK H [n];have C:(H.restrict [n]).get n=H.get n:=by rw[aU]; simp
 simp only[fw,zA1]at b
 cases j:br P t with
 |none=>rw[j]at b; cases b
 |some sz =>
  rw[j]at b;simp only[zA3]at b;split at b
  .rename_i S;subst S;simp only[dT,zA1]at b
   cases A:bO H n with
   |none=>rw[A]at b; cases b
   |some z =>
    obtain⟨rv,e,c⟩:=z;rw[A]at b;simp only[zA3]at b;split at b
    .rename_i k;simp only[i8]at b;subst b;have D:bO (H.restrict [n]) n=a9 (rv,e,c):=by rw[<-A]; simp only[bO,C]
     have F:fw P (H.restrict [n]) t (li (a9 ⟨n,off,bi⟩)) v=a9 ((H.restrict [n]).cH n (a9 ⟨.cells #[] e,c,rv.fZ off v.cells.toList⟩)):=by simp only[fw,j,zA1,zA3,if_true,dT,D,s.1,k]
     have p:((H.restrict [n]).cH n (a9 ⟨.cells #[] e,c,rv.fZ off v.cells.toList⟩)).dirty=[n]:=by simp only[aa.eT,s.2.1,s.2.2,bd B,if_true]
     have l:((H.restrict [n]).cH n (a9 ⟨.cells #[] e,c,rv.fZ off v.cells.toList⟩)).next=H.next:=s.1;have G:((H.restrict [n]).cH n (a9 ⟨.cells #[] e,c,rv.fZ off v.cells.toList⟩)).get n=a9 ⟨.cells #[] e,c,rv.fZ off v.cells.toList⟩:=by rw[aa.fC,if_pos rfl]
     have I:H.merge ((H.restrict [n]).cH n (a9 ⟨.cells #[] e,c,rv.fZ off v.cells.toList⟩))=H.cH n (a9 ⟨.cells #[] e,c,rv.fZ off v.cells.toList⟩):=by unfold aa.merge;rw[p,l,zG8];simp only[aa.eR,aa.cV,G];rfl
     simp only[cI,M];refine⟨[n],undef,_,gD (x:=.skip) (g:=(H.restrict [n]).cH n (a9 ⟨.cells #[] e,c,rv.fZ off v.cells.toList⟩)) ?_ ⟨rfl,rfl⟩,?_,by rw[p]; simp,fun r T=>jG ?_,?_⟩
     .rw[J];simp only[cE,wz,hx,O,F,Ob,zA1,zA3,zB2]
     .intro m q;simp only[zA5]at q;subst q;intro U;simp[bO,U]at A
     .have hi:fM ((H.restrict [n]).cH n (a9 ⟨.cells #[] e,c,rv.fZ off v.cells.toList⟩)) n=fM (H.cH n (a9 ⟨.cells #[] e,c,rv.fZ off v.cells.toList⟩)) n:=by
       simp only[fM,aa.fC,if_true]
      have:gZ undef ((H.restrict [n]).cH n (a9 ⟨.cells #[] e,c,rv.fZ off v.cells.toList⟩)) H.next=fM (H.cH n (a9 ⟨.cells #[] e,c,rv.fZ off v.cells.toList⟩)) n:=by simp only[gZ,l,p,zG8,dH,zC7,List.flatMap_cons,List.flatMap_nil,undef,ae,tB,ir,zB6];exact hi
      rw[p,this];exact R r T
     .rw[I,p,l]; exact h
    .cases b
  .cases b
def Io{ops:Array Oper}{anc:List Nat}{o:Oper}{rest:List Oper}{i:Nat}{fps:List Fp}{a:ah}{Q:ah->aa->Prop}{v:go}{H1:aa}(p:sf o.op=bv)(q:cN ops a o=a9 bv)
  (hx:cE o.op P a H=a9 (.value v,H1)) (s:∀ r∈fps,cL (anc.getD i 0) [] [] (ae v++fM H1 H.next) r)
  (h:cI P ops anc rest (i+1) (⟨i,[],[],H.next,H.next+1⟩::fps) (a.put o.dst v) H1 Q):cI P ops anc (o::rest) i fps a H Q:=by
 obtain⟨f,m⟩:=Sk (P:=P) p a;have k:=aK H [];rw[m H]at hx
 cases c:f H.next with
 |none=>rw[c]at hx; cases hx
 |some z =>
  obtain⟨u,b⟩:=z;rw[c]at hx;simp only[zB2,i8,i9,de.value.injEq]at hx;obtain⟨rfl,rfl⟩:=hx;have j:((H.restrict []).new b).dirty=[]:=k.2.2;have e:((H.restrict []).new b).next=H.next+1:=by simp only[aa.oK,k.1]
  have n:((H.restrict []).new b).get H.next=a9 b:=by rw[aa.fk,if_pos k.1.symm]
  have l:H.merge ((H.restrict []).new b)=H.new b:=by unfold aa.merge;rw[j,e,zG2];simp only[aa.eR,aa.cV,n];rfl
  simp only[cI,q];refine⟨[],u,(H.restrict []).new b,gD (x:=.value u) (g:=(H.restrict []).new b) ?_ ⟨rfl,rfl⟩,by simp,by rw[j]; simp,fun r t=>jG ?_,?_⟩
  .rw[m,k.1,c]; rfl
  .have hi:fM ((H.restrict []).new b) H.next=fM (H.new b) H.next:=by
    simp only[fM,n,aa.fk,if_true]
   have:gZ u ((H.restrict []).new b) H.next=ae u++fM (H.new b) H.next:=by simp only[gZ,e,j,zG2,dH,zB6,List.flatMap_cons,List.flatMap_nil,zC7,hi]
   rw[j,this];exact s r t
  .rw[l,j,e]; exact h
def ik{ops:Array Oper}{anc:List Nat}{Q:ah->aa->Prop}:∀(rest:List Oper)(i:Nat)(fps:List Fp)(a:ah)(H:aa),fO P ops anc rest i fps a H Q->cI P ops anc rest i fps a H Q
 |[],_,_,_,_,h=>h
 |o::rest,i,fps,a,H,h=>by
  simp only[fO]at h;split at h
  .rename_i k;unfold jQ at h;split at h
   .rename_i l;unfold Px at h;split at h
    .rename_i v g hx;obtain⟨f,I⟩:=Fl (P:=P) l a
     have J:g=H:=by
      have:=I H;rw[hx]at this
      cases f with
      |none=>cases this
      |some y=>simp only[zB2,i8,i9]at this; exact this.2
     subst J;exact HD l k hx h.1 (ik rest _ _ _ _ h.2)
    .exact h.elim
   .split at h
    .rename_i t x c;unfold P7 at h;split at h
     .rename_i n off hx;split at h
      .rename_i v M;exact FK c k hx M h.1 (ik rest _ _ _ _ h.2)
      .exact h.elim
     .exact h.elim
    .rename_i t x y c;unfold IU at h;split at h
     .rename_i n off v hx m;split at h
      .rename_i H1 O;exact EV c k hx m O h.1 h.2.1 (ik rest _ _ _ _ h.2.2)
      .exact h.elim
     .exact h.elim
    .rename_i R t x y u c;have e:EZ P o a H (anc.getD i 0) i fps (fun j v H1=>fO P ops anc rest (i+1) j (a.put o.dst v) H1 Q)->cI P ops anc (o::rest) i fps a H Q:=by rintro⟨F,v,g,r,s,z,A,B⟩;simp only[cI,k];exact⟨F,v,g,r,s,z,A,ik rest _ _ _ _ B⟩
     unfold Sh at h;split at h
     .rename_i p q hx m;split at h
      .rename_i v C;refine sB k (fun G=>?_) h.1 (ik rest _ _ _ _ h.2);rw[c];simp only[cE,Hp,hx,m,zA1,zA3,Ea,FM C G]
      .exact e h
     .exact e h
    .have e:EZ P o a H (anc.getD i 0) i fps (fun j v H1=>fO P ops anc rest (i+1) j (a.put o.dst v) H1 Q)->cI P ops anc (o::rest) i fps a H Q:=by
      rintro⟨F,v,g,r,s,z,A,B⟩;simp only[cI,k];exact⟨F,v,g,r,s,z,A,ik rest _ _ _ _ B⟩
     unfold qu at h;split at h
     .rename_i l;unfold Uu at h;split at h
      .rename_i v H1 hx;exact Io l k hx h.1 (ik rest _ _ _ _ h.2)
      .exact h.elim
     .split at h
      .rename_i b args ts c;unfold Vd at h;split at h
       .rename_i vs D;split at h
        .rename_i v C;refine sB k (fun G=>?_) h.1 (ik rest _ _ _ _ h.2);rw[c];simp only[cE,kH,D,zA1,zA3,A2 C G,uY,zB2]
        .exact e h
       .exact e h
      .exact e h
  .rename_i k;simp only[cI,k];exact ik rest _ _ _ _ h
  .exact h.elim
section
variable{ops:Array Oper}{anc:List Nat}{d:Nat}{ty:io}{pos:String}{after:Array Edge}{rest:List Oper}{i:Nat}{fps:List Fp}{Q:ah -> aa -> Prop}
def qA(P:ip)(ops:Array Oper)(anc:List Nat)(rest:List Oper)(i:Nat)(fps:List Fp)(N:Nat)(E:Env)(ds:List Deferred)(d:Nat)(H:aa)(Q:ah->aa->Prop):Option go->Prop
 |some v=>ju (anc.getD i 0) fps (ae v)/\fO P ops anc rest (i+1) fps (bu N (cH E d v) ds) H Q
 |none=>False
def B6{v:go}:qA P ops anc rest i fps N E ds d H Q (a9 v)=(ju (anc.getD i 0) fps (ae v)/\fO P ops anc rest (i+1) fps (bu N (cH E d v) ds) H Q):=by simp only[qA]
def Um{Q:Exit->ah->aa->Prop}{id:Nat}{l:List Oper}{a:ah}(b:iF ⟨l⟩=bv)(h:fO P ⟨l⟩ (iZ ⟨l⟩) l 0 [] a H (Q .normal)):gL P ro (.region id ⟨l⟩ bv) Q a H :=
 ⟨b,.inl (ik l 0 [] a H h)⟩
def Jn{a:ah}:fO P ops anc [] i fps a H Q=Q a H:=by simp only[fO]
def uE{b:Op}{x:Option go}(c:jk b=bv)(h:cE b P (bu N E ds) H=rv H x)(e:d<N):fO P ops anc (⟨a9 d,b,ty,pos,after,bi⟩::rest) i fps (bu N E ds) H Q=qA P ops anc rest i fps N E ds d H Q x:=by
 simp only[fO,cN,jQ,c,h,rv]
 cases x with
 |none=>rfl
 |some v=>simp only[zB2,Px,dK N E ds d v e,qA]
def Kp{x:i7}(hx:bj P N x=bv)(b:d<N):fO P ops anc (⟨a9 d,.move x,ty,pos,after,bi⟩::rest) i fps (bu N E ds) H Q=qA P ops anc rest i fps N E ds d H Q (a9 (cy E x)) :=
 uE rfl (by simp only[cE,rI,aH hx]) b
def Cq{x:i7}(hx:bj P N x=bv)(b:d<N):fO P ops anc (⟨a9 d,.assign x,ty,pos,after,bi⟩::rest) i fps (bu N E ds) H Q=qA P ops anc rest i fps N E ds d H Q (a9 (cy E x)) :=
 uE rfl (by simp only[cE,rI,aH hx]) b
def uG{x:i7}{t:io}{f:Nat}(hx:bj P N x=bv)(b:d<N):fO P ops anc (⟨a9 d,.fieldAddr t x f,ty,pos,after,bi⟩::rest) i fps (bu N E ds) H Q=qA P ops anc rest i fps N E ds d H Q (aJ P t (cy E x) f) :=
 uE rfl (by simp only[cE,j5,aH hx,zA1,zA3]) b
def uW{x y:i7}{t:io}(hx:bj P N x=bv)(hi:bj P N y=bv)(b:d<N):fO P ops anc (⟨a9 d,.indexAddr t x y,ty,pos,after,bi⟩::rest) i fps (bu N E ds) H Q=qA P ops anc rest i fps N E ds d H Q (aW P t (cy E x) (cy E y)) :=
 uE rfl (by simp only[cE,j9,aH hx,aH hi,zA1,zA3]) b
def zm{x:i7}{k:Nat}(hx:bj P N x=bv)(b:d<N):fO P ops anc (⟨a9 d,.extract x k,ty,pos,after,bi⟩::rest) i fps (bu N E ds) H Q=qA P ops anc rest i fps N E ds d H Q (Wk k (cy E x)) :=
 uE rfl (by
  simp only[cE,nO,aH hx,zA1,zA3,mf]
  cases cy E x<;>rfl) b
def xT{x:i7}(hx:bj P N x=bv)(b:d<N)(h:(Gd P (cy E x)).isSome=bv):fO P ops anc (⟨a9 d,.nilCheck x,ty,pos,after,bi⟩::rest) i fps (bu N E ds) H Q=qA P ops anc rest i fps N E ds d H Q (Gd P (cy E x)) :=
 uE rfl (by
  simp only[cE,MN,aH hx,zA1,zA3];simp only[Gd]at h ⊢;unfold By at h ⊢
  split<;>simp_all [rv]) b
def Hb{t:io}{l:List (Nat × i7)}(b:d<N):fO P ops anc (⟨a9 d,.build t ⟨l⟩,ty,pos,after,bi⟩::rest) i fps (bu N E ds) H Q=qA P ops anc rest i fps N E ds d H Q ((iS P (bu N E ds) l).bind (cY P t)) :=
 uE rfl (by
  simp only[cE,vj,zA1]
  cases iS P (bu N E ds) l<;>rfl) b
def LH{c x y:i7}(e:bj P N c=bv)(hx:bj P N x=bv)(g:bj P N y=bv)(h:d<N):fO P ops anc (⟨a9 d,.pick c x y,ty,pos,after,bi⟩::rest) i fps (bu N E ds) H Q=qA P ops anc rest i fps N E ds d H Q (BS (cy E x) (cy E y) (cy E c)) :=
 uE rfl (by
  simp only[cE,BI,aH e,aH hx,aH g,zA1,zA3]
  cases cy E c with
  |bool b=>cases b<;>rfl
  |_=>rfl) h
def O5{b:BinOp}{t u:io}{x y:i7}(hx:bj P N x=bv)(e:bj P N y=bv)(g:d<N)(h:(ef P b t (cy E x) (cy E y)).isSome=bv):fO P ops anc (⟨a9 d,.binOp b t x y u,ty,pos,after,bi⟩::rest) i fps (bu N E ds) H Q=qA P ops anc rest i fps N E ds d H Q (ef P b t (cy E x) (cy E y)):=by
 cases c:ef P b t (cy E x) (cy E y) with
 |none=>rw[c]at h; cases h
 |some v=>simp only[fO,cN,jQ,jk,Sh,aH hx,aH e,c,dK N E ds d v g,qA]
def LL(P:ip)(ops:Array Oper)(anc:List Nat)(rest:List Oper)(i:Nat)(fps:List Fp)(N:Nat)(E:Env)(ds:List Deferred)(d:Nat)(H:aa)(Q:ah->aa->Prop)(n:Nat):Option go->Prop
 |some v=>(∀ r∈fps,cL (anc.getD i 0) [n] [] (ae v) r)/\fO P ops anc rest (i+1) (⟨i,[n],[],H.next,H.next⟩::fps) (bu N (cH E d v) ds) H Q
 |none=>False
def AK{n:Nat}{v:go}:LL P ops anc rest i fps N E ds d H Q n (a9 v)=((∀ r∈fps,cL (anc.getD i 0) [n] [] (ae v) r)/\fO P ops anc rest (i+1) (⟨i,[n],[],H.next,H.next⟩::fps) (bu N (cH E d v) ds) H Q):=by simp only[LL]
def Nq:go->Nat
 |li (a9 a)=>a.block
 |_=>0
def nD:go->Bool
 |li (a9 ⟨_,_,bi⟩)=>bv
 |_=>ci
def KJ{n off:Nat}:Nq (li (a9 ⟨n,off,bi⟩))=n:=by simp only[Nq]
def xq{n off:Nat}:nD (li (a9 ⟨n,off,bi⟩))=true:=by simp only[nD]
def LJ{x:i7}{t:io}(hx:bj P N x=bv)(e:d<N)(b:nD (cy E x)=bv):fO P ops anc (⟨a9 d,.load t x,ty,pos,after,bi⟩::rest) i fps (bu N E ds) H Q=LL P ops anc rest i fps N E ds d H Q (Nq (cy E x)) (ib P H t (cy E x)):=by
 simp only[fO,cN,jQ,jk,aH hx];unfold nD at b;split at b
 .rename_i n off c;rw[c];simp only[P7,Nq]
  cases ib P H t (li (a9 ⟨n,off,bi⟩)) with
  |none=>rfl
  |some v=>simp only[dK N E ds d v e,LL]
 .cases b
def oz(P:ip)(ops:Array Oper)(anc:List Nat)(o:Oper)(rest:List Oper)(i:Nat)(fps:List Fp)(a:ah)(H:aa)(Q:ah->aa->Prop):Prop :=
 EZ P o a H (anc.getD i 0) i fps fun b v H1=>fO P ops anc rest (i+1) b (a.put o.dst v) H1 Q
def K4{f:i7}{args:Array i7}{ts:Array io}{dst:Option Nat}:fO P ops anc (⟨dst,.call ⟨.value f,args,ts⟩,ty,pos,after,bi⟩::rest) i fps (bu N E ds) H Q=oz P ops anc ⟨dst,.call ⟨.value f,args,ts⟩,ty,pos,after,bi⟩ rest i fps (bu N E ds) H Q:=by simp only[fO,cN,jQ,jk,qu,sf,oz]
def bI{f:FuncId}{args:List i7}{ts:Array io}{v:go}(F:List Nat)(e:args.all (bj P N)=bv)(j:aD P f=bv)(k:d<N)(l:∀ n∈F,H.get n≠bi)
  (m:∀ G:aa,G.next=H.next->(∀ n∈F,G.get n=H.get n)->bD P f (args.map (cy E)) G (.ok v) G) (o:∀ r∈fps,cL (anc.getD i 0) F [] (ae v) r)
  (h:fO P ops anc rest (i+1) (⟨i,F,[],H.next,H.next⟩::fps) (bu N (cH E d v) ds) H Q):oz P ops anc ⟨a9 d,.call ⟨.value (.func f),⟨args⟩,ts⟩,ty,pos,after,bi⟩ rest i fps (bu N E ds) H Q:=by
 have b:=aK H F;refine⟨F,v,H.restrict F,?_,l,(by rw[b.2.2]; simp),fun r p=>jG ?_,?_⟩
 .refine gD (x:=.enter f (args.map (cy E))) (g:=H.restrict F) ?_ (m _ b.1 (fun n c=>by rw[aU,if_pos c]));simp only[cE,kH,cD e,aO,zA1,zA3,pA,fe,jh,j,if_true,zB6,zC7,zB2]
 .simp only[gZ,b.2.2,b.1,zG8,dH,zC7,List.flatMap_nil];exact o r p
 .rw[oZ,b.2.2,b.1];simp only[dK N E ds d v k];exact h
def Ke{t:io}{k:IntKind}{x y:Int}:ef P .add t (.int k x) (.int k y)=a9 (.int k (k.wrap (x+y))):=by simp[ef,eO]
def Kx{t:io}{k:IntKind}{x y:Int}:ef P .sub t (.int k x) (.int k y)=a9 (.int k (k.wrap (x-y))):=by simp[ef,eO]
def KK{t:io}{k:IntKind}{x y:Int}:ef P .lss t (.int k x) (.int k y)=a9 (ls (f7 (x<y))):=by simp[ef,eO]
def Kt{t:io}{k:IntKind}{x y:Int}:ef P .leq t (.int k x) (.int k y)=a9 (ls (f7 (x<=y))):=by simp[ef,eO]
def Lu{t:io}{k:IntKind}{x y:Int}:ef P .gtr t (.int k x) (.int k y)=a9 (ls (f7 (y<x))):=by simp[ef,eO]
def Lq{t:io}{k:IntKind}{x y:Int}:ef P .geq t (.int k x) (.int k y)=a9 (ls (f7 (y<=x))):=by simp[ef,eO]
def K0{t:io}{k:IntKind}{x y:Int}:ef P .eql t (.int k x) (.int k y)=a9 (ls (f7 (x=y))):=by simp[ef,eO]; rfl
def J3{t:io}{k:IntKind}{x y:Int}:ef P .neq t (.int k x) (.int k y)=a9 (ls (f7 (x≠y))):=by
 have:(x != y)=f7 (x≠y):=by by_cases h:x=y<;>simp[h]
 simp[ef,eO,this]
def Ot{ts:Array io}{k:IntKind}{x y:Int}:aE P H .max ts [.int k x,.int k y]=a9 (.int k (max x y),H):=by
 have:(if y>x then y else x)=max x y:=by split<;>omega
 simp[aE,gI,this]
def Pm{ts:Array io}{k:IntKind}{x y:Int}:aE P H .min ts [.int k x,.int k y]=a9 (.int k (min x y),H):=by
 have:(if y<x then y else x)=min x y:=by split<;>omega
 simp[aE,gI,this]
def DS(P:ip)(ops:Array Oper)(anc:List Nat)(rest:List Oper)(i:Nat)(fps:List Fp)(a:ah)(H:aa)(Q:ah->aa->Prop)(n:Nat):Option aa->Prop
 |some H1=>n<H.next/\(∀ r∈fps,cL (anc.getD i 0) [n] [n] (fM H1 n) r)/\fO P ops anc rest (i+1) (⟨i,[n],[n],H.next,H.next⟩::fps) a H1 Q
 |none=>False
def xe{n:Nat}{a:ah}{H1:aa}:DS P ops anc rest i fps a H Q n (a9 H1)=(n<H.next/\(∀ r∈fps,cL (anc.getD i 0) [n] [n] (fM H1 n) r)/\fO P ops anc rest (i+1) (⟨i,[n],[n],H.next,H.next⟩::fps) a H1 Q):=by simp only[DS]
def GW{x y:i7}{t:io}(hx:bj P N x=bv)(e:bj P N y=bv)(b:nD (cy E x)=bv):fO P ops anc (⟨bi,.store t x y,ty,pos,after,bi⟩::rest) i fps (bu N E ds) H Q=DS P ops anc rest i fps (bu N E ds) H Q (Nq (cy E x)) (fw P H t (cy E x) (cy E y)):=by
 simp only[fO,cN,jQ,jk,aH hx,aH e];unfold nD at b;split at b
 .rename_i n off c;rw[c];simp only[IU,Nq]
  cases fw P H t (li (a9 ⟨n,off,bi⟩)) (cy E y) with
  |none=>rfl
  |some H1=>simp only[AJ,DS]
 .cases b
def N8(P:ip)(ops:Array Oper)(anc:List Nat)(rest:List Oper)(i:Nat)(fps:List Fp)(N:Nat)(E:Env)(ds:List Deferred)(d:Nat)(H:aa)(Q:ah->aa->Prop):Option (go × aa)->Prop
 |some (v,H1)=>(∀ r∈fps,cL (anc.getD i 0) [] [] (ae v++fM H1 H.next) r)/\fO P ops anc rest (i+1) (⟨i,[],[],H.next,H.next+1⟩::fps) (bu N (cH E d v) ds) H1 Q
 |none=>False
def Da{v:go}{H1:aa}:N8 P ops anc rest i fps N E ds d H Q (a9 (v,H1))=((∀ r∈fps,cL (anc.getD i 0) [] [] (ae v++fM H1 H.next) r)/\fO P ops anc rest (i+1) (⟨i,[],[],H.next,H.next+1⟩::fps) (bu N (cH E d v) ds) H1 Q):=by simp only[N8]
def Ry{b:Op}{x:Option (go × aa)}(c:sf b=bv)(h:cE b P (bu N E ds) H=uY x)(e:d<N):fO P ops anc (⟨a9 d,b,ty,pos,after,bi⟩::rest) i fps (bu N E ds) H Q=N8 P ops anc rest i fps N E ds d H Q x:=by
 have j:jk b=false:=by cases b<;>first|rfl|cases c
 have g:jQ P ⟨a9 d,b,ty,pos,after,bi⟩ (bu N E ds) H=qu P ⟨a9 d,b,ty,pos,after,bi⟩ (bu N E ds) H:=by funext anc i fps K;cases b<;>first|rfl|cases c
 simp only[fO,cN,g,qu,c,h,uY]
 cases x with
 |none=>rfl
 |some v=>simp only[zB2,Uu,dK N E ds d v.1 e,N8]
def Qw{t:io}{x:i7}(hx:bj P N x=bv)(b:d<N):fO P ops anc (⟨a9 d,.box t x,ty,pos,after,bi⟩::rest) i fps (bu N E ds) H Q=N8 P ops anc rest i fps N E ds d H Q (we H t (a9 (cy E x))) :=
 Ry rfl (by
  simp only[cE,vN,aH hx,zA1,zA3,AE,we,uY]
  cases cJ H t (cy E x).cells.toList ci<;>rfl) b
def rP{t:io}{n:Nat}{l:List (Nat × i7)}(b:d<N):fO P ops anc (⟨a9 d,.buildSlice t n ⟨l⟩,ty,pos,after,bi⟩::rest) i fps (bu N E ds) H Q=N8 P ops anc rest i fps N E ds d H Q ((iS P (bu N E ds) l).bind (bN P H t n)) :=
 Ry rfl (by
  simp only[cE,jz,zA1]
  cases iS P (bu N E ds) l<;>rfl) b
def Br{b:Builtin}{args:List i7}{ts:Array io}(e:args.all (bj P N)=bv)(g:d<N)(h:(mj P b ts (args.map (cy E))).isSome=bv) :
  fO P ops anc (⟨a9 d,.call ⟨.builtin b,⟨args⟩,ts⟩,ty,pos,after,bi⟩::rest) i fps (bu N E ds) H Q=qA P ops anc rest i fps N E ds d H Q (mj P b ts (args.map (cy E))):=by
 cases c:mj P b ts (args.map (cy E)) with
 |none=>rw[c]at h; cases h
 |some v=>simp only[fO,cN,jQ,jk,qu,sf,Vd,cD e,c,dK N E ds d v g,qA]
def Qv{ts:Array io}{k:IntKind}{x y:Int}:mj P .max ts [.int k x,.int k y]=a9 (.int k (max x y)):=by
 have:(if y>x then y else x)=max x y:=by split<;>omega
 simp[mj,gI,this]
def Qn{ts:Array io}{k:IntKind}{x y:Int}:mj P .min ts [.int k x,.int k y]=a9 (.int k (min x y)):=by
 have:(if y<x then y else x)=min x y:=by split<;>omega
 simp[mj,gI,this]
def jU(P:ip)(ops:Array Oper)(anc:List Nat)(o:Oper)(rest:List Oper)(i:Nat)(fps:List Fp)(N:Nat)(E:Env)(ds:List Deferred)(H:aa)(Q:ah->aa->Prop)(want:Bool):go->Prop
 |.bool b=>if b=want then fO P ops anc (o::rest) i fps (bu N E ds) H Q else fO P ops anc rest (i+1) fps ((bu N E ds).put o.dst undef) H Q
 |_=>fO P ops anc rest (i+1) fps ((bu N E ds).put o.dst undef) H Q
theorem ID{b:Op}{dst:Option Nat}{g:Option (Nat × Bool)}{a:ah}{anc i:Nat}{K:List Fp->go->aa->Prop}:EZ P ⟨dst,b,ty,pos,after,g⟩ a H anc i fps K=EZ P ⟨dst,b,ty,pos,after,bi⟩ a H anc i fps K:=rfl
def HR{b:Op}{dst:Option Nat}{g:Option (Nat × Bool)}{a:ah}{anc i:Nat}{K:List Fp->go->aa->Prop}:jQ P ⟨dst,b,ty,pos,after,g⟩ a H anc i fps K=jQ P ⟨dst,b,ty,pos,after,bi⟩ a H anc i fps K:=by unfold jQ qu;simp only[ID (g:=g)]
def Pl{dst:Option Tmp}{g:Op}{j d:Nat}{want:Bool}(c:mN ops j=a9 d)(m:d<N) :
  fO P ops anc (⟨dst,g,ty,pos,after,a9 (j,want)⟩::rest) i fps (bu N E ds) H Q=jU P ops anc ⟨dst,g,ty,pos,after,bi⟩ rest i fps N E ds H Q want (E d):=by
 unfold mN at c
 cases k:ops[j]? with
 |none=>rw[k]at c; cases c
 |some o =>
  rw[k]at c;simp only[zA3]at c
  have e:cN ops (bu N E ds) ⟨dst,g,ty,pos,after,a9 (j,want)⟩=(match E d with
    |.bool b=>a9 (b == want)
    |_=>a9 ci):=by
   simp only[cN,k,c,A9 N E ds d m];cases E d<;>rfl
  have n:cN ops (bu N E ds) ⟨dst,g,ty,pos,after,bi⟩=a9 true:=rfl
  cases l:E d with
  |bool b =>
   rw[l]at e;simp only[jU];by_cases h:b=want
   .rw[if_pos h];have:(b == want)=true:=by simpa using h
    simp only[fO,e,this,n];exact HR
   .rw[if_neg h];have:(b == want)=false:=by simpa using h
    simp only[fO,e,this]
  |_=>rw[l]at e; simp only[fO,e,jU]
def Ch{anc:Nat}{O:List Nat}:ju anc [] O=True:=by simp[ju]
def xQ{anc j n:Nat}{F W O:List Nat}:ju anc (⟨j,F,W,n,n⟩::fps) O=ju anc fps O:=by simp[ju]
end
end
def xX{anc:Nat}{fps:List Fp}:ju anc fps []=True:=by simp[ju]
def JV{k:IntKind}{n:Int}:ae (.int k n)=[]:=by simp only[ae]
def FV{b:Bool}:ae (ls b)=[]:=by simp only[ae]
def Kz{a:Addr}:ae (li (a9 a))=[a.block]:=by simp only[ae]
def LU{l:List go}:ae (.agg ⟨l⟩)=ir l:=by simp only[ae,tB]
def Gi{f:FuncId}:ae (.func (.func f) ⟨[]⟩ ⟨[]⟩)=[]:=by simp[ae,tB,ir]
def Fk:ir []=[]:=by simp only[ir]
def CC{v:go}{r:List go}:ir (v::r)=ae v++ir r:=by simp only[ir]
section
variable{P:ip}{H:aa}{N:Nat}{E:Env}{ds:List Deferred}{ops:Array Oper}{anc:List Nat}{d:Nat}{ty:io}{pos:String}{after:Array Edge}{rest:List Oper}{i:Nat}{fps:List Fp}{Q:ah -> aa -> Prop}
end
def eZ{α:Type}(d v w:α):∀(l:List α)(i:Nat),gN d (gN d l i v) i w=gN d l i w
 |[],0=>rfl
 |[],i+1=>by simp only[gN,eZ d v w [] i]
 |_::_,0=>rfl
 |x::r,i+1=>by simp only[gN,eZ d v w r i]
def kc{α:Type}(d v w:α):∀(l:List α)(i j:Nat),i≠j->gN d (gN d l i v) j w=gN d (gN d l j w) i v
 |[],0,0,h=>absurd rfl h
 |[],0,_+1,_=>rfl
 |[],_+1,0,_=>rfl
 |[],i+1,j+1,h=>by simp only[gN,kc d v w [] i j lw]
 |_::_,0,0,h=>absurd rfl h
 |_::_,0,_+1,_=>rfl
 |_::_,_+1,0,_=>rfl
 |x::r,i+1,j+1,h=>by simp only[gN,kc d v w r i j lw]
def EX(R:List (List (List (Option dO))))(n:Nat)(o o':Option dO):fh (fh R n o) n o'=fh R n o':=by simp only[fh,eW,if_true,eZ]
def D1(R:List (List (List (Option dO)))){n m:Nat}(o o':Option dO)(h:n≠m):fh (fh R n o) m o'=fh (fh R m o') n o:=by
 simp only[fh,eW];by_cases b:m / 256=n / 256
 .rw[if_pos b,if_pos b.symm];simp only[eW];by_cases c:m / 16 % 16=n / 16 % 16
  .rw[if_pos c,if_pos c.symm,b,c,eZ,eZ,eZ,eZ,kc bi o o' _ _ _ lw]
  .rw[if_neg c,if_neg (fun e=>c e.symm),b,eZ,eZ,kc _ _ _ _ _ _ (fun e=>c e.symm)]
 .rw[if_neg b,if_neg (fun e=>b e.symm),kc _ _ _ _ _ _ (fun e=>b e.symm)]
def RV.Rm(v:RV)(i:Nat)(x y:go):(v.set i x).set i y=v.set i y:=by simp only[RV.I8,eW,if_true,eZ]
def RV.set_comm(v:RV){i j:Nat}(x y:go)(h:i≠j):(v.set i x).set j y=(v.set j y).set i x:=by
 simp only[RV.I8,eW];by_cases b:j / 16=i / 16
 .rw[if_pos b,if_pos b.symm,b,eZ,eZ,kc _ _ _ _ _ _ lw]
 .rw[if_neg b,if_neg (fun e=>b e.symm),kc _ _ _ _ _ _ (fun e=>b e.symm)]
def RV.Ra(l:List go):∀(v:RV)(i j:Nat)(y:go),j<i->(v.fZ i l).set j y=(v.set j y).fZ i l:=by
 induction l with
 |nil=>intros; rfl
 |cons x r b =>intro v i j y h;simp only[RV.fZ];rw[b _ _ _ _ lw,RV.set_comm _ _ _ lw]
def dj:List go->Nat->List go->List go
 |[],_,_=>[]
 |x::r,0,[]=>x::r
 |_::r,0,y::ys=>y::dj r 0 ys
 |x::r,k+1,vs=>x::dj r k vs
def kN:∀(l:List go)(off:Nat)(vs:List go),(dj l off vs).length=l.length
 |[],_,_=>rfl
 |_::_,0,[]=>rfl
 |_::r,0,y::ys=>by simp only[dj,zA9,kN r 0 ys]
 |x::r,k+1,vs=>by simp only[dj,zA9,kN r k vs]
def qx:∀(l:List go)(off:Nat)(vs:List go),off+vs.length<=l.length->dj l off vs=v8 l off vs
 |[],off,vs,h=>by
  simp only[zB4]at h;have b:off=0:=by omega
  have c:vs=[]:=List.length_eq_zero_iff.1 lw;subst b c; rfl
 |x::r,0,[],_=>by simp[dj,v8]
 |x::r,0,y::ys,h=>by have:=qx r 0 ys (by simp only[zA9]at h; omega);simp only[v8,List.take_zero,zB6,zC2]at this;simp[dj,v8,this]
 |x::r,k+1,vs,h=>by have:=qx r k vs (by simp only[zA9]at h; omega);rw[dj,this];simp[v8,Nat.add_right_comm k 1 vs.length]
def RV.Ad:∀(l:List go)(v:RV)(k off:Nat)(vs:List go),off+vs.length<=l.length->(v.fZ k l).fZ (k+off) vs=v.fZ k (dj l off vs)
 |[],v,k,off,vs,h=>by have c:vs=[]:=List.length_eq_zero_iff.1 (by simp only[zB4]at h; omega);subst c;rfl
 |x::r,v,k,0,[],_=>rfl
 |x::r,v,k,0,y::ys,h=>by have b:=RV.Ad r (v.set k y) (k+1) 0 ys (by simp only[zA9]at h; omega);simp only[RV.fZ,dj,zD5]at b ⊢;rw[RV.Ra _ _ _ _ _ (zF3 k),RV.Rm];exact b
 |x::r,v,k,off+1,vs,h=>by have b:=RV.Ad r (v.set k x) (k+1) off vs (by simp only[zA9]at h; omega);simp only[RV.fZ,dj];rw[show k+(off+1)=k+1+off by omega];exact b
def RV.OG(l:List go):∀(t:List (List go))(n m i:Nat),({RV.fZ ⟨t,n⟩ i l with n:=m}:RV)=RV.fZ ⟨t,m⟩ i l:=by
 induction l with
 |nil=>intros; rfl
 |cons x r b=>intro t n m i; simp only[RV.fZ,RV.I8]; exact b _ n m _
def RV.HP(l:List go)(off:Nat)(vs:List go)(h:off+vs.length<=l.length):(RV.ofList l).fZ off vs=RV.ofList (dj l off vs):=by rw[RV.ofList_eq,RV.ofList_eq];rw[RV.OG,RV.OG,kN];have:=RV.Ad l ⟨[],l.length⟩ 0 off vs h;rw[zC2]at this;exact this
def RV.nb(l:List go):(RV.ofList l).ky 0 l.length=l:=by
 apply List.ext_getElem?;intro i;rw[RV.iI];by_cases hi:i<l.length
 .simp[hi,RV.cM,List.getD]
 .rw[zD3 (by simpa using hi),zD3 lw]
structure Bl where
 e:io
 o:Bool
 l:List go
def Bl.obj(b:Bl):dO:=⟨.cells #[] b.e,b.o,RV.ofList b.l⟩
def ext(H:aa):List Bl->aa
 |[]=>H
 |b::r=>ext (nw H b.e b.l b.o) r
section
variable{P:ip}{H:aa}{L:List Bl}
theorem ext_nil:ext H []=H:=rfl
def ai:∀ {L:List Bl} {H:aa},(ext H L).next=H.next+L.length
 |[],_=>rfl
 |b::r,H=>by rw[ext,ai,jH,zA9]; omega
def Ai:∀ {L:List Bl} {H:aa},(ext H L).base=H.base
 |[],_=>rfl
 |b::r,H=>by rw[ext,Ai,JX]
def iH:∀ {L:List Bl} {H:aa},(ext H L).dirty=H.dirty
 |[],_=>rfl
 |b::r,H=>by rw[ext,iH,Q7]
def bL:∀ {L:List Bl} {H:aa} {n:Nat},n<H.next->(ext H L).get n=H.get n
 |[],_,_,_=>rfl
 |b::r,H,n,h=>by rw[ext,bL (by rw[jH]; omega),Ql _ _ _ lw]
def fc:∀ {L:List Bl} {H:aa} {i:Nat},i<L.length->(ext H L).get (H.next+i)=L[i]?.map Bl.obj
 |[],_,_,h=>absurd h nl
 |b::r,H,0,_=>by rw[ext,bL (by rw[jH]; omega),nw,aa.fk,if_pos lw];rfl
 |b::r,H,i+1,h=>by have:=fc (L:=r) (H:=nw H b.e b.l b.o) (i:=i) (by simpa using h);rw[jH]at this;rw[ext,show H.next+(i+1)=H.next+1+i by omega,this];simp
def qc:∀ {L:List Bl} {H:aa} {n:Nat},H.next+L.length<=n->(ext H L).get n=H.get n
 |[],_,_,_=>rfl
 |b::r,H,n,h=>by rw[zA9]at h;rw[ext,qc (by rw[jH]; omega),Ql _ _ _ lw]
def Bk:∀ {L:List Bl} {H:aa} (e:io) (l:List go) (o:Bool),nw (ext H L) e l o=ext H (L++[⟨e,o,l⟩])
 |[],_,_,_,_=>rfl
 |b::r,H,e,l,o=>by rw[ext,Bk,zE3,ext]
def j0:∀ {L M:List Bl} {H:aa},ext (ext H L) M=ext H (L++M)
 |[],_,_=>rfl
 |b::r,M,H=>by rw[ext,j0,zE3,ext]
def SF{n:Nat}{o:Option dO}{x:dO}(h:n<H.next):(H.new x).cH n o=(H.cH n o).new x:=by simp only[aa.eT,aa.oK];rw[D1 _ _ _ (Nat.ne_of_gt h)]
def kL:∀ {L:List Bl} {H:aa} {n:Nat} {o:Option dO},n<H.next->(ext H L).cH n o=ext (H.cH n o) L
 |[],_,_,_,_=>rfl
 |b::r,H,n,o,h=>by rw[ext,kL (by rw[jH]; omega),ext];congr 1;exact SF h
def K8{o x:dO}(h:H.base<=H.next):(H.new x).cH H.next (a9 o)=H.new o:=by
 have:Nat.blt H.next H.base=false:=by
  cases b:Nat.blt H.next H.base with
  |false=>rfl
  |true=>have:=bT b; omega
 simp only[aa.eT,aa.oK,EX,this,zD2,if_false]
def ql:∀ {L:List Bl} {H:aa} {i:Nat} {b:Bl},H.base<=H.next->i<L.length->(ext H L).cH (H.next+i) (a9 b.obj)=ext H (L.set i b)
 |[],_,_,_,_,h=>absurd h nl
 |c::r,H,0,b,g,_=>by rw[ext,kL (by rw[jH]; omega),List.set_cons_zero,ext];congr 1;exact K8 g
 |c::r,H,i+1,b,g,h=>by have:=ql (L:=r) (H:=nw H c.e c.l c.o) (i:=i) (b:=b) (by rw[jH,JX]; omega) (by simpa using h);rw[jH]at this;rw[ext,show H.next+(i+1)=H.next+1+i by omega,this,List.set_cons_succ,ext]
def bk(H:aa)(n:Nat):Option Bl:=(bO H n).map fun x=>⟨x.2.1,x.2.2,x.1.ky 0 x.1.n⟩
def bg{H G:aa}{n:Nat}(h:H.get n=G.get n):bk H n=bk G n:=by simp only[bk,bO,h]
def fa{n:Nat}{b:Bl}(h:bk H n=a9 b):H.get n≠none:=by intro c;simp[bk,bO,c]at h
def sw{n:Nat}{b:Bl}(h:bk H n=a9 b):Va H n b.e b.o b.l:=by
 unfold bk at h
 cases c:bO H n with
 |none=>rw[c]at h; cases h
 |some x =>rw[c]at h;obtain⟨rv,e,o⟩:=x;cases h;exact⟨rv,c,by simp,fun i hi=>by rw[RV.length_gets]at hi; rw[RV.qV _ _ _ _ hi,zC2]⟩
def Ux{n:Nat}{e:io}{o:Bool}{l:List go}(h:Va H n e o l):bk H n=a9 ⟨e,o,l⟩:=by obtain⟨rv,c,b,g⟩:=h;simp only[bk,c,zB2];rw[b,Va.ky b g 0 l.length lw];simp
def kf{n:Nat}(h:n<H.next):bk (ext H L) n=bk H n:=bg (bL h)
def UA{b i:Nat}(h:H.next=b):bk (ext H L) (b+i)=if i<L.length then L[i]? else bk H (b+i):=by
 subst h;by_cases hi:i<L.length
 .rw[if_pos hi];simp only[bk,bO,fc hi];rw[zB0 hi];simp only[zB2,Bl.obj,RV.n_ofList,RV.nb]
 .rw[if_neg hi];exact bg (qc lw)
def qk(H:aa)(n:Nat):Option Bl :=
 match H.get n with
 |some ⟨.cells _ e (_+1,_),o,v⟩=>a9 ⟨e,o,v.ky 0 v.n⟩
 |_=>bi
def HY:Option Bl->Option Bl->Option Bl
 |some b,_=>a9 b
 |none,x=>x
theorem jL{b:Bl}{x:Option Bl}:HY (a9 b) x=a9 b:=rfl
abbrev rk(H:aa)(n:Nat):Option Bl:=HY (bk H n) (qk H n)
def OT{H G:aa}{n:Nat}(h:H.get n=G.get n):qk H n=qk G n:=by simp only[qk,h]
def kh{H G:aa}{n:Nat}(h:H.get n=G.get n):rk H n=rk G n:=by simp only[rk,bg h,OT h]
def iq{n:Nat}{b:Bl}(h:bk H n=a9 b):rk H n=a9 b:=by simp only[rk,h,HY]
def OX{n:Nat}:rk H n=(aP H n).map fun x=>⟨x.2.1,x.2.2,x.1.ky 0 x.1.n⟩:=by
 unfold rk bk qk bO aP
 cases H.get n with
 |none=>rfl
 |some o =>
  obtain⟨b,h,v⟩:=o
  cases b with
  |cells c e f =>obtain⟨k,g⟩:=f;cases k<;>rfl
  |_=>rfl
def KW{n:Nat}{b:Bl}(h:rk H n=a9 b):H.get n≠none:=by intro c;rw[OX]at h;simp[aP,c]at h
def Oq{n:Nat}{b:Bl}(h:rk H n=a9 b):∃ rv,aP H n=a9 (rv,b.e,b.o)/\rv.n=b.l.length/\∀ i,i<b.l.length->rv.get i=b.l.getD i undef:=by
 rw[OX]at h
 cases c:aP H n with
 |none=>rw[c]at h; cases h
 |some x =>rw[c]at h;obtain⟨rv,e,o⟩:=x;cases h;exact⟨rv,rfl,by simp,fun i hi=>by rw[RV.length_gets]at hi; rw[RV.qV _ _ _ _ hi,zC2]⟩
def cm{n:Nat}(h:n<H.next):qk (ext H L) n=qk H n:=OT (bL h)
def Rr{n:Nat}(h:n<H.next):rk (ext H L) n=rk H n:=kh (bL h)
def rL(P:ip)(t:io)(off:Nat):Option Bl->Option go
 |none=>bi
 |some b=>(match fj P t with
  |some bv=>(br P t).bind fun sz=>if off+sz<=b.l.length then a9 (.agg ⟨(b.l.drop off).take sz⟩) else bi
  |some ci=>b.l[off]?
  |none=>bi)
def L7{t:io}{n off:Nat}:ib P H t (li (a9 ⟨n,off,bi⟩))=rL P t off (HY (bk H n) (qk H n)):=by
 show _=rL P t off (rk H n)
 cases g:rk H n with
 |none =>
  have:aP H n=none:=by rw[OX]at g;simpa using g
  simp only[ib,this,rL,zA1,Option.bind_none]
 |some b =>
  have c:=Oq g;simp only[rL];obtain⟨rv,k,m,j⟩:=c;simp only[ib,k,zA1,zA3]
  cases fj P t with
  |none=>rfl
  |some x =>
   cases x with
   |false =>
    simp only[zA3];by_cases h:off<b.l.length
    .rw[if_pos (bd lw),j off h];simp[List.getD,h]
    .rw[if_neg (fun e=>h (by have:=bT e; omega)),zD3 lw]
   |true =>
    simp only[zA3]
    cases br P t with
    |none=>rfl
    |some sz =>
     simp only[zA3];by_cases h:off+sz<=b.l.length
     .rw[if_pos (by rw[zE8]; omega),if_pos h,Va.ky m j off sz h]
     .rw[if_neg (by rw[zE8]; omega),if_neg h]
def lf{t e:io}{o:Bool}{l:List go}{off:Nat}(h:fj P t=a9 ci):rL P t off (a9 ⟨e,o,l⟩)=l[off]?:=by simp only[rL,h]
def vY{t e:io}{o:Bool}{l:List go}{off:Nat}(h:fj P t=a9 bv):rL P t off (a9 ⟨e,o,l⟩)=(br P t).bind fun sz=>if off+sz<=l.length then a9 (.agg ((l.drop off).take sz).toArray) else none:=by simp only[rL,h]
structure WF (P:ip) (H:aa):Prop where
 base:H.base<=H.next
 glob:P.globals.size<=H.next
 dom:∀ n o,H.get n=a9 o->n<H.next/\l6 H.next o
def WF.lt(w:WF P H){n:Nat}{b:Bl}(h:bk H n=a9 b):n<H.next:=by
 cases c:H.get n with
 |none=>exact absurd c (fa h)
 |some o=>exact (w.dom n o c).1
def ey{e:io}{l:List go}{o:Bool}(h:aT (H.next+L.length) l=bv):cJ (ext H L) e l o=a9 (ext H (L++[⟨e,o,l⟩])):=by rw[EL (by rw[ai]; exact h),Bk]
def BG{b i off:Nat}{vs:List go}{e:io}{o:Bool}{l:List go}(k:H.next=b)(m:H.base<=H.next)(hi:L[i]?=a9 ⟨e,o,l⟩)(c:off+vs.length<=l.length)(p:vs.all one=bv)(q:aT (b+L.length) vs=bv) :
  dT (ext H L) (b+i) off vs=a9 (ext H (L.set i ⟨e,o,dj l off vs⟩)):=by
 subst k
 have g:i<L.length:=by
  rcases zC0 i L.length with h|h
  .exact h
  .rw[zD3 h]at hi; cases hi
 have r:bO (ext H L) (H.next+i)=a9 (RV.ofList l,e,o):=by simp only[bO,fc g,hi,zB2,Bl.obj]
 have j:Nat.ble (off+vs.length) (RV.ofList l).n=true:=by rw[zE8]; exact c
 simp only[dT,r,zA1,zA3,j,p,ai,q,zD8,if_true];rw[RV.HP l off vs c];exact congrArg a9 (ql (b:=⟨e,o,dj l off vs⟩) m g)
def uw(H:aa)(n off:Nat)(vs:List go):aa :=
 match bO H n with
 |some (rv,e,o)=>H.cH n (a9 ⟨.cells #[] e,o,rv.fZ off vs⟩)
 |none=>H
def cw{n off:Nat}{vs:List go}:(uw H n off vs).next=H.next:=by unfold uw; split<;>rfl
def S9{n off:Nat}{vs:List go}:(uw H n off vs).base=H.base:=by unfold uw; split<;>rfl
def QU{n off:Nat}{vs:List go}{m:Nat}(h:m∈(uw H n off vs).dirty):m∈H.dirty\/(m=n/\n<H.base):=by
 unfold uw at h;split at h
 .simp only[aa.eT]at h;split at h
  .rename_i b;rcases zA8.1 h with h|h
   .exact .inr ⟨h,bT b⟩
   .exact .inl h
  .exact .inl h
 .exact .inl h
def iV{n off:Nat}{vs:List go}{m:Nat}(h:m≠n):(uw H n off vs).get m=H.get m:=by
 unfold uw;split
 .rw[aa.fC,if_neg h]
 .rfl
def pU{n m off:Nat}{vs:List go}(h:m≠n):bk (uw H n off vs) m=bk H m:=bg (iV h)
def Q1(off:Nat)(vs:List go)(b:Bl):Bl:=⟨b.e,b.o,dj b.l off vs⟩
theorem yo{off:Nat}{vs:List go}{e:io}{o:Bool}{l:List go}:Q1 off vs ⟨e,o,l⟩=⟨e,o,dj l off vs⟩:=rfl
def AG:∀(l:List go)(off:Nat)(vs:List go)(j:Nat),j<l.length->(dj l off vs)[j]?=if off<=j/\j<off+vs.length then vs[j-off]? else l[j]?
 |[],_,_,j,h=>absurd h nl
 |x::r,0,[],j,_=>by simp only[dj,zB4,zD5]; rw[if_neg lw]
 |x::r,0,y::ys,0,_=>by simp[dj]
 |x::r,0,y::ys,j+1,h=>by have:=AG r 0 ys j (by simpa using h);simp only[dj,zH8,zA9,zC2,zB7,true_and,Nat.add_lt_add_iff_right,Nat.sub_zero]at this ⊢;exact this
 |x::r,k+1,vs,0,_=>by simp[dj]
 |x::r,k+1,vs,j+1,h=>by have:=AG r k vs j (by simpa using h);simp only[dj,zH8,Nat.add_le_add_iff_right,Nat.add_right_comm k 1,Nat.add_lt_add_iff_right,Nat.add_sub_add_right];exact this
def bR{n off:Nat}{vs:List go}:bk (uw H n off vs) n=(bk H n).map (Q1 off vs):=by
 unfold bk
 cases c:bO H n with
 |none=>simp[uw,c]
 |some x =>
  obtain⟨rv,e,o⟩:=x;have g:uw H n off vs=H.cH n (a9 ⟨.cells #[] e,o,rv.fZ off vs⟩):=by simp only[uw,c]
  have h:bO (uw H n off vs) n=a9 (rv.fZ off vs,e,o):=by rw[g]; simp[bO,aa.fC]
  rw[h];simp only[zB2,Q1,RV.qj];congr 2;apply List.ext_getElem?;intro j;by_cases b:j<rv.n
  .rw[AG _ _ _ _ (by simpa using b),RV.iI,RV.iI];simp only[zG0,List.getElem?_range b,zB2,zC2,RV.nI];split
   .rename_i k;rw[zB0 lw];simp[List.getD,zB0 (show j-off<vs.length by omega)]
   .rfl
  .rw[zD3 (by simpa using b),zD3 (by rw[kN]; simpa using b)]
def ke{n off:Nat}{vs:List go}{b:Bl}(g:n<H.next)(h:bk H n=a9 b)(j:off+vs.length<=b.l.length)(m:vs.all one=bv)(p:aT (H.next+L.length) vs=bv) :
  dT (ext H L) n off vs=a9 (ext (uw H n off vs) L):=by
 obtain⟨rv,k,q,_⟩:=sw h;have c:bO (ext H L) n=a9 (rv,b.e,b.o):=by rw[<-k]; simp only[bO,bL g]
 have r:Nat.ble (off+vs.length) rv.n=true:=by rw[zE8]; omega
 simp only[dT,c,zA1,zA3,r,m,ai,p,zD8,if_true];rw[kL g];simp only[uw,k]
def Cc(P:ip)(t:io)(N off:Nat)(v:go):Option Bl->Option Bl
 |some ⟨e,o,l⟩=>if br P t=a9 v.cells.toList.length/\off+v.cells.toList.length<=l.length/\v.cells.toList.all one=bv/\aT N v.cells.toList=bv then a9 ⟨e,o,dj l off v.cells.toList⟩ else bi
 |none=>bi
def oG{t e:io}{o:Bool}{l:List go}{N off:Nat}{v:go}(b:br P t=a9 v.cells.toList.length)(c:off+v.cells.toList.length<=l.length)(g:v.cells.toList.all one=bv)(h:aT N v.cells.toList=bv) :
  Cc P t N off v (a9 ⟨e,o,l⟩)=a9 ⟨e,o,dj l off v.cells.toList⟩:=by simp only[Cc,b,c,g,h,and_self,if_true]
def zF{n off:Nat}{vs:List go}{rv:RV}{e:io}{o:Bool}(c:bO H n=a9 (rv,e,o))(h:¬(off+vs.length<=rv.n/\vs.all one=bv/\aT H.next vs=bv)):dT H n off vs=none:=by simp only[dT,c,zA1,zA3];rw[if_neg];intro b;simp only[zA6,zE8]at b;exact h ⟨b.1.1,b.1.2,b.2⟩
def vL{t:io}{b i off:Nat}{v:go}(j:H.next=b)(k:H.base<=H.next)(hi:i<L.length) :
  fw P (ext H L) t (li (a9 ⟨b+i,off,bi⟩)) v=(Cc P t (b+L.length) off v L[i]?).map fun x=>ext H (L.set i x):=by
 obtain⟨⟨e,o,l⟩,hL⟩:∃ x,L[i]?=a9 x:=⟨_,zB0 hi⟩
 rw[hL];simp only[Cc];split
 .rename_i c;simp only[fw,c.1,zA1,zA3,if_true,zB2];exact BG j k hL c.2.1 c.2.2.1 c.2.2.2
 .rename_i c;simp only[fw,zA1,Option.map_none]
  cases g:br P t with
  |none=>rfl
  |some sz =>
   simp only[zA3];split
   .rename_i m;subst j;refine zF (rv:=RV.ofList l) (e:=e) (o:=o) (by simp only[bO,fc hi,hL,zB2,Bl.obj]) ?_;rw[ai];exact fun h=>c ⟨by rw[g,m],h.1,h.2.1,h.2.2⟩
   .rfl
def Cj{t:io}{n off:Nat}{v:go}(g:n<H.next) :
  fw P (ext H L) t (li (a9 ⟨n,off,bi⟩)) v=(Cc P t (H.next+L.length) off v (bk H n)).map fun _=>ext (uw H n off v.cells.toList) L:=by
 cases b:bk H n with
 |none =>
  have:bO H n=none:=by unfold bk at b; simpa using b
  have h:bO (ext H L) n=none:=by rw[<-this]; simp only[bO,bL g]
  simp only[fw,Cc,zA1,Option.map_none]
  cases br P t with
  |none=>rfl
  |some sz=>simp only[zA3,dT,h,zA1,Option.bind_none,ite_self]
 |some q =>
  obtain⟨e,o,l⟩:=q;simp only[Cc];split
  .rename_i c;simp only[fw,c.1,zA1,zA3,if_true,zB2];exact ke g b c.2.1 c.2.2.1 c.2.2.2
  .rename_i c;simp only[fw,zA1,Option.map_none]
   cases j:br P t with
   |none=>rfl
   |some sz =>
    simp only[zA3];split
    .rename_i r;obtain⟨rv,k,m,_⟩:=sw b;refine zF (rv:=rv) (e:=e) (o:=o) (by rw[<-k]; simp only[bO,bL g]) ?_;rw[ai,m];exact fun p=>c ⟨by rw[j,r],p.1,p.2.1,p.2.2⟩
    .rfl
end
def Wh(σ:Nat->Nat):Fn->Fn
 |.yield l=>.yield (σ l)
 |f=>f
mutual
def mq(σ:Nat->Nat):go->go
 |li (a9 a)=>li (a9 ⟨σ a.block,a.off,a.spot⟩)
 |lm (a9 a) len cap=>lm (a9 ⟨σ a.block,a.off,a.spot⟩) len cap
 |.map (a9 r)=>.map (a9 (σ r))
 |.func f a b=>.func (Wh σ f) (TI σ a) (TI σ b)
 |.iface t v=>.iface t (mq σ v)
 |.agg cs=>.agg (TI σ cs)
 |.tuple cs=>.tuple (TI σ cs)
 |.bool b=>.bool b
 |.int k n=>.int k n
 |.float k b=>.float k b
 |.complex k a b=>.complex k a b
 |.string s=>.string s
 |li bi=>li bi
 |lm bi len cap=>lm bi len cap
 |.map bi=>.map bi
 |.chan bi=>.chan bi
 |.chan (a9 k)=>.chan (a9 (σ k))
 |.nilFunc=>.nilFunc
 |.nilIface=>.nilIface
def TI(σ:Nat->Nat):Array go->Array go
 |⟨l⟩=>⟨U7 σ l⟩
def U7(σ:Nat->Nat):List go->List go
 |[]=>[]
 |v::r=>mq σ v::U7 σ r
end
def Ren.comp(ρ:Ren)(σ:Nat->Nat):Ren:=⟨fun n=>ρ.blk (σ n),fun n=>ρ.sh (σ n),fun n=>ρ.ex (σ n),fun n=>ρ.op (σ n),fun n=>ρ.op1 (σ n)⟩
def TC(ρ:Ren)(σ:Nat->Nat)(f:Fn):ρ.fn (Wh σ f)=(ρ.comp σ).fn f:=by cases f<;>rfl
mutual
def uP(ρ:Ren)(σ:Nat->Nat):∀ v,ρ.val (mq σ v)=(ρ.comp σ).val v
 |.bool _=>by rw[mq,Ren.val,Ren.val]
 |.int _ _=>by rw[mq,Ren.val,Ren.val]
 |.float _ _=>by rw[mq,Ren.val,Ren.val]
 |.complex _ _ _=>by rw[mq,Ren.val,Ren.val]
 |.string _=>by rw[mq,Ren.val,Ren.val]
 |li bi=>by rw[mq,Ren.val,Ren.val]
 |li (a9 a)=>by rw[mq,Ren.val,Ren.val]; rfl
 |lm bi _ _=>by rw[mq,Ren.val,Ren.val]
 |lm (a9 a) _ _=>by rw[mq,Ren.val,Ren.val]; rfl
 |.map bi=>by rw[mq,Ren.val,Ren.val]
 |.map (a9 r)=>by rw[mq,Ren.val,Ren.val]; rfl
 |.chan bi=>by rw[mq,Ren.val,Ren.val]
 |.chan (a9 k)=>by rw[mq,Ren.val,Ren.val]; rfl
 |.func f a b=>by rw[mq,Ren.val,Ren.val,qK ρ σ a,qK ρ σ b,TC]
 |.nilFunc=>by rw[mq,Ren.val,Ren.val]
 |.iface t v=>by rw[mq,Ren.val,Ren.val,uP ρ σ v]
 |.nilIface=>by rw[mq,Ren.val,Ren.val]
 |.agg cs=>by rw[mq,Ren.val,Ren.val,qK ρ σ cs]
 |.tuple cs=>by rw[mq,Ren.val,Ren.val,qK ρ σ cs]
def qK(ρ:Ren)(σ:Nat->Nat):∀ c,ρ.eV (TI σ c)=(ρ.comp σ).eV c
 |⟨l⟩=>by rw[TI,Ren.eV,Ren.eV,CY ρ σ l]
def CY(ρ:Ren)(σ:Nat->Nat):∀ l,ρ.iU (U7 σ l)=(ρ.comp σ).iU l
 |[]=>rfl
 |v::r=>by rw[U7,Ren.iU,Ren.iU,uP ρ σ v,CY ρ σ r]
end
mutual
def ym{σ:Nat->Nat}{N:Nat}(h:∀ n,n<N->σ n=n):∀ v,aV N v=bv->mq σ v=v
 |.bool _,_=>by rw[mq]
 |.int _ _,_=>by rw[mq]
 |.float _ _,_=>by rw[mq]
 |.complex _ _ _,_=>by rw[mq]
 |.string _,_=>by rw[mq]
 |li bi,_=>by rw[mq]
 |li (a9 a),c=>by have e:=bT (by simpa[aV]using c);simp only[mq,h _ e]
 |lm bi _ _,_=>by rw[mq]
 |lm (a9 a) _ _,c=>by have e:=bT (by simpa[aV]using c);simp only[mq,h _ e]
 |.map bi,_=>by rw[mq]
 |.map (a9 r),c=>by have e:=bT (by simpa[aV]using c);simp only[mq,h _ e]
 |.chan bi,_=>by rw[mq]
 |.chan (a9 k),c=>by have e:=bT (by simpa[aV]using c);simp only[mq,h _ e]
 |.func f a b,c=>by
  cases f with
  |yield l =>simp only[aV,zA6]at c;simp only[mq,Wh,h _ (bT c.1.1),qM h a c.1.2,qM h b c.2]
  |_ =>simp only[aV,zA6]at c;simp only[mq,Wh,qM h a c.1,qM h b c.2]
 |.nilFunc,_=>by rw[mq]
 |.iface t v,c=>by rw[mq,ym h v (by simpa[aV]using c)]
 |.nilIface,_=>by rw[mq]
 |.agg cs,c=>by rw[mq,qM h cs (by simpa[aV]using c)]
 |.tuple cs,c=>by rw[mq,qM h cs (by simpa[aV]using c)]
def qM{σ:Nat->Nat}{N:Nat}(h:∀ n,n<N->σ n=n):∀ c,fL N c=bv->TI σ c=c
 |⟨l⟩,b=>by rw[TI,KO h l (by simpa[fL]using b)]
def KO{σ:Nat->Nat}{N:Nat}(h:∀ n,n<N->σ n=n):∀ l,aT N l=bv->U7 σ l=l
 |[],_=>rfl
 |v::r,b=>by simp only[aT,zA6]at b;rw[U7,ym h v b.1,KO h r b.2]
end
def Er(σ:Nat->Nat)(g b:dO):Prop :=
 (∃ c e k z h j,g.obj=.cells c e (k,z)/\b.obj=.cells h e (k,j))/\g.opn=b.opn/\g.rv.n=b.rv.n/\∀ i,i<b.rv.n->g.rv.get i=mq σ (b.rv.get i)
def Tt{P:ip}{ρ:Ren}{σ:Nat->Nat}{n:Nat}{b g:dO}{o':Obj}(h:Fits P ρ (σ n) b o')(m:Er σ b g):Fits P (ρ.comp σ) n g o':=by
 obtain⟨⟨c,e,k,z,t,v,o,p⟩,h3,h4,h5⟩:=m;unfold Fits at h ⊢;rw[o]at h;rw[p];obtain⟨d,q,r,s,j,l⟩:=h;refine⟨d,q,r,fun i hi=>?_,?_,?_⟩
 .have:=s i lw;rw[h5 i hi,uP]at this;exact this
 .rw[h3,h4]at j;exact j
 .rw[h3,h4]at l;exact l
def Uq{σ:Nat->Nat}{g h:dO}(n:Er σ g h):TW h=TW g:=by obtain⟨⟨c,e,k,z,o,p,j,l⟩,m,_⟩:=n;obtain⟨a,b,d⟩:=g;obtain⟨q,r,s⟩:=h;simp only at j l m;subst j l m;cases k<;>cases b<;>rfl
section
variable{P:ip}{H H1 H2:aa}{f:FuncId}{args:List go}
structure Rn (σ:Nat->Nat) (H H1 H2:aa):Prop where
 low:∀ n,n<H.next->σ n=n
 next:H.next<=H2.next
 base:H2.base=H.base
 dirty:∀ n,n∈H.dirty->n∈H2.dirty
 dirt1:∀ n,n∈H1.dirty->n∈H2.dirty
 get:∀ n o2,H2.get n=a9 o2->(n<H.next/\H.get n=a9 o2/\H1.get n=a9 o2) \/
  (n<H2.next/\l6 H2.next o2/\(n<H.base->n∈H2.dirty)/\(n<H.next->H.get n≠bi)/\(H.next<=n->H.next<=σ n)/\∃ o1,H1.get (σ n)=a9 o1/\Er σ o1 o2)
 gH:∀ n,n<H.base->H2.get n=bi->H.get n=bi\/n∈H2.dirty
 inj:∀ m n,H2.get m≠bi->H2.get n≠bi->σ m=σ n->m=n
 ro:∀ n,Fz (H.get n)->(n∈H2.dirty->n∈H.dirty\/n∈H1.dirty)/\(H1.get n=H.get n->H2.get n=H.get n)
def Qu{N M:Nat}(h:N<=M){o:dO}(b:l6 N o):l6 M o:=by
 unfold l6 at *
 split at b
 .exact fun i hi=>cU h _ (b i hi)
 .exact fun e c=>⟨(b e c).1,cU h _ (b e c).2⟩
 .exact⟨by omega,fun i hi=>cU h _ (b.2 i hi)⟩
 .trivial
def Rel.wf{ρ:Ren}{w:i6}(r:Rel P ρ H w):WF P H:=⟨r.base,r.glob.1,r.dom⟩
def Rn.st{σ:Nat->Nat}{ρ t:Ren}{w w1:i6}(c:Rn σ H H1 H2)(r:Rel P ρ H w)(s:St P ρ H w t H1 w1):St P ρ H w (t.comp σ) H2 w1:=by
 have v:Ext H.next t (t.comp σ):=⟨fun n j=>by simp only[Ren.comp,c.low n j],fun n j=>by simp only[Ren.comp,c.low n j],fun n j=>by simp only[Ren.comp,c.low n j],fun n j=>by simp only[Ren.comp,c.low n j]⟩
 have D:∀ n,H2.get n≠bi->H1.get (σ n)≠none:=by
  intro n j
  cases k:H2.get n with
  |none=>exact absurd k j
  |some l =>
   rcases c.get n l k with⟨e,_,p⟩|⟨_,_,_,_,_,F,p,_⟩
   .rw[c.low n e,p]; simp
   .rw[p]; simp
 refine⟨s.ext.trans v (zA4 _),⟨c.next,c.base,c.dirty,fun n A B=>?_,fun n j q=>?_⟩,⟨?_,?_,?_,?_,?_⟩,s.os,s.tape,s.output,s.size,?_,?_,fun n C=>?_⟩
 .cases k:H2.get n with
  |none =>
   rcases c.gH n A k with h|h
   .rw[h]
   .exact absurd h B
  |some l =>
   rcases c.get n l k with⟨_,h,_⟩|⟨_,_,h,_⟩
   .rw[h]
   .exact absurd (h A) B
 .cases k:H2.get n with
  |none=>rfl
  |some l =>
   rcases c.get n l k with⟨_,h,_⟩|⟨_,_,_,h,_⟩
   .rw[q]at h; cases h
   .exact absurd q (h j)
 .have:=r.base; have:=c.next; rw[c.base]; omega
 .refine⟨zC4 r.glob.1 c.next,fun g q=>?_⟩;have e:g<H.next:=zE0 q r.glob.1;have:=s.rel.glob.2 g q;simp only[Ren.comp,c.low g e];exact this
 .intro m n z j M
  have back:∀ m,H2.get m≠bi->Fz (H1.get (σ m))->Fz (H2.get m):=fun m z C=>by
   cases k:H2.get m with
   |none=>exact absurd k z
   |some l =>
    obtain⟨o,x,y⟩:=C
    rcases c.get m l k with⟨e,_,p⟩|⟨_,_,_,_,_,F,p,G⟩
    .rw[c.low m e,p]at x;cases x;exact⟨_,rfl,y⟩
    .rw[p]at x;cases x;exact⟨_,rfl,(Uq G).trans y⟩
  exact (s.rel.inj _ _ (D m z) (D n j) M).imp (c.inj m n z j) fun⟨a,b⟩=>⟨back m z a,back n j b⟩
 .intro n l k
  rcases c.get n l k with⟨e,h,_⟩|⟨p,I,_⟩
  .exact⟨zE0 e c.next,Qu c.next (r.dom n l h).2⟩
  .exact⟨p,I⟩
 .intro n l k
  rcases c.get n l k with⟨e,h,p⟩|⟨_,_,_,_,_,F,p,G⟩
  .obtain⟨o',x,y⟩:=s.rel.obj n l p;exact⟨o',by simp only[Ren.comp,c.low n e]; exact x,y.ext e (r.dom n l h).2 v⟩
  .obtain⟨o',x,y⟩:=s.rel.obj (σ n) F p;exact⟨o',x,Tt y G⟩
 .intro b A O;exact s.gO b A fun n j B q=>O n j (B.imp id (c.dirt1 n)) q
 .intro n j q
  have J:H.next<=σ n:=by
   cases k:H2.get n with
   |none=>exact absurd k q
   |some l =>
    rcases c.get n l k with⟨e,_⟩|⟨_,_,_,_,h,_⟩
    .omega
    .exact h j
  rcases s.fresh (σ n) J (D n q) with h|⟨m,p,k,R,S⟩
  .exact .inl h
  .exact .inr ⟨m,p,k,R.imp id (c.dirt1 m),S⟩
 .obtain⟨a,b⟩:=c.ro n C;obtain⟨T,U⟩:=s.ro n C;exact⟨fun h=>(a h).elim id T,b U⟩
def bD.rn{σ:Nat->Nat}{v:go}(h:bD P f args H (.ok (mq σ v)) H1)(c:WF P H->Rn σ H H1 H2)(g:aV H2.next v=bv):bD P f args H (.ok v) H2:=by intro ρ w r b F n R j k;refine h ρ w r b F n R j fun e w1 s _=>?_;have:=k (e.comp σ) w1 ((c r.wf).st r s) g;rw[uP];exact this
def Rn.drop{L:List Bl}(w:WF P H):Rn id H (ext H L) H where
 low:=fun _ _=>rfl
 next:=zA4 _
 base:=rfl
 dirty:=fun _ h=>h
 dirt1:=fun n h=>by rw[iH]at h; exact h
 get:=fun n b h=>.inl ⟨(w.dom n b h).1,h,by rw[bL (w.dom n b h).1,h]⟩
 gH:=fun n _ h=>.inl h
 inj:=fun m n _ _ h=>h
 ro:=fun n _=>⟨.inl,fun _=>rfl⟩
def OB{N:Nat}{v:go}(h:aV N v=bv):mq id v=v:=ym (fun _ _=>rfl) v h
def bD.drop{L:List Bl}{v:go}(h:bD P f args H (.ok v) (ext H L))(b:aV H.next v=bv):bD P f args H (.ok v) H:=by refine bD.rn (σ:=id) (H1:=ext H L) ?_ Rn.drop b;rw[OB b]; exact h
def kp(N:Nat)(b:List Nat)(n:Nat):Nat:=if n<N then n else N+b.getD (n-N) 0
def Fin(P:ip)(f:FuncId)(args:List go)(H:aa)(v:go)(H2:aa):Out->aa->Prop:=fun out H1=>bD P f args H out H1->bD P f args H (.ok v) H2
def Fin.pure{L:List Bl}{v:go}(b:aV H.next v=bv):Fin P f args H v H (.ok v) (ext H L):=fun h=>h.drop b
def Fin.cf{L:List Bl}{v b:go}(c:b=v)(e:aV H.next v=bv):Fin P f args H v H (.ok b) (ext H L):=by rw[c]; exact Fin.pure e
def bA(b:P.follows .mixedOrders=bv){fn:Func}{c:Code}{N:Nat}{v:go}(g:P.funcs[f]?=a9 fn)(k:fn.body=a9 c)(l:fn.ntmps=N)(j:args.length<=N)
  (h:WF P H->aT H.next args=bv->gL P bi c (Nc P fn (Fin P f args H v H2)) (bu N (gE Sc 0 args) []) (ext H [])):bD P f args H (.ok v) H2:=by
 intro ρ w r e;obtain⟨out,H1,m,n⟩:=F6 b g k l j (h r.wf e);exact n m ρ w r e
def aI(b:P.follows .mixedOrders=bv){fn:Func}{c:Code}{N:Nat}{R:Out->aa->Prop}(e:P.funcs[f]?=a9 fn)(j:fn.body=a9 c)(k:fn.ntmps=N)(g:args.length<=N)
  (h:gL P bi c (Nc P fn R) (bu N (gE Sc 0 args) []) (ext H [])):bF P f args H R:=F6 b e j k g h
def bD.to{v:go}{R:Out->aa->Prop}(h:bD P f args H (.ok v) H1)(k:R (.ok v) H1):bF P f args H R:=⟨_,_,h,k⟩
end
section
variable{P:ip}{ro:Option Nat}{H:aa}{L:List Bl}{N:Nat}{E:Env}{ds:List Deferred}
def Bs(R:Out->aa->Prop)(H:aa):Option (List go)->Prop
 |some vs=>R (.ok (Ev vs)) H
 |none=>False
def ya{R:Out->aa->Prop}{vs:List go}:Bs R H (a9 vs)=R (.ok (Ev vs)) H:=by simp only[Bs]
def Pn{fn:Func}{a:ah}{R:Out->aa->Prop}:ft P fn a [] .returning H R=Bs R H (dw P H a fn.results.toList):=by
 simp only[ft]
 cases dw P H a fn.results.toList with
 |none=>simp[Bs]
 |some vs=>simp[Bs]
def DF:dw P H (bu N E ds) []=a9 []:=by simp only[dw]
def Ew{t:Nat}{b:List ResultVar}(c:t<N):dw P H (bu N E ds) (.tmp t::b)=(dw P H (bu N E ds) b).map (E t::·):=by simp only[dw,zA1,A9 N E ds t c];cases dw P H (bu N E ds) b<;>rfl
def Kj{t:Nat}{u:io}{b:List ResultVar}(c:t<N):dw P H (bu N E ds) (.cell t u::b)=(ib P H u (E t)).bind fun v=>(dw P H (bu N E ds) b).map (v::·):=by
 simp only[dw,zA1,A9 N E ds t c]
 cases ib P H u (E t) with
 |none=>rfl
 |some v=>cases dw P H (bu N E ds) b<;>rfl
def Kh:Ev []=.tuple ⟨[]⟩:=by simp only[Ev]
def yI{v:go}:Ev [v]=v:=by simp only[Ev]
def Kg{v u:go}{r:List go}:Ev (v::u::r)=.tuple ⟨v::u::r⟩:=by simp only[Ev]
def Di{k:IntKind}{n:Int}:(Value.int k n).cells.toList=[.int k n]:=by simp only[Value.cells]
def zT{b:Bool}:(Value.bool b).cells.toList=[ls b]:=by simp only[Value.cells]
def CR{a:Option Addr}:(Value.pointer a).cells.toList=[.pointer a]:=by simp only[Value.cells]
def xg{a:Option Addr}{n c:Nat}:(Value.slice a n c).cells.toList=[.slice a n c]:=by simp only[Value.cells]
def lS{l:List go}:(Value.agg ⟨l⟩).cells.toList=l:=by simp only[Value.cells]
def FG{v:go}(h:one v=bv):v.cells.toList=[v]:=by cases v<;>first|rfl|cases h
def A3:([]:List go).all one=true:=by simp only[List.all_nil]
def xi{v:go}{l:List go}:(v::l).all one=(one v&&l.all one):=by simp only[List.all_cons]
def JZ{k:IntKind}{n:Int}:one (.int k n)=true:=by simp only[one]
def F5{b:Bool}:one (ls b)=true:=by simp only[one]
def B3{a:Option Addr}{n c:Nat}:one (.slice a n c)=true:=by simp only[one]
def zd{s:ByteArray}:one (.string s)=true:=by simp only[one]
def Hj{f:Fn}{a b:Array go}:one (.func f a b)=true:=by simp only[one]
def Oi{M:Nat}:aT M []=true:=by simp only[aT]
def LV{M:Nat}{v:go}{l:List go}:aT M (v::l)=(aV M v&&aT M l):=by simp only[aT]
def Pt{M:Nat}{k:IntKind}{n:Int}:aV M (.int k n)=true:=by simp only[aV]
def J4{M:Nat}{b:Bool}:aV M (ls b)=true:=by simp only[aV]
def Dd{M:Nat}{s:ByteArray}:aV M (.string s)=true:=by simp only[aV]
def xK{M n c:Nat}:aV M (lm bi n c)=true:=by simp only[aV]
def zJ{M:Nat}:aV M .nilFunc=true:=by simp only[aV]
def Ll{M:Nat}{f:FuncId}{a b:List go}:aV M (.func (.func f) ⟨a⟩ ⟨b⟩)=(aT M a&&aT M b):=by simp only[aV,fL]
def Pd{M n off:Nat}{s:Option Nat}(h:n<M):aV M (li (a9 ⟨n,off,s⟩))=true:=by simp only[aV,bd h]
def FT{M n off l c:Nat}{s:Option Nat}(h:n<M):aV M (lm (a9 ⟨n,off,s⟩) l c)=true:=by simp only[aV,bd h]
def EM{b k:Nat}{v:go}(h:aV b v=bv):aV (b+k) v=true:=cU (Nat.le_add_right _ _) v h
def PJ{b i k:Nat}:(b+i<b+k)=(i<k):=by simp
def QI{n b k:Nat}(h:n<b):(n<b+k)=True:=by simp; omega
def Rv{b i k:Nat}:(b+i=b+k)=(i=k):=by simp
def add_add{b i k:Nat}:b+i+k=b+(i+k):=Nat.add_assoc b i k
def aZ{b i:Nat}(h:H.next=b)(hi:i<L.length):bk (ext H L) (b+i)=L[i]?:=by rw[UA h,if_pos hi]
def QM{e:io}{l:List go}{o:Bool}:nw (ext H L) e l o=ext H (L++[⟨e,o,l⟩]):=Bk e l o
def Aq{anc:Nat}{F W O:List Nat}{b:Fp}{fps:List Fp}:(∀ r∈b::fps,cL anc F W O r)=(cL anc F W O b/\∀ r∈fps,cL anc F W O r):=by simp
def tA{anc j n:Nat}{F W O b W':List Nat}:cL anc F W O ⟨j,b,W',n,n⟩=(anc.testBit j=bv\/((∀ n∈W',n∉F)/\(∀ n∈b,n∉W))):=by simp[cL]
def nj{anc j lo hi:Nat}{F W O b W':List Nat}:cL anc F W O ⟨j,b,W',lo,hi⟩=(anc.testBit j=bv\/((∀ n∈W',n∉F)/\(∀ n∈b,n∉W)/\(lo<hi->(∀ n∈F,n<lo\/hi<=n)/\(∀ n∈O,n<lo\/hi<=n)))):=by simp only[cL]
def Tg{b i:Nat}(h:H.next=b)(hi:i<L.length):fM (ext H L) (b+i)=(match L[i]? with
  |some x=>ir x.l
  |none=>[]):=by
 subst h;simp only[fM,fc hi,zB0 hi,zB2,Bl.obj,rq,RV.n_ofList,RV.nb]
def aQ{Q:Exit->ah->aa->Prop}{id:Nat}{l:List Oper}{a:ah}(bits e:List (Nat × Nat))(b:iF ⟨l⟩=bv)(g:(bits.all fun p=>((iZ ⟨l⟩).getD p.1 0).testBit p.2)=bv)(j:(e.all fun p=>mN ⟨l⟩ p.1 == a9 p.2)=bv)
  (h:∀ ops anc,(∀ p∈bits,(anc.getD p.1 0).testBit p.2=bv)->(∀ p∈e,mN ops p.1=a9 p.2)->fO P ops anc l 0 [] a H (Q .normal)):gL P ro (.region id ⟨l⟩ bv) Q a H :=
 Um b (h _ _ (fun p c=>by simpa using zC3.1 g p c) (fun p c=>by simpa using zC3.1 j p c))
def xV(P:ip)(ro:Option Nat)(ops:Array Oper):List Oper->ah->aa->(Exit->ah->aa->Prop)->Prop
 |[],_,_,_=>False
 |[o],a,H,Q=>o.guard=bi/\w8 o.op=ci/\wpOps P ro ops [o] a H Q
 |_::o::l,a,H,Q=>xV P ro ops (o::l) a H Q
def jV{ops:Array Oper}{d:Option Nat}{b:Op}{ty:io}{pos:String}{after:Array Edge}{a:ah}{Q:Exit->ah->aa->Prop}:xV P ro ops [⟨d,b,ty,pos,after,bi⟩] a H Q=(w8 b=ci/\wpOps P ro ops [⟨d,b,ty,pos,after,bi⟩] a H Q):=by simp only[xV,true_and]
def hJ{ops:Array Oper}{o b:Oper}{l:List Oper}{a:ah}{Q:Exit->ah->aa->Prop}:xV P ro ops (o::b::l) a H Q=xV P ro ops (b::l) a H Q:=by simp only[xV]
def gh{o:Oper}:[o].dropLast=[]:=by simp only[List.dropLast]
def eF{o b:Oper}{l:List Oper}:(o::b::l).dropLast=o::(b::l).dropLast:=by simp only[List.dropLast]
def jg{c:Call}:w8 (.call c)=false:=by simp only[w8]
def AP(P:ip)(ro:Option Nat)(ops:Array Oper):∀ l:List Oper,l≠[]->∃ o,l=l.dropLast++[o]/\∀(a:ah)(H:aa)(Q:Exit->ah->aa->Prop),xV P ro ops l a H Q->o.guard=bi/\w8 o.op=ci/\wpOps P ro ops [o] a H Q
 |[],h=>absurd rfl h
 |[o],_=>⟨o,rfl,fun a H Q h=>h⟩
 |o::b::l,_=>by obtain⟨q,c,e⟩:=AP P ro ops (b::l) nl;refine⟨q,?_,fun a H Q h=>by rw[hJ]at h; exact e a H Q h⟩;rw[eF,zE3,<-c]
def pf{Q:Exit->ah->aa->Prop}{id:Nat}{l:List Oper}{a:ah}(bits m:List (Nat × Nat))(e:iF ⟨l⟩=bv)(c:((List.range (l.length-1)).all (fun j=>((iZ ⟨l⟩).getD (l.length-1) 0).testBit j))=bv)(q:(bits.all fun p=>((iZ ⟨l⟩).getD p.1 0).testBit p.2)=bv)(r:(m.all fun p=>mN ⟨l⟩ p.1 == a9 p.2)=bv)
  (h:∀ ops anc,(∀ p∈bits,(anc.getD p.1 0).testBit p.2=bv)->(∀ p∈m,mN ops p.1=a9 p.2)->fO P ops anc l.dropLast 0 [] a H (fun g H1=>xV P ro ops l g H1 Q)) (cn:l≠[]) (b:(l.getLast cn).guard=bi/\w8 (l.getLast cn).op=ci):gL P ro (.region id ⟨l⟩ bv) Q a H:=by
 have s:=ik _ _ _ _ _ (h ⟨l⟩ (iZ ⟨l⟩) (fun p k=>by simpa using zC3.1 q p k) (fun p k=>by simpa using zC3.1 r p k));obtain⟨o,n,t⟩:=AP P ro ⟨l⟩ l cn
 have v:l.getLast cn=o:=by
  have:l.getLast?=a9 o:=by rw[n]; simp
  rw[List.getLast?_eq_some_getLast cn]at this;exact Option.some.inj this
 rw[v]at b;refine⟨e,.inr ⟨l.dropLast,o,n,c,b.2,kE (fun g H1 h=>⟨by simp only[cN,b.1],(t g H1 Q h).2.2⟩) _ _ _ _ _ s⟩⟩
def cG{α:Type}{p:α->Prop}:(∀ x∈([]:List α),p x)=True:=by simp
def aw{α:Type}{p:α->Prop}{y:α}{l:List α}:(∀ x∈y::l,p x)=(p y/\∀ x∈l,p x):=by simp
def AU{n:Nat}:(n∉([]:List Nat))=True:=by simp
def Fv{n m:Nat}:(n∉[m])=¬n=m:=by simp
def LQ{t:io}{k:IntKind}{x y:Int}(h:y≠0):ef P .rem t (.int k x) (.int k y)=a9 (.int k (x.tmod y)):=by simp[ef,eO,h]
def uj{ops:Array Oper}{rest:List Oper}{dst:Option Nat}{ty:io}{pos:String}{after:Array Edge}{Q:Exit->ah->aa->Prop}{t:io}{n:Nat}{l:List (Nat × i7)}:wpOps P ro ops (⟨dst,.buildSlice t n ⟨l⟩,ty,pos,after,bi⟩::rest) (bu N E ds) H Q=qa P ro ops rest N E ds dst Q ((iS P (bu N E ds) l).bind (bN P H t n)) :=
 xA rfl (by
  simp only[cE,jz,zA1]
  cases iS P (bu N E ds) l<;>rfl)
def xW{ops:Array Oper}{rest:List Oper}{dst:Option Nat}{ty:io}{pos:String}{after:Array Edge}{Q:Exit->ah->aa->Prop}{t:io}{x y:i7}(hx:bj P N x=bv)(b:bj P N y=bv):wpOps P ro ops (⟨dst,.makeSlice t x y,ty,pos,after,bi⟩::rest) (bu N E ds) H Q=qa P ro ops rest N E ds dst Q (fS P H t (cy E x) (cy E y)) :=
 xA rfl (by simp only[cE,me,aH hx,aH b,zA1,zA3])
def sG(E:Env):Option i7->Option go
 |none=>bi
 |some x=>a9 (cy E x)
def jr(P:ip)(N:Nat):Option i7->Bool
 |none=>bv
 |some x=>bj P N x
def dY:sG E bi=none:=by simp only[sG]
def ec{x:i7}:sG E (a9 x)=a9 (cy E x):=by simp only[sG]
def xc:jr P N bi=true:=by simp only[jr]
def mI{x:i7}:jr P N (a9 x)=bj P N x:=by simp only[jr]
def l5{x:Option i7}(h:jr P N x=bv):mT P (bu N E ds) x=a9 (sG E x):=by
 cases x with
 |none=>rfl
 |some x=>simp only[jr]at h; simp only[mT,aH h,sG,zB2]
def KZ{ops:Array Oper}{rest:List Oper}{dst:Option Nat}{ty:io}{pos:String}{after:Array Edge}{Q:Exit->ah->aa->Prop}{t:io}{x:i7}{lo hi b:Option i7}(hx:bj P N x=bv)(c:jr P N lo=bv)(e:jr P N hi=bv)(g:jr P N b=bv):wpOps P ro ops (⟨dst,.slice t x lo hi b,ty,pos,after,bi⟩::rest) (bu N E ds) H Q=qa P ro ops rest N E ds dst Q (bX P H t (cy E x) (sG E lo) (sG E hi) (sG E b)) :=
 xA rfl (by simp only[cE,Ar,aH hx,l5 c,l5 e,l5 g,zA1,zA3])
def Fu{l:List Oper}{j:Nat}:mN ⟨l⟩ j=(l[j]?).bind (·.dst):=by simp[mN]
def xE{ops:Array Oper}{o:Oper}{rest:List Oper}{Q:Exit->ah->aa->Prop}{want:Bool}:jY P ro ops o rest N E ds H Q want (ls want)=wpOps P ro ops (o::rest) (bu N E ds) H Q:=by simp only[jY,if_true]
def CG{ops:Array Oper}{o:Oper}{rest:List Oper}{Q:Exit->ah->aa->Prop}:jY P ro ops o rest N E ds H Q bv (ls ci)=wpOps P ro ops rest ((bu N E ds).put o.dst undef) H Q:=by simp only[jY,zD2,if_false]
def BZ{ops:Array Oper}{o:Oper}{rest:List Oper}{Q:Exit->ah->aa->Prop}:jY P ro ops o rest N E ds H Q ci (ls bv)=wpOps P ro ops rest ((bu N E ds).put o.dst undef) H Q:=by simp only[jY,Bool.true_eq_false,if_false]
def w6{ops:Array Oper}{anc:List Nat}{o:Oper}{rest:List Oper}{i:Nat}{fps:List Fp}{Q:ah->aa->Prop}{want:Bool}:jU P ops anc o rest i fps N E ds H Q want (ls want)=fO P ops anc (o::rest) i fps (bu N E ds) H Q:=by simp only[jU,if_true]
def BN{ops:Array Oper}{anc:List Nat}{o:Oper}{rest:List Oper}{i:Nat}{fps:List Fp}{Q:ah->aa->Prop}:jU P ops anc o rest i fps N E ds H Q bv (ls ci)=fO P ops anc rest (i+1) fps ((bu N E ds).put o.dst undef) H Q:=by simp only[jU,zD2,if_false]
def BL{ops:Array Oper}{anc:List Nat}{o:Oper}{rest:List Oper}{i:Nat}{fps:List Fp}{Q:ah->aa->Prop}:jU P ops anc o rest i fps N E ds H Q ci (ls bv)=fO P ops anc rest (i+1) fps ((bu N E ds).put o.dst undef) H Q:=by simp only[jU,Bool.true_eq_false,if_false]
def J1(P:ip)(ro:Option Nat)(ops:Array Oper)(o:Oper)(rest:List Oper)(a:ah)(H:aa)(Q:Exit->ah->aa->Prop):Prop:=wpOps P ro ops (o::rest) a H Q
def VW(P:ip)(ro:Option Nat)(ops:Array Oper)(o:Oper)(j:Nat)(want:Bool)(rest:List Oper)(N:Nat)(E:Env)(ds:List Deferred)(H:aa)(Q:Exit->ah->aa->Prop):Option Nat->Prop
 |some d=>if d<N then jY P ro ops o rest N E ds H Q want (E d) else J1 P ro ops {o with guard:=a9 (j,want)} rest (bu N E ds) H Q
 |none=>J1 P ro ops {o with guard:=a9 (j,want)} rest (bu N E ds) H Q
def HV{ops:Array Oper}{o:Oper}{j d:Nat}{want:Bool}{rest:List Oper}{Q:Exit->ah->aa->Prop}(h:d<N):VW P ro ops o j want rest N E ds H Q (a9 d)=jY P ro ops o rest N E ds H Q want (E d):=by simp only[VW,h,if_true]
def Vu{ops:Array Oper}{dst:Option Tmp}{b:Op}{ty:io}{pos:String}{after:Array Edge}{j:Nat}{want:Bool}{rest:List Oper}{Q:Exit->ah->aa->Prop} :
  wpOps P ro ops (⟨dst,b,ty,pos,after,a9 (j,want)⟩::rest) (bu N E ds) H Q=VW P ro ops ⟨dst,b,ty,pos,after,bi⟩ j want rest N E ds H Q (mN ops j):=by
 cases c:mN ops j with
 |none=>simp only[VW,J1]
 |some d =>
  simp only[VW];split
  .rename_i e;exact Tl c e
  .simp only[J1]
def K1(P:ip)(ops:Array Oper)(anc:List Nat)(o:Oper)(rest:List Oper)(i:Nat)(fps:List Fp)(a:ah)(H:aa)(Q:ah->aa->Prop):Prop:=fO P ops anc (o::rest) i fps a H Q
def Vg(P:ip)(ops:Array Oper)(anc:List Nat)(o:Oper)(j:Nat)(want:Bool)(rest:List Oper)(i:Nat)(fps:List Fp)(N:Nat)(E:Env)(ds:List Deferred)(H:aa)(Q:ah->aa->Prop):Option Nat->Prop
 |some d=>if d<N then jU P ops anc o rest i fps N E ds H Q want (E d) else K1 P ops anc {o with guard:=a9 (j,want)} rest i fps (bu N E ds) H Q
 |none=>K1 P ops anc {o with guard:=a9 (j,want)} rest i fps (bu N E ds) H Q
def Hv{ops:Array Oper}{anc:List Nat}{o:Oper}{j d:Nat}{want:Bool}{rest:List Oper}{i:Nat}{fps:List Fp}{Q:ah->aa->Prop}(h:d<N):Vg P ops anc o j want rest i fps N E ds H Q (a9 d)=jU P ops anc o rest i fps N E ds H Q want (E d):=by simp only[Vg,h,if_true]
def TG{ops:Array Oper}{anc:List Nat}{dst:Option Tmp}{b:Op}{ty:io}{pos:String}{after:Array Edge}{j:Nat}{want:Bool}{rest:List Oper}{i:Nat}{fps:List Fp}{Q:ah->aa->Prop} :
  fO P ops anc (⟨dst,b,ty,pos,after,a9 (j,want)⟩::rest) i fps (bu N E ds) H Q=Vg P ops anc ⟨dst,b,ty,pos,after,bi⟩ j want rest i fps N E ds H Q (mN ops j):=by
 cases c:mN ops j with
 |none=>simp only[Vg,K1]
 |some d =>
  simp only[Vg];split
  .rename_i e;exact Pl c e
  .simp only[K1]
def Rt{d:Nat}{v:go}(h:d<N):(bu N E ds).put (a9 d) v=bu N (cH E d v) ds:=dK N E ds d v h
def sk(N:Nat)(ds:List Deferred)(K:Env->aa->Prop)(Q:Exit->ah->aa->Prop):Exit->ah->aa->Prop:=Bw (fun c H1=>∃ b,c=bu N b ds/\K b H1) Q
def EE{K:Env->aa->Prop}{Q:Exit->ah->aa->Prop}:sk N ds K Q .normal (bu N E ds) H=∃ b,bu N E ds=bu N b ds/\K b H:=by simp only[sk,Bw]
def sS{K:Env->aa->Prop}{Q:Exit->ah->aa->Prop}{id:Nat}{a:ah}:sk N ds K Q (.exit id) a H=Q (.exit id) a H:=by simp only[sk,Bw]
def Ct{K:Env->aa->Prop}{Q:Exit->ah->aa->Prop}{a:ah}:sk N ds K Q .ret a H=Q .ret a H:=by simp only[sk,Bw]
def qG{K:Env->aa->Prop}{Q:Exit->ah->aa->Prop}{b:List PanicEntry}{a:ah}:sk N ds K Q (.panic b) a H=Q (.panic b) a H:=by simp only[sk,Bw]
def cp{σ:Type}(I:σ->Env->aa->Prop)(m:σ->Nat)(g:σ){b:Code}{Q:Exit->ah->aa->Prop}(p:I g E H)
  (h:∀ s E H,I s E H->gL P ro b (sk N ds (fun j q=>∃ c,m c<m s/\I c j q) Q) (bu N E ds) H):gL P ro (.loop b) Q (bu N E ds) H:=by
 refine Qa (I:=fun k a H=>∃ s E,a=bu N E ds/\m s=k/\I s E H) (k:=m g) ⟨g,E,rfl,rfl,p⟩ ?_;rintro k a H ⟨s,E,rfl,rfl,r⟩;refine oe b _ H (fun e t H1 o=>?_) (h s E H r)
 cases e with
 |normal =>obtain⟨j,rfl,c,l,n⟩:=o;exact⟨m c,l,c,j,rfl,rfl,n⟩
 |_=>exact o
def qY{f:FuncId}{x:i7}{args:List i7}{ts:Array io}{dst:Option Nat}{ops:Array Oper}{rest:List Oper}{ty:io}{pos:String}{after:Array Edge}{Q:Exit->ah->aa->Prop}{ca:List go}(hx:bj P N x=bv)(b:cy E x=.func (.func f) ⟨[]⟩ ⟨ca⟩)(c:args.all (bj P N)=bv)(e:aD P f=bv)
  (h:bF P f (args.map (cy E)++ca) H (FZ P ro ops rest (bu N E ds) dst Q)) :
  wpOps P ro ops (⟨dst,.call ⟨.value x,⟨args⟩,ts⟩,ty,pos,after,bi⟩::rest) (bu N E ds) H Q:=by
 rw[yf rfl rfl];simp only[Bv,cE,kH,cD c,aH hx,b,zA1,zA3,pA,fe,jh,e,if_true,zB6,zB2,mO];exact h
def ue{ops:Array Oper}{anc:List Nat}{d:Nat}{ty:io}{pos:String}{after:Array Edge}{rest:List Oper}{i:Nat}{fps:List Fp}{Q:ah->aa->Prop}{f:FuncId}{args:List i7}{ts:Array io}{v:go}{M:List Bl}(F:List Nat)(ha:args.all (bj P N)=bv)(hb:aD P f=bv)(hd:d<N)(hF:∀ n∈F,H.get n≠bi)
  (hc:∀ G:aa,G.next=H.next->(∀ n∈F,G.get n=H.get n)->bD P f (args.map (cy E)) G (.ok v) (ext G M)) (hm:∀ r∈fps,cL (anc.getD i 0) F [] (ae v++M.flatMap fun x=>ir x.l) r)
  (h:fO P ops anc rest (i+1) (⟨i,F,[],H.next,H.next+M.length⟩::fps) (bu N (cH E d v) ds) (ext H M) Q):oz P ops anc ⟨a9 d,.call ⟨.value (.func f),⟨args⟩,ts⟩,ty,pos,after,bi⟩ rest i fps (bu N E ds) H Q:=by
 have C:=aK H F;have b:(ext (H.restrict F) M).dirty=[]:=by rw[iH,C.2.2]
 have p:(ext (H.restrict F) M).next=H.next+M.length:=by rw[ai,C.1]
 have c:∀ j,j<M.length->(ext (H.restrict F) M).get (H.next+j)=M[j]?.map Bl.obj:=by intro j I;rw[<-C.1];exact fc I
 have J:∀(M:List Bl)(K g:aa)(m:Nat),K.next=m->(∀ j,j<M.length->g.get (m+j)=M[j]?.map Bl.obj)->∀ t,t=aa.cV K g m M.length->(⟨t.root,m+M.length,t.base,t.dirty⟩:aa)=ext K M:=by
  intro M
  induction M with
  |nil=>intro K g m D _ t y; subst D; subst y; rfl
  |cons x M O =>
   intro K g m D hg t y;have h0:=hg 0 nl;simp only[zD5,zG1,zB2]at h0;rw[zA9]at y;simp only[aa.cV,h0]at y
   have:=O (nw K x.e x.l x.o) g (m+1) (by rw[jH,D]) (fun j I=>by
    have:=hg (j+1) (by simpa using I);simp only[zH8]at this;rw[show m+1+j=m+(j+1) by omega]
    exact this) (aa.cV (nw K x.e x.l x.o) g (m+1) M.length) rfl
   have R:∀(A B:aa)(n k:Nat),A.root=B.root->A.base=B.base->A.dirty=B.dirty->(aa.cV A g n k).root=(aa.cV B g n k).root/\(aa.cV A g n k).base=(aa.cV B g n k).base/\(aa.cV A g n k).dirty=(aa.cV B g n k).dirty:=by
    intro A B n k
    induction k generalizing A B n with
    |zero=>exact fun S T U=>⟨S,T,U⟩
    |succ k V =>intro S T U;simp only[aa.cV];exact V _ _ _ (by simp only[aa.put_eq,S]) T U
   have X:=R (nw K x.e x.l x.o) (K.put m (a9 x.obj)) (m+1) M.length (by simp only[nw,aa.oK,aa.put_eq,D,Bl.obj]) rfl rfl;rw[ext,<-this,y,X.1,X.2.1,X.2.2,zA9,show m+(M.length+1)=m+1+M.length by omega]
 have Y:H.merge (ext (H.restrict F) M)=ext H M:=by unfold aa.merge;rw[b,p,zG2];simp only[aa.eR];exact J M H _ H.next rfl c _ rfl
 refine⟨F,v,ext (H.restrict F) M,?_,hF,(by rw[b]; simp),fun r hr=>jG ?_,?_⟩
 .refine gD (x:=.enter f (args.map (cy E))) (g:=H.restrict F) ?_ (hc _ C.1 (fun n Z=>by rw[aU,if_pos Z]));simp only[cE,kH,cD ha,aO,zA1,zA3,pA,fe,jh,hb,if_true,zB6,zC7,zB2]
 .have z:∀(k s:Nat),s+k=M.length->(dH (H.next+s) k).flatMap (fM (ext (H.restrict F) M))=(M.drop s).flatMap fun x=>ir x.l:=by
   intro k
   induction k with
   |zero=>intro s hs; rw[dH,zE9 lw]; rfl
   |succ k O =>
    intro s hs;have q:s<M.length:=by omega
    rw[dH,List.flatMap_cons,zH4 q,List.flatMap_cons];have:=O (s+1) lw;rw[show H.next+(s+1)=H.next+s+1 by omega]at this;rw[this];congr 1;simp only[fM,c s q,zB0 q,zB2,Bl.obj,rq,RV.n_ofList,RV.nb]
  have:=z M.length 0 lw;simp only[zD5,zD0]at this;rw[b];simp only[gZ,b,p,zG2,zB6,this];exact hm r hr
 .rw[Y,b,p];simp only[dK N E ds d v hd];exact h
end
structure Mod (W:List Nat) (H H1:aa):Prop where
 next:H.next<=H1.next
 base:H1.base=H.base
 get:∀ n,n<H.next->n∉W->H1.get n=H.get n
 sub:∀ n,n∈H.dirty->n∈H1.dirty
 dirty:∀ n,n∈H1.dirty->n∈H.dirty\/(n∈W/\n<H.base)
 gH:∀ n,n<H.base->n∉H1.dirty->H1.get n=H.get n
section
variable{P:ip}{H H1 H2:aa}{W:List Nat}{L:List Bl}
def Mod.refl:Mod W H H:=⟨zA4 _,rfl,fun _ _ _=>rfl,fun _ h=>h,fun _ h=>.inl h,fun _ _ _=>rfl⟩
def Mod.trans(a:Mod W H H1)(b:Mod W H1 H2):Mod W H H2 where
 next:=zC4 a.next b.next
 base:=b.base.trans a.base
 get:=fun n c e=>(b.get n (zE0 c a.next) e).trans (a.get n c e)
 sub:=fun n h=>b.sub n (a.sub n h)
 dirty:=fun n h=>(b.dirty n h).elim (a.dirty n) (fun h=>.inr ⟨h.1,a.base▸h.2⟩)
 gH:=fun n c g=>(b.gH n (by rw[a.base]; exact c) g).trans (a.gH n c (fun h=>g (b.sub n h)))
def Mod.mono{W':List Nat}(a:Mod W H H1)(h:∀ n∈W,n∈W'):Mod W' H H1 :=
 ⟨a.next,a.base,fun n c e=>a.get n c (fun b=>e (h n b)),a.sub,fun n c=>(a.dirty n c).imp id (fun b=>⟨h n b.1,b.2⟩),a.gH⟩
def Mod.ext(c:H.base<=H.next):Mod W H (Go.Ax.ext H L) :=
 ⟨by rw[ai]; omega,Ai,fun n b _=>bL b,fun n h=>by rw[iH]; exact h,fun n h=>by rw[iH]at h; exact .inl h,fun n b _=>bL lw⟩
def UF{n off:Nat}{vs:List go}{m:Nat}(h:m∈H.dirty):m∈(uw H n off vs).dirty:=by
 unfold uw;split
 .simp only[aa.eT];split
  .exact zB9 _ h
  .exact h
 .exact h
def Mod.uw{n off:Nat}{vs:List go}(g:n∈W):Mod W H (Go.Ax.uw H n off vs) where
 next:=by rw[cw]; exact zA4 _
 base:=S9
 get:=fun m _ c=>iV (fun e=>c (e▸g))
 sub:=fun m h=>UF h
 dirty:=fun m h=>by
  rcases QU h with h|⟨rfl,h⟩
  .exact .inl h
  .exact .inr ⟨g,h⟩
 gH:=fun m c b=>by
  by_cases e:m=n
  .subst e;unfold Go.Ax.uw at b ⊢;split at b
   .simp only[aa.eT,bd c,if_true]at b;exact absurd zF2 b
   .rfl
  .exact iV e
def Mod.bk(m:Mod W H H1){n:Nat}(b:n<H.next)(c:n∉W):Go.Ax.bk H1 n=Go.Ax.bk H n:=bg (m.get n b c)
def Mod.lt(m:Mod W H H1){n:Nat}(b:n<H.next):n<H1.next:=zE0 b m.next
def Mod.ok(m:Mod W H H1)(h:H.base<=H.next):H1.base<=H1.next:=by have:=m.next; rw[m.base]; omega
def uk(g:aa):∀(l:List Nat)(H:aa)(n:Nat),n∈(aa.eR H g l).dirty->n∈H.dirty\/(n∈l/\n<H.base)
 |[],_,_,h=>.inl h
 |m::r,H,n,h=>by
  rcases uk g r _ n h with h|h
  .simp only[aa.eT]at h;split at h
   .rename_i b;rcases zA8.1 h with rfl|h
    .exact .inr ⟨zF2,bT b⟩
    .exact .inl h
   .exact .inl h
  .exact .inr ⟨zB9 _ h.1,h.2⟩
def xv(H g:aa)(n:Nat)(h:n∈(H.merge g).dirty):n∈H.dirty\/(n∈g.dirty/\n<H.base):=by have k:=(ng g (g.next-H.next) H.next (aa.eR H g g.dirty)).2;refine uk g g.dirty H n ?_;rw[<-k];exact h
def mi{N:Nat}{E:Env}{ds:List Deferred}{ops:Array Oper}{anc:List Nat}{dst:Option Nat}{ty:io}{pos:String}{after:Array Edge}{rest:List Oper}{i:Nat}{fps:List Fp}{Q:ah->aa->Prop}{f:FuncId}{args:List i7}{ts:Array io}{v:go}{g:aa}
  (F:List Nat) (I:H.base<=H.next) (J:args.all (bj P N)=bv) (M:aD P f=bv) (O:∀ n∈F,H.get n≠bi) (m:∀ n∈F,n<H.next) (R:∀ n∈W,n∈F)
  (S:bD P f (args.map (cy E)) (H.restrict F) (.ok v) g) (e:Mod W (H.restrict F) g)
  (T:∀ r∈fps,(anc.getD i 0).testBit r.i=bv\/(r.hi<=r.lo/\(∀ n∈r.W,n∉F)/\(∀ n∈r.F,n∉W)))
  (h:∀ o D,Mod W H o->(∀ n∈F,o.get n=g.get n)->(∀ n,H.next<=n->n<g.next->o.get n=g.get n)->o.next=g.next->(∀ n∈D,n∈W)->fO P ops anc rest (i+1) (⟨i,F,D,H.next,g.next⟩::fps) ((bu N E ds).put dst v) o Q) :
  oz P ops anc ⟨dst,.call ⟨.value (.func f),⟨args⟩,ts⟩,ty,pos,after,bi⟩ rest i fps (bu N E ds) H Q:=by
 have s:=aK H F
 have p:∀ n∈g.dirty,n∈W:=by
  intro n U;rcases e.dirty n U with h|h
  .rw[s.2.2]at h; cases h
  .exact h.1
 have b:H.next<=g.next:=by have:=e.next; rw[s.1]at this; exact this
 have t:∀ n∈F,(H.merge g).get n=g.get n:=by
  intro n k;by_cases c:n∈g.dirty
  .exact l9 H g b (.inl c)
  .rw[gu H g b]
   .rw[e.gH n (by rw[s.2.1]; exact m n k) c,aU,if_pos k]
   .rintro (h'|h')
    .exact c h'
    .have:=m n k; omega
 have j:=kP H g;refine⟨F,v,g,?_,O,fun n h'=>R n (p n h'),fun r V=>jG ?_,?_⟩
 .refine gD (x:=.enter f (args.map (cy E))) (g:=H.restrict F) ?_ S;simp only[cE,kH,cD J,aO,zA1,zA3,pA,fe,jh,M,if_true,zB6,zC7,zB2]
 .rcases T r V with h'|⟨G,y,X⟩
  .exact .inl h'
  .exact .inr ⟨y,fun n z A=>X n z (p n A),fun q=>absurd q lw⟩
 .refine h (H.merge g) g.dirty ⟨by rw[j.1]; exact b,j.2.1,fun n Y B=>?_,j.2.2.1,fun n l=>?_,fun n C l=>?_⟩ t (fun n G y=>l9 H g b (.inr ⟨G,y⟩)) j.1 p
  .rw[gu H g b];rintro (h'|h')
   .exact B (p n h')
   .omega
  .rcases xv H g n l with h'|h'
   .exact .inl h'
   .exact .inr ⟨p n h'.1,h'.2⟩
  .by_cases c:n∈g.dirty
   .exact absurd (j.2.2.2 n c C) l
   .rw[gu H g b];rintro (h'|h')
    .exact c h'
    .omega
def Mod.step{W':List Nat}(a:Mod W H H1)(b:Mod W' H1 H2)(l:H.base<=H.next)(h:∀ n∈W',n∈W\/H.next<=n):Mod W H H2 where
 next:=zC4 a.next b.next
 base:=b.base.trans a.base
 get:=fun n c g=>(b.get n (zE0 c a.next) (fun e=>(h n e).elim g lw)).trans (a.get n c g)
 sub:=fun n h=>b.sub n (a.sub n h)
 dirty:=fun n e=>by
  rcases b.dirty n e with e|⟨m,j⟩
  .exact a.dirty n e
  .rw[a.base]at j;exact .inr ⟨(h n m).elim id lw,j⟩
 gH:=fun n c k=>(b.gH n (by rw[a.base]; exact c) k).trans (a.gH n c (fun h=>k (b.sub n h)))
def Mod.cH{n:Nat}{o:Option dO}(c:n∈W):Mod W H (H.cH n o) where
 next:=zA4 _
 base:=rfl
 get:=fun m _ b=>by
  have cn:m≠n:=by rintro rfl; exact b c
  rw[aa.fC,if_neg cn]
 sub:=fun m h=>by
  simp only[aa.eT];split
  .exact zB9 _ h
  .exact h
 dirty:=fun m h=>by
  simp only[aa.eT]at h;split at h
  .rename_i j;rcases zA8.1 h with rfl|h
   .exact .inr ⟨c,bT j⟩
   .exact .inl h
  .exact .inl h
 gH:=fun m b g=>by
  by_cases e:m=n
  .subst e;simp only[aa.eT,bd b,if_true]at g;exact absurd zF2 g
  .rw[aa.fC,if_neg e]
def Mod.new{o:dO}(b:H.base<=H.next):Mod W H (H.new o) :=
 ⟨Nat.le_succ _,rfl,fun n c _=>by rw[aa.fk,if_neg lw],fun _ h=>h,fun _ h=>.inl h,fun n c _=>by rw[aa.fk,if_neg lw]⟩
def Mod.one(w:WF P H)(m:Mod [] H H1){k:Nat}{b:Bl}(O:H.next<=k)(R:Go.Ax.bk H1 k=a9 b)(I:aT H.next b.l=bv):Rn (fun n=>if n<H.next then n else k) H H1 (Go.Ax.ext H [b]):=by
 have p:∀ n s,H.next<=n->(Go.Ax.ext H [b]).get n=a9 s->n=H.next/\s=b.obj:=by
  intro n s hn h;by_cases hi:n=H.next
  .subst hi;have:=fc (L:=[b]) (H:=H) (i:=0) nl;simp only[zD5,zG1,zB2]at this;rw[this]at h;exact⟨rfl,(Option.some.inj h).symm⟩
  .rw[qc pp]at h;have:=(w.dom _ _ h).1;omega
 have q:∀(l:List go),aT H.next l=bv->∀ j,j<l.length->aV H.next (l.getD j undef)=true:=by
  intro l
  induction l with
  |nil=>intro _ j g; simp at g
  |cons x r S =>
   intro C j g;simp only[aT,zA6]at C
   cases j with
   |zero=>simpa using C.1
   |succ j =>have:=S C.2 j (by simpa using g);simpa using this
 refine⟨fun n hn=>if_pos hn,by rw[ai]; omega,by rw[Ai],fun n h=>by rw[iH]; exact h,fun n h=>by rw[iH]; exact (m.dirty n h).elim id (fun h=>by cases h.1),?_,?_,?_,fun n T=>⟨fun h=>.inl (by rw[iH]at h; exact h),fun _=>bL (by
  obtain⟨o,U,_⟩:=T
  exact (w.dom n o U).1)⟩⟩
 .intro n s h;rcases zC0 n H.next with hn|hn
  .rw[bL hn]at h;exact .inl ⟨hn,h,by rw[m.get n hn nl,h]⟩
  .obtain⟨rfl,rfl⟩:=p n s hn h;obtain⟨rv,y,D,A⟩:=sw R;refine .inr ⟨by rw[ai]; simp,?_,fun h=>absurd w.base lw,fun h=>absurd h lw,fun _=>by rw[if_neg lw]; exact O,?_⟩
   .simp only[Bl.obj,l6,RV.n_ofList];intro j g;rw[RV.cM,ai];exact cU lw _ (q _ I j g)
   .rw[if_neg (Nat.lt_irrefl _)];unfold bO at y;split at y
    .rename_i c e z o v F;cases y;refine⟨_,F,⟨c,b.e,0,z,#[],0,rfl,rfl⟩,rfl,?_,?_⟩
     .simp only[Bl.obj,RV.n_ofList]; exact D
     .intro j g;simp only[Bl.obj,RV.n_ofList]at g;simp only[Bl.obj,RV.cM];rw[A j g,ym (N:=H.next) (fun n hn=>if_pos hn) _ (q _ I j g)]
    .cases y
 .intro n G h;have hn:n<H.next:=zE0 G w.base;rw[bL hn]at h;exact .inl h
 .have t:∀ n,(Go.Ax.ext H [b]).get n≠bi->n<H.next\/n=H.next:=by
   intro n hn;rcases zC0 n H.next with h|h
   .exact .inl h
   .cases A:(Go.Ax.ext H [b]).get n with
    |none=>exact absurd A hn
    |some s=>exact .inr (p n s h A).1
  intro V X Y hn B;rcases t V Y with J|rfl<;>rcases t X hn with M|rfl
  .rw[if_pos J,if_pos M]at B; exact B
  .rw[if_pos J,if_neg (Nat.lt_irrefl _)]at B; omega
  .rw[if_pos M,if_neg (Nat.lt_irrefl _)]at B; omega
  .rfl
variable{f:FuncId}{args:List go}
def j8{b:Bl}{n c:Nat}{s:Option Nat}(h:WF P H->aT H.next args=bv->bF P f args H fun out H1=>∃ k,out=.ok (lm (a9 ⟨k,0,s⟩) n c)/\H.next<=k/\Go.Ax.bk H1 k=a9 b/\Mod [] H H1)(g:WF P H->aT H.next args=bv->aT H.next b.l=bv) :
  bD P f args H (.ok (lm (a9 ⟨H.next,0,s⟩) n c)) (Go.Ax.ext H [b]):=by
 intro ρ w r e;obtain⟨_,H1,j,k,rfl,o,p,m⟩:=h r.wf e;refine bD.rn (σ:=fun n=>if n<H.next then n else k) (H1:=H1) ?_ (fun w=>m.one w o p (g r.wf e)) (by rw[ai]; exact bd (zF3 _)) ρ w r e;simp only[mq,Nat.lt_irrefl,if_false];exact j
end
section
variable{P:ip}{ro:Option Nat}{H:aa}{N:Nat}{E:Env}{ds:List Deferred}{L:List Bl}
def si(P:ip)(l:Nat)(args:List go)(H:aa)(R:Out->aa->Prop):Prop :=
 match wC H l args with
 |some (.round rd)=>IC P rd H R
 |_=>False
def Sg{l:Nat}{x:i7}{args:List i7}{ts:Array io}{dst:Option Nat}{ops:Array Oper}{rest:List Oper}{ty:io}{pos:String}{after:Array Edge}{Q:Exit->ah->aa->Prop}(hx:bj P N x=bv)(b:cy E x=.func (.yield l) ⟨[]⟩ ⟨[]⟩)(c:args.all (bj P N)=bv)
  (h:si P l (args.map (cy E)) H (FZ P ro ops rest (bu N E ds) dst Q)) :
  wpOps P ro ops (⟨dst,.call ⟨.value x,⟨args⟩,ts⟩,ty,pos,after,bi⟩::rest) (bu N E ds) H Q:=by
 rw[yf rfl rfl];unfold si at h;split at h
 .rename_i rd e;simp only[Bv,cE,kH,cD c,aH hx,b,zA1,zA3,pA,fe,zB6,e,zB2,mO];exact h
 .exact h.elim
def si.mono{l:Nat}{args:List go}{R b:Out->aa->Prop}(h:si P l args H R)(c:∀ out H1,R out H1->b out H1):si P l args H b:=by
 unfold si at *
 split at h
 .obtain⟨out,H1,e,g⟩:=h;exact⟨out,H1,e,c _ _ g⟩
 .exact h.elim
def gW(H:aa)(l:Nat)(b:Loop)(e:RV):Prop:=∃ o,H.get l=a9 ⟨.loop b,o,e⟩
def gW.get{l:Nat}{b:Loop}{e:RV}(h:gW H l b e):getLoop H l=a9 (b,e):=by obtain⟨o,h⟩:=h;simp only[getLoop,h]
def gW.of{G:aa}{l:Nat}{b:Loop}{e:RV}(h:gW H l b e)(c:G.get l=H.get l):gW G l b e:=by obtain⟨o,h⟩:=h;exact⟨o,c.trans h⟩
def gW.set(l:Nat)(b:Loop)(e:RV):gW (cu H l b e) l b e:=⟨ci,by rw[cu,aa.fC,if_pos rfl]⟩
def M1(b:P.follows .mixedOrders=bv){rd:Round}{R:Out->aa->Prop}
  (h:gL P (a9 rd.l) rd.assign (fun e o H2=>e=.normal/\∃ k le,getLoop H2 rd.l=a9 (k,le)/\k.state=.ready /\
   gL P (a9 rd.l) rd.body (fun p _ m=>∃ j c g,kU p=a9 j/\getLoop m rd.l=a9 (c,g)/\R (.ok (ls j.isNone)) (cu m rd.l {c with state:=if j.isNone then .ready else .done,pending:=j} g)) o (cu H2 rd.l {k with state:=.busy} le)) ⟨rd.env,[]⟩ H):IC P rd H R:=by
 obtain⟨e,o,H2,q,rfl,k,le,r,s,t⟩:=vt b _ _ _ _ h;obtain⟨p,z,m,n,j,c,g,v,x,y⟩:=vt b _ _ _ _ t;exact⟨_,_,Al q r s n v x,y⟩
def UR(P:ip)(l:Nat)(b:Code)(R:Out -> aa -> Prop) : Exit -> ah -> aa -> Prop := fun e m H2 => e = .normal /\ ∃ h le, getLoop H2 l = a9 (h, le) /\ h.state = .ready /\
   gL P (a9 l) b (fun n _ k=>∃ j c g,kU n=a9 j/\getLoop k l=a9 (c,g)/\R (.ok (ls j.isNone)) (cu k l {c with state:=if j.isNone then .ready else .done,pending:=j} g)) m (cu H2 l {h with state:=.busy} le)
def Uj(l:Nat)(R:Out->aa->Prop):Exit->ah->aa->Prop:=fun g _ e=>∃ j b c,kU g=a9 j/\getLoop e l=a9 (b,c)/\R (.ok (ls j.isNone)) (cu e l {b with state:=if j.isNone then .ready else .done,pending:=j} c)
def Hy{l:Nat}{b:Code}{R:Out->aa->Prop}{a:ah}:UR P l b R .normal a H=∃ c le,getLoop H l=a9 (c,le)/\c.state=.ready/\gL P (a9 l) b (Uj l R) a (cu H l {c with state:=.busy} le):=by simp only[UR,true_and];rfl
def Hu{l:Nat}{R:Out->aa->Prop}{a:ah}:Uj l R .normal a H=∃ b c,getLoop H l=a9 (b,c)/\R (.ok (ls bv)) (cu H l {b with state:=.ready,pending:=bi} c):=by simp[Uj,kU]
def Q8(b:P.follows .mixedOrders=bv){l d:Nat}{ps:List Tmp}{assign body:Code}{args:List go}{g:Env}{R:Out->aa->Prop}
  (e:gW H l {state:=.ready,pending:=bi,fn:=0,tmps:=#[],params:=⟨ps⟩,assign,body,defers:=d} (lj N E)) (c:args.length=ps.length) (j:kT ps args (lj N E)=lj N g)
  (h:gL P (a9 l) assign (UR P l body R) (bu N g []) H):si P l args H R:=by
 obtain⟨o,e⟩:=e;unfold si wC;rw[e];simp only[c,if_true];refine M1 b ?_;rw[j];exact h
def Sb{t u:Tmp}{v w:go}(h:t<N)(c:u<N):kT [t,u] [v,w] (lj N E)=lj N (cH (cH E t v) u w):=by have e:Nat.blt t (lj N E).n=true:=bd h;have b:Nat.blt u (lj N (cH E t v)).n=true:=bd c;simp only[kT,e,if_true,AS N E t v h,b];exact AS N _ u w c
def da{c:Code}{Q:Exit->ah->aa->Prop}(h:∀ b,b=E->gL P ro c Q (bu N b ds) H):gL P ro c Q (bu N E ds) H:=h E rfl
def zc(H:aa)(N:Nat)(E:Env)(ds:List Deferred)(ps:List Tmp)(b c:Code):aa:=(H.new ⟨.deferred (a9 []),ci,⟨[],0⟩⟩).new (lO (bu N E ds) ⟨ps⟩ b c H.next)
theorem IA{ps:List Tmp}{b c:Code}:(zc H N E ds ps b c).next=H.next+2:=rfl
def IF{ps:List Tmp}{assign body:Code}:gW (zc H N E ds ps assign body) (H.next+1) {state:=.ready,pending:=bi,fn:=0,tmps:=#[],params:=⟨ps⟩,assign,body,defers:=H.next} (lj N E):=by refine⟨ci,?_⟩;unfold zc;rw[aa.fk,if_pos (show H.next+1=(H.new ⟨.deferred (a9 []),ci,⟨[],0⟩⟩).next from rfl)];rfl
def M9{ps:List Tmp}{b c:Code}:(zc H N E ds ps b c).get H.next=a9 ⟨.deferred (a9 []),ci,⟨[],0⟩⟩:=by unfold zc;rw[aa.fk,if_neg (show H.next≠(H.new ⟨.deferred (a9 []),ci,⟨[],0⟩⟩).next by simp only[aa.oK]; omega),aa.fk,if_pos rfl]
def Nn{W:List Nat}{ps:List Tmp}{b c:Code}(e:H.base<=H.next):Mod W H (zc H N E ds ps b c) :=
 (Mod.new e).trans (Mod.new (show H.base<=H.next+1 by omega))
def PY(N:Nat)(E:Env)(ds:List Deferred)(l d:Nat)(Q:Exit->ah->aa->Prop):Out->aa->Prop:=fun out H2=>match out with
 |.ok _=>∃ b le e,getLoop H2 l=a9 (b,le)/\b.state≠.busy/\B2 b.pending=a9 e/\Q e (bu N E ({target:=.collected d,args:=#[]}::ds)) (cu H2 l {b with state:=.exhausted} le)
 |.error c=>Q (.panic c) (bu N E ({target:=.collected d,args:=#[]}::ds)) H2
def SM{t:Tmp}{ps:List Tmp}{b c:Code}{f:FuncId}{ca:List go}{Q:Exit->ah->aa->Prop}(g:t<N)(j:E t=.func (.func f) ⟨[]⟩ ⟨ca⟩)(k:aD P f=bv)
  (h:bF P f (.func (.yield (H.next+1)) ⟨[]⟩ ⟨[]⟩::ca) (zc H N E ds ps b c) (PY N E ds (H.next+1) H.next Q)):gL P bi (.rangeFunc (.tmp t) ⟨ps⟩ b c) Q (bu N E ds) H:=by
 simp only[gL,vA N E ds t g,j,tf,enterLoop,fe,jh,k,if_true,zB6,zE3];refine h.mono fun out H2 e=>?_
 cases out with
 |ok v=>exact e
 |error l=>exact e
def OZ{t:Tmp}{ps:List Tmp}{assign body:Code}{f:FuncId}{ca:List go}{Q:Exit->ah->aa->Prop}(b:H.base<=H.next)(c:t<N)(e:E t=.func (.func f) ⟨[]⟩ ⟨ca⟩)(g:aD P f=bv)
  (h:∀ K,gW K (H.next+1) {state:=.ready,pending:=bi,fn:=0,tmps:=#[],params:=⟨ps⟩,assign,body,defers:=H.next} (lj N E)->K.get H.next=a9 ⟨.deferred (a9 []),ci,⟨[],0⟩⟩->(∀ W,Mod W H K)->K.next=H.next+2 ->
   bF P f (.func (.yield (H.next+1)) ⟨[]⟩ ⟨[]⟩::ca) K (PY N E ds (H.next+1) H.next Q)):gL P bi (.rangeFunc (.tmp t) ⟨ps⟩ assign body) Q (bu N E ds) H :=
 SM c e g (h _ IF M9 (fun _=>Nn b) IA)
def LX{fn:Func}{a:ah}{R:Out->aa->Prop}{d:Nat}{ds:List Deferred}(h:∃ o v,H.get d=a9 ⟨.deferred (a9 []),o,v⟩)(b:ft P fn a ds .returning (H.cH d (a9 ⟨.deferred bi,ci,⟨[],0⟩⟩)) R) :
  ft P fn a ({target:=.collected d,args:=#[]}::ds) .returning H R:=⟨h,b⟩
def Qs{f:FuncId}{first b:List i7}{ops:Array Oper}{rest:List Oper}{d:Nat}{ty:io}{pos:String}{after:Array Edge}{Q:Exit->ah->aa->Prop}(c:first.all (bj P N)=bv)(e:b.all (bj P N)=bv)(g:d<N) :
  wpOps P ro ops (⟨a9 d,.makeFunc (.func f) ⟨first⟩ ⟨b⟩,ty,pos,after,bi⟩::rest) (bu N E ds) H Q=wpOps P ro ops rest (bu N (cH E d (.func (.func f) ⟨first.map (cy E)⟩ ⟨b.map (cy E)⟩)) ds) H Q:=by
 rw[yf rfl rfl];simp only[Bv,cE,Ht,cD c,cD e,zA1,zA3,Ck,mO,FZ,dK N E ds d _ g]
def AV:bj P N (.const .nilFunc)=true:=by simp only[bj,af]
def nc{l:List go}(h:l.all one=bv)(a b:Nat):((l.drop a).take b).all one=true:=by rw[zC3]at h ⊢;exact fun x hx=>h x (zE4 (zE2 hx))
def kO{sz cnt n off len cap:Nat}{s:Option Nat}{b:Bl}(h:rk H n=a9 b)(c:off+cnt*sz<=b.l.length):cK H sz cnt (lm (a9 ⟨n,off,s⟩) len cap)=a9 ((b.l.drop off).take (cnt*sz)):=by
 obtain⟨rv,g,j,k⟩:=Oq h;by_cases e:cnt=0
 .subst e;rw[zH1,List.take_zero];simp only[cK,if_true]
 simp only[cK,if_neg e,g,zA1,zA3];rw[if_pos (by rw[zE8]; omega),Va.ky j k _ _ c]
def fF{sz cnt n off len cap:Nat}{s:Option Nat}{b:Bl}(h:bk H n=a9 b)(c:off+cnt*sz<=b.l.length):cK H sz cnt (lm (a9 ⟨n,off,s⟩) len cap)=a9 ((b.l.drop off).take (cnt*sz)):=kO (iq h) c
def P5{st xt e:io}{sz by1 n off cnt cap:Nat}{s:Option Nat}{z:go}{b:Bl}(p:P.underlying st=a9 (.slice e))(h:br P e=a9 sz)(j:bytesOf P e=a9 by1)(q:zeroOf P e=a9 z)(k:z.cells.toList.length=sz)(hi:fE P xt=a9 ci)
  (r:rk H n=a9 b) (m:off+cnt*sz<=b.l.length) (c:b.l.all one=bv) (v:0<cnt) (o:small cnt by1=bv) :
  aE P H .append ⟨[st,xt]⟩ [lm bi 0 0,lm (a9 ⟨n,off,s⟩) cnt cap]=(cJ H e ((b.l.drop off).take (cnt*sz)) bv).map fun g=>(lm (a9 ⟨H.next,0,bi⟩) cnt cnt,g):=by
 have t:((b.l.drop off).take (cnt*sz)).length=cnt*sz:=by simp; omega
 simp only[aE,e7,p,h,j,q,hi,zA1,zA3,jD,kO r m,t,k,zC2,o,and_self,if_true,dv];rw[if_neg lw];simp only[cK,zA3,zB4,zH1,List.all_nil,nc c,decide_true,zD8,if_true,zB6];cases cJ H e ((b.l.drop off).take (cnt*sz)) bv<;>rfl
def Li{st xt e:io}{sz by1 n off cnt cap:Nat}{s:Option Nat}{z:go}{b:Bl}(p:P.underlying st=a9 (.slice e))(h:br P e=a9 sz)(j:bytesOf P e=a9 by1)(q:zeroOf P e=a9 z)(k:z.cells.toList.length=sz)(hi:fE P xt=a9 ci)
  (r:bk H n=a9 b) (m:off+cnt*sz<=b.l.length) (c:b.l.all one=bv) (t:0<cnt) (o:small cnt by1=bv) :
  aE P H .append ⟨[st,xt]⟩ [lm bi 0 0,lm (a9 ⟨n,off,s⟩) cnt cap]=(cJ H e ((b.l.drop off).take (cnt*sz)) bv).map fun g=>(lm (a9 ⟨H.next,0,bi⟩) cnt cnt,g):=P5 p h j q k hi (iq r) m c t o
def MU{st xt e:io}{sz by1 m k n off cnt cap:Nat}{s:Option Nat}{z:go}{b:Bl}{gO:List go}(A:P.underlying st=a9 (.slice e))(h:br P e=a9 sz)(j:bytesOf P e=a9 by1)(B:zeroOf P e=a9 z)(o:z.cells.toList.length=sz)(hi:fE P xt=a9 ci)
  (y:bk H m=a9 ⟨e,bv,gO⟩) (C:gO.length=k*sz) (p:gO.all one=bv)
  (D:rk H n=a9 b) (q:off+cnt*sz<=b.l.length) (c:b.l.all one=bv) (M:0<cnt) (r:small (k+cnt) by1=bv) :
  aE P H .append ⟨[st,xt]⟩ [lm (a9 ⟨m,0,bi⟩) k k,lm (a9 ⟨n,off,s⟩) cnt cap]=(cJ (H.cH m bi) e (gO++(b.l.drop off).take (cnt*sz)) bv).map fun g=>(lm (a9 ⟨H.next,0,bi⟩) (k+cnt) (k+cnt),g):=by
 have F:((b.l.drop off).take (cnt*sz)).length=cnt*sz:=by simp; omega
 obtain⟨rv,t,G,I⟩:=sw y;have v:jq H m=a9 true:=by obtain⟨O,R,J⟩:=eI t;simp only[jq,J]
 simp only at t G I;have x:=fF (sz:=sz) (cnt:=k) (off:=0) (len:=k) (cap:=k) (s:=bi) y (by simp only; omega);simp only[zD0]at x;rw[zD4 lw]at x;simp only[aE,e7,A,h,j,B,hi,zA1,zA3,jD,kO D q,F,o,r,and_self,if_true,dv];rw[if_neg lw];simp only[x,zA3,C,p,nc c,decide_true,zD8,if_true,fR,cX,v,zB2,zD1,t];rw[if_pos ⟨trivial,by rw[zE8]; omega⟩];cases cJ (H.cH m bi) e (gO++(b.l.drop off).take (cnt*sz)) bv<;>rfl
def Gn{st xt e:io}{sz by1 m k n off cnt cap:Nat}{s:Option Nat}{z:go}{b:Bl}{gO:List go}(t:P.underlying st=a9 (.slice e))(h:br P e=a9 sz)(j:bytesOf P e=a9 by1)(v:zeroOf P e=a9 z)(o:z.cells.toList.length=sz)(hi:fE P xt=a9 ci)
  (x:bk H m=a9 ⟨e,bv,gO⟩) (y:gO.length=k*sz) (p:gO.all one=bv)
  (A:bk H n=a9 b) (q:off+cnt*sz<=b.l.length) (c:b.l.all one=bv) (B:0<cnt) (r:small (k+cnt) by1=bv) :
  aE P H .append ⟨[st,xt]⟩ [lm (a9 ⟨m,0,bi⟩) k k,lm (a9 ⟨n,off,s⟩) cnt cap]=(cJ (H.cH m bi) e (gO++(b.l.drop off).take (cnt*sz)) bv).map fun g=>(lm (a9 ⟨H.next,0,bi⟩) (k+cnt) (k+cnt),g):=MU t h j v o hi x y p (iq A) q c B r
def I7{st xt e:io}{sz by1 m k n off cnt cap:Nat}{s:Option Nat}{z:go}{b bm:Bl}(y:P.underlying st=a9 (.slice e))(j:br P e=a9 sz)(o:bytesOf P e=a9 by1)(A:zeroOf P e=a9 z)(p:z.cells.toList.length=sz)(hi:fE P xt=a9 ci)
  (B:bk H m=a9 bm) (F:k*sz<=bm.l.length) (q:bm.l.all one=bv)
  (C:rk H n=a9 b) (r:off+cnt*sz<=b.l.length) (h:b.l.all one=bv) (G:0<cnt) (t:small (k+cnt) by1=bv) :
  aE P H .append ⟨[st,xt]⟩ [lm (a9 ⟨m,0,a9 0⟩) k k,lm (a9 ⟨n,off,s⟩) cnt cap]=(cJ H e (bm.l.take (k*sz)++(b.l.drop off).take (cnt*sz)) bv).map fun g=>(lm (a9 ⟨H.next,0,bi⟩) (k+cnt) (k+cnt),g):=by
 have D:((b.l.drop off).take (cnt*sz)).length=cnt*sz:=by simp; omega
 have v:(bm.l.take (k*sz)).length=k*sz:=by simp; omega
 have x:=fF (sz:=sz) (cnt:=k) (off:=0) (len:=k) (cap:=k) (s:=a9 0) B lw;simp only[zD0]at x;have c:=nc q 0 (k*sz);simp only[zD0]at c;simp only[aE,e7,y,j,o,A,hi,zA1,zA3,jD,kO C r,D,p,t,and_self,if_true,dv];rw[if_neg lw];simp only[x,zA3,v,c,nc h,decide_true,zD8,if_true,fR,cX];cases cJ H e (bm.l.take (k*sz)++(b.l.drop off).take (cnt*sz)) bv<;>rfl
def qZ{st xt e:io}{sz by1 m k n off cnt cap:Nat}{s:Option Nat}{z:go}{b bm:Bl}(t:P.underlying st=a9 (.slice e))(h:br P e=a9 sz)(j:bytesOf P e=a9 by1)(v:zeroOf P e=a9 z)(o:z.cells.toList.length=sz)(hi:fE P xt=a9 ci)
  (x:bk H m=a9 bm) (y:k*sz<=bm.l.length) (p:bm.l.all one=bv)
  (A:bk H n=a9 b) (q:off+cnt*sz<=b.l.length) (c:b.l.all one=bv) (B:0<cnt) (r:small (k+cnt) by1=bv) :
  aE P H .append ⟨[st,xt]⟩ [lm (a9 ⟨m,0,a9 0⟩) k k,lm (a9 ⟨n,off,s⟩) cnt cap]=(cJ H e (bm.l.take (k*sz)++(b.l.drop off).take (cnt*sz)) bv).map fun g=>(lm (a9 ⟨H.next,0,bi⟩) (k+cnt) (k+cnt),g):=I7 t h j v o hi x y p (iq A) q c B r
def dp(H:aa)(m:Nat):aa:=H.cH m bi
theorem jN{m:Nat}:(dp H m).next=H.next:=rfl
def T4{m n:Nat}(h:n≠m):(dp H m).get n=H.get n:=by rw[dp,aa.fC,if_neg h]
def Jx{m:Nat}(h:m<H.next):(ext H L).cH m bi=ext (dp H m) L:=kL h
def qB{l:Nat}{b:Loop}{e:RV}(h:l<H.next):cu (ext H L) l b e=ext (cu H l b e) L:=kL h
theorem D7{l:Nat}{b:Loop}{e:RV}:(cu H l b e).next=H.next:=rfl
def kn:Code->Option (Code × Code)
 |.seq x y=>(match kn x with
  |some r=>a9 r
  |none=>kn y)
 |.cond _ x y=>(match kn x with
  |some r=>a9 r
  |none=>kn y)
 |.block _ b=>kn b
 |.scope b=>kn b
 |.loop b=>kn b
 |.rangeFunc _ _ a b=>a9 (a,b)
 |_=>bi
def T5:Option Bl->List Nat
 |some x=>ir x.l
 |none=>[]
def KA{e:io}{o:Bool}{l:List go}:T5 (a9 ⟨e,o,l⟩)=ir l:=by simp only[T5]
def Q6{b i:Nat}(h:H.next=b)(hi:i<L.length):fM (ext H L) (b+i)=T5 L[i]?:=by rw[Tg h hi];cases L[i]?<;>rfl
def UL(n:Nat):Option TypeDesc->Option go
 |some (.slice _)=>a9 (goInt n)
 |some (.array m _)=>a9 (goInt m)
 |_=>bi
def Uh(n:Nat):Option TypeDesc->Option go
 |some (.slice _)=>a9 (goInt n)
 |_=>bi
def zq{n:Nat}{e:io}:UL n (a9 (.slice e))=a9 (goInt n):=by simp only[UL]
def zw{n:Nat}{e:io}:Uh n (a9 (.slice e))=a9 (goInt n):=by simp only[Uh]
def J8{t:io}{x:Option Addr}{n c:Nat}:aE P H .len ⟨[t]⟩ [.slice x n c]=(UL n (P.underlying t)).map fun v=>(v,H):=by
 simp only[aE,Hs]
 cases P.underlying t with
 |none=>rfl
 |some d=>cases d<;>rfl
def Lm{t:io}{x:Option Addr}{n c:Nat}:mj P .len ⟨[t]⟩ [.slice x n c]=Uh n (P.underlying t):=by
 simp only[mj]
 cases P.underlying t with
 |none=>rfl
 |some d=>cases d<;>rfl
def Rz{n:Int}:goInt n=jp kw n:=by simp only[goInt]
def gk{t e:io}{sz n off len cap:Nat}{s:Option Nat}{k:IntKind}{i:Int}(c:P.underlying t=a9 (.slice e))(b:br P e=a9 sz)(g:0<=i)(h:i<len):aW P t (lm (a9 ⟨n,off,s⟩) len cap) (.int k i)=a9 (li (a9 ⟨n,off+i.toNat*sz,bi⟩)):=by simp only[aW,c,b,zA1,zA3,g,h,and_self,if_true]
def C6{anc j lo hi:Nat}{F W O:List Nat}{fps:List Fp}:ju anc (⟨j,F,W,lo,hi⟩::fps) O=((lo<hi->anc.testBit j=bv\/∀ n∈O,n<lo\/hi<=n)/\ju anc fps O):=by simp[ju]
def C7{anc j lo hi:Nat}{F W O:List Nat}{fps:List Fp}(h:anc.testBit j=bv):ju anc (⟨j,F,W,lo,hi⟩::fps) O=ju anc fps O:=by simp[ju,h]
def Ci{anc j lo hi:Nat}{F W b W' O:List Nat}(h:anc.testBit j=bv):cL anc F W O ⟨j,b,W',lo,hi⟩=True:=by simp[cL,h]
end
section
variable{P:ip}{ro:Option Nat}{H:aa}{N:Nat}{E:Env}{ds:List Deferred}{L:List Bl}
def jx{n:Nat}{b:Bl}(h:bk H n=a9 b):jq H n=a9 b.o:=by
 unfold bk at h
 cases c:bO H n with
 |none=>rw[c]at h; cases h
 |some x =>rw[c]at h;obtain⟨rv,e,o⟩:=x;cases h;obtain⟨j,k,g⟩:=eI c;simp only[jq,g]
section
variable{ops:Array Oper}{anc:List Nat}{d:Nat}{ty:io}{pos:String}{after:Array Edge}{rest:List Oper}{i:Nat}{fps:List Fp}{Q:ah -> aa -> Prop}
end
end
section
variable{P:ip}{ro:Option Nat}{H:aa}{N:Nat}{E:Env}{ds:List Deferred}{L:List Bl}
def A8(N:Nat)(ds:List Deferred)(J:Env->aa->Prop)(Q:Exit->ah->aa->Prop):Exit->ah->aa->Prop
 |.normal,a,H=>∃ E,a=bu N E ds/\J E H
 |e,a,H=>Q e a H
def ag{J:Env->aa->Prop}{Q:Exit->ah->aa->Prop}(h:J E H):A8 N ds J Q .normal (bu N E ds) H:=⟨E,rfl,h⟩
def cO{J:Env->aa->Prop}{Q:Exit->ah->aa->Prop}{a:ah}:A8 N ds J Q .ret a H=Q .ret a H:=Eq.trans rfl rfl
def qO{J:Env->aa->Prop}{Q:Exit->ah->aa->Prop}{z:Code}(b:∀ E H,J E H->gL P ro z Q (bu N E ds) H):∀ e a H,A8 N ds J Q e a H->DL P ro z Q e a H:=by
 intro e a H h
 cases e with
 |normal =>obtain⟨c,rfl,g⟩:=h;exact b c H g
 |_=>exact h
def fB{x y z:Code}{Q:Exit->ah->aa->Prop}{v:go}(J:Env->aa->Prop)(c:sj P ro x y (A8 N ds J Q) (bu N E ds) H v)(e:∀ E H,J E H->gL P ro z Q (bu N E ds) H):sj P ro x y (DL P ro z Q) (bu N E ds) H v:=by
 cases v with
 |bool b =>
  cases b with
  |true=>rw[sq]at c ⊢; exact oe x _ H (qO e) c
  |false=>rw[qv]at c ⊢; exact oe y _ H (qO e) c
 |_=>exact c
def aS{c z:Code}{id:Nat}{Q:Exit->ah->aa->Prop}(J:Env->aa->Prop)(b:gL P ro c (nm id (A8 N ds J Q)) (bu N E ds) H)(g:∀ E H,J E H->gL P ro z Q (bu N E ds) H):gL P ro c (nm id (DL P ro z Q)) (bu N E ds) H:=by refine oe c _ H (fun e a H h=>?_) b;exact qO g _ _ _ h
def lg{c z:Code}{Q:Exit->ah->aa->Prop}(J:Env->aa->Prop)(b:gL P ro c (A8 N ds J Q) (bu N E ds) H)(e:∀ E H,J E H->gL P ro z Q (bu N E ds) H):gL P ro c (DL P ro z Q) (bu N E ds) H :=
 oe c _ H (qO e) b
def aG{K:Env->aa->Prop}{Q:Exit->ah->aa->Prop}(h:K E H):sk N ds K Q .normal (bu N E ds) H:=by rw[EE];exact⟨E,rfl,h⟩
end
section
variable{P:ip}
def dL{α β:Type}(s:Sem α)(f:α->Sem β):du P (s >>= f)=(du P s).bind fun a=>du P (f a):=by
 show du P (Sem.bind s f)=_
 induction s with
 |pure x=>rfl
 |program k b=>simp only[Sem.bind,du]; exact b P
 |mark m k b=>simp only[Sem.bind,du]; exact b
 |load|store|new|shape|freeze|frozen|getObj|setObj|choose|sys|halt=>simp[Sem.bind,du]
theorem dN{α:Type}(a:α):du P (pure a:Sem α)=a9 a:=rfl
theorem ko:du P Go.program=a9 P:=rfl
def nC{t:io}{d:TypeDesc}(h:P.underlying t=a9 d):du P (underlying t)=a9 d:=by simp only[underlying,dL,ko,zA3,h,dN]
def Ca{t:io}{b:Bool}(h:fj P t=a9 b):du P (isAgg t)=a9 b:=by
 unfold fj at h
 cases e:P.underlying t with
 |none=>rw[e]at h; cases h
 |some d =>rw[e]at h;simp only[isAgg,dL,nC e,zA3];cases d<;>simp only[dN]<;>simpa using h
def Ip{t:io}{n:Nat}(h:br P t=a9 n):du P (sizeOf t)=a9 n:=by
 unfold br at h
 cases e:P.info? t with
 |none=>rw[e]at h; cases h
 |some i =>rw[e]at h;simp only[sizeOf,typeInfo,dL,ko,zA3,e,dN];simpa using h
def Ed(P:ip)(t:io)(v:go):Bool :=
 match P.underlying t,v with
 |some .bool,ls _=>bv
 |some (.int k),.int b _=>k == b
 |some .string,.string _=>bv
 |_,_=>ci
def fits(P:ip):List io->List go->Bool
 |[],[]=>bv
 |t::ts,v::vs=>Ed P t v&&fits P ts vs
 |_,_=>ci
def Sw:go->go->Bool
 |.bool a,ls b=>a == b
 |.int _ a,.int _ b=>a == b
 |.string a,.string b=>a == b
 |_,_=>ci
def Ei:List go->List go->Bool
 |[],[]=>bv
 |x::xs,y::ys=>Sw x y&&Ei xs ys
 |_,_=>ci
def rK(P:ip)(c:io->Option (List io)):List Field->Nat->Option (List io)
 |[],_=>a9 []
 |f::fs,o =>
  if f.name ≠ "_" /\ f.offset=o then
   (match c f.type with
   |some a=>if br P f.type=a9 a.length then (match rK P c fs (o+a.length) with
    |some b=>a9 (a++b)
    |none=>bi) else bi
   |none=>bi)
  else bi
def flat(P:ip):Nat->io->Option (List io)
 |0,_=>bi
 |d+1,t =>
  match P.underlying t with
  |some .bool=>a9 [t]
  |some (.int _)=>a9 [t]
  |some .string=>a9 [t]
  |some (.struct fs)=>if P.stoodInHeld t then bi else rK P (flat P d) fs.toList 0
  |_=>bi
def N1{d:Nat}{t:io}{x y:go}(hx:Ed P t x=bv)(b:Ed P t y=bv):du P (Op.equalIn (d+1) t x y)=a9 (Sw x y):=by
 unfold Ed at hx b;split at hx
 .rename_i a e;rw[e]at b;cases y<;>simp only[zD2]at b;simp only[Op.equalIn,dL,nC e,zA3,dN,Sw]
 .rename_i k c a e;rw[e]at b;cases y<;>simp only[zD2]at b;simp only[Op.equalIn,dL,nC e,zA3,Sw];rw[if_pos ((eq_of_beq hx).symm.trans (eq_of_beq b))];rfl
 .rename_i a e;rw[e]at b;cases y<;>simp only[zD2]at b;simp only[Op.equalIn,dL,nC e,zA3,dN,Sw]
 .cases hx
def sV:∀ {ts b:List io} {vs:List go},fits P (ts++b) vs=bv->fits P ts (vs.take ts.length)=bv/\fits P b (vs.drop ts.length)=bv/\ts.length<=vs.length
 |[],b,vs,h=>by simpa[fits]using h
 |t::ts,b,[],h=>by simp[fits]at h
 |t::ts,b,v::vs,h=>by simp only[zE3,fits,zA6]at h;have:=sV h.2;simp only[zA9,List.take_succ_cons,List.drop_succ_cons,fits,h.1,this.1,this.2.1,zD8,true_and];omega
def Cx:∀ {n:Nat} {xs ys:List go},n<=xs.length->n<=ys.length->Ei xs ys=(Ei (xs.take n) (ys.take n)&&Ei (xs.drop n) (ys.drop n))
 |0,xs,ys,_,_=>by simp[Ei]
 |n+1,[],_,h,_=>by simp at h
 |n+1,_::_,[],_,h=>by simp at h
 |n+1,x::xs,y::ys,b,c=>by simp only[zA9,Nat.add_le_add_iff_right]at b c;simp only[List.take_succ_cons,List.drop_succ_cons,Ei,Cx b c,Bool.and_assoc]
def p9:∀ {ts:List io} {vs:List go},fits P ts vs=bv->ts.length=vs.length
 |[],[],_=>rfl
 |[],_::_,h=>by simp[fits]at h
 |_::_,[],h=>by simp[fits]at h
 |t::ts,v::vs,h=>by simp only[fits,zA6]at h;simp only[zA9,p9 h.2]
def ES{d:Nat}{t:io}{xs ys:Array go}{fs:Array Field}(c:P.underlying t=a9 (.struct fs))(g:P.stoodInHeld t=ci) :
  du P (Op.equalIn (d+1) t (.agg xs) (.agg ys))=du P (Op.eqFields d xs ys fs.toList):=by
 simp only[Op.equalIn,dL,nC c,zA3,ko,g,zD2,if_false];rw[<-Array.forIn_toList];generalize fs.toList=l;clear c
 induction l with
 |nil=>simp[Op.eqFields,dN]
 |cons f fs e =>
  simp only[List.forIn_cons,Op.eqFields,dL];split
  .simp only[dL]
   cases du P (part f.type xs f.offset) with
   |none=>rfl
   |some a =>
    simp only[zA3]
    cases du P (part f.type ys f.offset) with
    |none=>rfl
    |some b =>
     simp only[zA3]
     cases du P (Op.equalIn d f.type a b) with
     |none=>rfl
     |some r =>
      cases r
      .simp[dN]
      .simp only[zA3,zD1,zD2,if_false,dN];rw[<-e]
  .simp only[dN,zA3];rw[<-e]
def yP{t:io}{sz o:Nat}{b:Bool}{xs:List go}(e:fj P t=a9 b)(g:br P t=a9 sz)(h:b=ci->sz=1)(j:o+sz<=xs.length) :
  du P (part t ⟨xs⟩ o)=a9 (if b then .agg ⟨(xs.drop o).take sz⟩ else xs.getD o undef):=by
 cases b with
 |true => 
  simp only[part,dL,Ca e,zA3,if_true,Ip g,dN,i8,Value.agg.injEq];apply Array.ext';simp[List.extract_eq_take_drop]
 |false =>
  have:=h rfl;have c:o<xs.length:=by omega
  simp only[part,dL,Ca e,zA3,zD2,if_false];simp[zB0 c,dN,zC9]
def xo{d:Nat}{t:io}{ts:List io}(h:flat P (d+1) t=a9 ts)(b:fj P t=a9 ci):ts=[t]:=by
 simp only[flat]at h;unfold fj at b
 cases e:P.underlying t with
 |none=>rw[e]at b; cases b
 |some c=>rw[e]at h b; cases c<;>simp_all
def QC{d:Nat}{t:io}{ts:List io}(h:flat P (d+1) t=a9 ts):∃ b,fj P t=a9 b:=by
 simp only[flat]at h;unfold fj
 cases e:P.underlying t with
 |none=>rw[e]at h; cases h
 |some c=>rw[e]at h; cases c<;>simp_all
def um{d:Nat}(B:∀ t ts xs ys,flat P d t=a9 ts->fj P t=a9 bv->fits P ts xs=bv->fits P ts ys=bv->du P (Op.equalIn d t (.agg ⟨xs⟩) (.agg ⟨ys⟩))=a9 (Ei xs ys)) :
  ∀(fs:List Field)(o:Nat)(ts:List io)(xs ys:List go),rK P (flat P d) fs o=a9 ts->o<=xs.length->o<=ys.length->fits P ts (xs.drop o)=bv->fits P ts (ys.drop o)=bv->du P (Op.eqFields d ⟨xs⟩ ⟨ys⟩ fs)=a9 (Ei (xs.drop o) (ys.drop o))
 |[],o,ts,xs,ys,h,_,_,hx,y=>by simp only[rK,i8]at h;subst h;have k:=p9 hx;have C:=p9 y;rw[zE5 k.symm,zE5 C.symm];rfl
 |f::fs,o,ts,xs,ys,h,D,F,hx,y=>by
  simp only[rK]at h;split at h
  .rename_i G;obtain⟨I,J⟩:=G
   cases e:flat P d f.type with
   |none=>rw[e]at h; cases h
   |some a =>
    rw[e]at h;simp only at h;split at h
    .rename_i l
     cases z:rK P (flat P d) fs (o+a.length) with
     |none=>rw[z]at h; cases h
     |some b =>
      rw[z]at h;simp only[i8]at h;subst h;obtain⟨g,m,n⟩:=sV hx;obtain⟨j,p,q⟩:=sV y;have r:=Cx n q;rw[zH3]at m p;rw[zH3,zH3]at r;rw[zC6]at n q;have A:=um B fs (o+a.length) b xs ys z lw lw m p
      cases d with
      |zero=>simp[flat]at e
      |succ d =>
       obtain⟨x,c⟩:=QC e;have k:x=ci->a.length=1:=fun M=>by subst M; rw[xo e c]; rfl
       simp only[Op.eqFields,I,ne_eq,not_false_eq_true,if_true,dL,J];rw[yP c l k lw,yP c l k lw];simp only[zA3]
       have O:du P (Op.equalIn (d+1) f.type (if x then .agg ⟨(xs.drop o).take a.length⟩ else xs.getD o undef) (if x then .agg ⟨(ys.drop o).take a.length⟩ else ys.getD o undef))=a9 (Ei ((xs.drop o).take a.length) ((ys.drop o).take a.length)):=by
        cases x with
        |true=>simp only[if_true]; exact B f.type a _ _ e c g j
        |false =>
         have R:=xo e c;have U:=k rfl;subst R;have s:o<xs.length:=by omega
         have v:o<ys.length:=by omega
         have S:(xs.drop o).take 1=[xs.getD o undef]:=by rw[List.take_one,List.head?_drop,zB0 s,zC9,zB0 s]; rfl
         have T:(ys.drop o).take 1=[ys.getD o undef]:=by rw[List.take_one,List.head?_drop,zB0 v,zC9,zB0 v]; rfl
         simp only[zI0,S,T,fits,Bool.and_true]at g j ⊢;simp only[zD2,if_false,N1 g j,Ei,Bool.and_true]
       rw[O,zA3,r]
       cases Ei ((xs.drop o).take a.length) ((ys.drop o).take a.length) with
       |true=>simp only[zD1,zD2,if_false,Bool.true_and]; exact A
       |false=>simp only[zF4,if_true,dN,Bool.false_and]
    .cases h
  .cases h
def Cp:∀(d:Nat)(t:io)(ts:List io)(xs ys:List go),flat P d t=a9 ts->fj P t=a9 bv->fits P ts xs=bv->fits P ts ys=bv->du P (Op.equalIn d t (.agg ⟨xs⟩) (.agg ⟨ys⟩))=a9 (Ei xs ys)
 |0,t,ts,xs,ys,h,_,_,_=>by simp[flat]at h
 |d+1,t,ts,xs,ys,h,b,hx,c=>by
  simp only[flat]at h;unfold fj at b
  cases e:P.underlying t with
  |none=>rw[e]at b; cases b
  |some g =>
   rw[e]at h b;cases g<;>simp only[reduceCtorEq,i8,zD2]at b h;rename_i fs;split at h
   .cases h
   .rename_i j;rw[ES e (by simpa using j)];exact um (Cp d) fs.toList 0 ts xs ys h (zB7 _) (zB7 _) hx c
def BU{c:BinOp}{t:io}{ts:List io}{xs ys:List go}{x y:i7}{r:Bool}(h:flat P 10000 t=a9 ts)(g:fj P t=a9 bv)(j:P.eqGuardType P.depth t=ci)(hx:fits P ts xs=bv)(k:fits P ts ys=bv)(b:yd c (Ei xs ys)=a9 (ls r)) :
  la P (do eqGuard c t x y (.agg ⟨xs⟩) (.agg ⟨ys⟩); binOp c t (.agg ⟨xs⟩) (.agg ⟨ys⟩))=a9 (.value (ls r)):=by
 have e:=Cp 10000 t ts xs ys h g hx k;cases c<;>simp only[yd,i8,Value.bool.injEq,reduceCtorEq]at b
 all_goals
  subst b;simp only[la,dL,eqGuard,ko,dN,zA3,j,zF4,zD1,if_true,zD2,if_false,binOp,Op.equal,Op.maxDepth,e,af]
def Hw{H:aa}{b:BinOp}{t:io}{xs:Array go}{y:go}:fV P H b t (.agg xs) y=none:=by cases y<;>rfl
def uI:∀ {ts:List io} {vs:List go},fits P ts vs=bv->DO vs=bv
 |[],[],_=>rfl
 |[],_::_,h=>by simp[fits]at h
 |_::_,[],h=>by simp[fits]at h
 |t::ts,v::vs,h=>by
  simp only[fits,zA6]at h;have b:=h.1;unfold Ed at b;have:af v=true:=by split at b<;>first|rfl|cases b
  simp only[DO,this,uI h.2,zD8]
variable{ro:Option Nat}{H:aa}{N:Nat}{E:Env}{ds:List Deferred}
def Sm{c:Op}{ops:Array Oper}{anc:List Nat}{d:Nat}{ty:io}{pos:String}{after:Array Edge}{rest:List Oper}{i:Nat}{fps:List Fp}{Q:ah->aa->Prop}{v:go}
  (e:jQ P ⟨a9 d,c,ty,pos,after,bi⟩ (bu N E ds) H (anc.getD i 0) i fps=EZ P ⟨a9 d,c,ty,pos,after,bi⟩ (bu N E ds) H (anc.getD i 0) i fps) (hx:∀ G,cE c P (bu N E ds) G=a9 (.value v,G)) (g:ae v=[]) (j:d<N)
  (h:fO P ops anc rest (i+1) (⟨i,[],[],H.next,H.next⟩::fps) (bu N (cH E d v) ds) H Q):fO P ops anc (⟨a9 d,c,ty,pos,after,bi⟩::rest) i fps (bu N E ds) H Q:=by
 have b:=aK H [];simp only[fO,cN];rw[e];refine⟨[],v,H.restrict [],gD (hx _) ⟨rfl,rfl⟩,by simp,(by rw[b.2.2]; simp),fun r _=>jG ?_,?_⟩
 .simp only[gZ,b.2.2,b.1,zG8,dH,zC7,List.flatMap_nil,g];exact .inr ⟨by simp,by simp,fun _=>⟨by simp,by simp⟩⟩
 .rw[oZ,b.2.2,b.1];simp only[dK N E ds d _ j];exact h
def vI{g:BinOp}{t u:io}{x y:i7}{ts:List io}{xs ys:List go}{r:Bool}{ops:Array Oper}{anc:List Nat}{d:Nat}{ty:io}{pos:String}{after:Array Edge}{rest:List Oper}{i:Nat}{fps:List Fp}{Q:ah->aa->Prop}
  (h:flat P 10000 t=a9 ts) (m:fj P t=a9 bv) (n:P.eqGuardType P.depth t=ci) (e:yd g (Ei xs ys)=a9 (ls r)) (hx:bj P N x=bv) (j:bj P N y=bv) (o:d<N) (b:cy E x=.agg ⟨xs⟩) (c:cy E y=.agg ⟨ys⟩) (k:fits P ts xs=bv) (l:fits P ts ys=bv)
  (p:fO P ops anc rest (i+1) (⟨i,[],[],H.next,H.next⟩::fps) (bu N (cH E d (ls r)) ds) H Q):fO P ops anc (⟨a9 d,.binOp g t x y u,ty,pos,after,bi⟩::rest) i fps (bu N E ds) H Q:=by
 refine Sm ?_ (fun G=>?_) rfl o p
 .funext K;simp only[jQ,jk,Sh,aH hx,aH j,b,c,ef]
 .simp only[cE,Hp,aH hx,aH j,b,c,zA1,zA3,Ea,Hw,af,Oc,uI k,uI l,zD8,if_true,BU h m n k l e,zB2]
def TH{g:BinOp}{t u:io}{x y:i7}{ts:List io}{xs ys:List go}{r:Bool}{ops:Array Oper}{d:Nat}{ty:io}{pos:String}{after:Array Edge}{rest:List Oper}{Q:Exit->ah->aa->Prop}
  (h:flat P 10000 t=a9 ts) (l:fj P t=a9 bv) (m:P.eqGuardType P.depth t=ci) (b:yd g (Ei xs ys)=a9 (ls r)) (hx:bj P N x=bv) (n:bj P N y=bv) (o:d<N) (c:cy E x=.agg ⟨xs⟩) (e:cy E y=.agg ⟨ys⟩) (j:fits P ts xs=bv) (k:fits P ts ys=bv)
  (p:wpOps P ro ops rest (bu N (cH E d (ls r)) ds) H Q):wpOps P ro ops (⟨a9 d,.binOp g t x y u,ty,pos,after,bi⟩::rest) (bu N E ds) H Q:=by
 rw[sC (x:=a9 (ls r)) rfl ?_ o,jX]
 .exact p
 .simp only[cE,Hp,aH hx,aH n,c,e,zA1,zA3,Ea,Hw,af,Oc,uI j,uI k,zD8,if_true,BU h l m j k b,zB2];rfl
end
section
variable{P:ip}{ro:Option Nat}{H:aa}
variable{N:Nat}{E:Env}{ds:List Deferred}{ops:Array Oper}{anc:List Nat}{ty:io}{pos:String}{after:Array Edge}{rest:List Oper}{i:Nat}{fps:List Fp}
end
section
variable{P:ip}{H:aa}
def Jk{st xt e:io}{sz by1 m off k cap n:Nat}{sp:Option Nat}{z x:go}{new:List go}(l:P.underlying st=a9 (.slice e))(b:br P e=a9 sz)(c:bytesOf P e=a9 by1)(o:zeroOf P e=a9 z)(h:z.cells.toList.length=sz)(hi:fE P xt=a9 ci)
  (hx:jD x=a9 n) (p:cK H sz n x=a9 new) (q:new.length=n*sz) (r:k+n<=cap) (j:small (k+n) by1=bv) :
  aE P H .append ⟨[st,xt]⟩ [lm (a9 ⟨m,off,sp⟩) k cap,x]=(dT H m (off+k*sz) new).map fun g=>(lm (a9 ⟨m,off,sp⟩) (k+n) cap,g):=by
 simp only[aE,e7,l,b,c,o,hi,zA1,zA3,hx,p,q,h,j,and_self,if_true,dv,r];cases dT H m (off+k*sz) new<;>rfl
def QA{st xt e:io}{sz by1:Nat}{z x:go}(j:P.underlying st=a9 (.slice e))(b:br P e=a9 sz)(c:bytesOf P e=a9 by1)(k:zeroOf P e=a9 z)(g:z.cells.toList.length=sz)(hi:fE P xt=a9 ci)
  (hx:jD x=a9 0) (l:cK H sz 0 x=a9 []) :
  aE P H .append ⟨[st,xt]⟩ [lm bi 0 0,x]=a9 (lm bi 0 0,H):=by
 have h:small (0+0) by1=true:=by simp[small]
 simp only[aE,e7,j,b,c,k,hi,zA1,zA3,hx,l,zB4,zH1,g,h,and_self,if_true,dv,zA4,zC2]
def OK{st xt e:io}{sz by1 n:Nat}{z:go}(k:P.underlying st=a9 (.slice e))(b:br P e=a9 sz)(c:bytesOf P e=a9 by1)(l:zeroOf P e=a9 z)(h:z.cells.toList.length=sz)(hi:fE P xt=a9 bv)
  (p:0<n) (m:(bf z.cells.toList n).all one=bv) (j:small n by1=bv) :
  aE P H .append ⟨[st,xt]⟩ [lm bi 0 0,jp kw (n:Int)]=(cJ H e (bf z.cells.toList n) bv).map fun g=>(lm (a9 ⟨H.next,0,bi⟩) n n,g):=by
 have o:(0:Int)<=(n:Int):=by omega
 simp only[aE,e7,k,b,c,l,hi,zA1,zA3,h,zG7,zC2,j,o,and_self,if_true,dv];rw[if_neg lw];simp only[cK,zA3,zB4,zH1,List.all_nil,m,decide_true,zD8,if_true,zB6];cases cJ H e (bf z.cells.toList n) bv<;>rfl
def R5{t e:io}{l c:Nat}(h:P.underlying t=a9 (.slice e)):aE P H .cap ⟨[t]⟩ [lm bi l c]=a9 (goInt c,H):=by simp only[aE,QV,h,zB2]
def UT{t e:io}{sz l c:Nat}(h:P.underlying t=a9 (.slice e))(b:br P e=a9 sz):bX P H t (lm bi l c) bi (a9 (jp kw 0)) bi=a9 (lm bi 0 c,H):=by simp only[bX,h,b,zA1,zA3,et,bound,Int.le_refl,if_true,Int.toNat_zero,zB7,and_self,Nat.sub_zero]
def R9{t e:io}{sz n off l c:Nat}{b:Bl}(h:P.underlying t=a9 (.slice e))(g:br P e=a9 sz)(j:bk H n=a9 b)(k:b.o=bv):bX P H t (lm (a9 ⟨n,off,bi⟩) l c) bi (a9 (jp kw 0)) bi=a9 (lm (a9 ⟨n,off,bi⟩) 0 c,H):=by simp only[bX,h,g,zA1,zA3,et,bound,Int.le_refl,if_true,Int.toNat_zero,zB7,and_self,cX,jx j,k,zB2,zD1]
def rG{z:List go}:∀ n,(bf z n).length=n*z.length
 |0=>by simp[bf]
 |n+1=>by simp only[bf,zB3,rG n,Nat.succ_mul]; omega
def yY{z:List go}(h:z.all one=bv):∀ n,(bf z n).all one=bv
 |0=>rfl
 |n+1=>by simp only[bf,List.all_append,h,yY h n,zD8]
def C0{z:List go}{N:Nat}(h:aT N z=bv):∀ n,aT N (bf z n)=bv
 |0=>rfl
 |n+1=>cb h (C0 h n)
def xG{z:List go}:∀ n k,(bf z n).drop (k*z.length)=bf z (n-k)
 |n,0=>by simp
 |0,k+1=>by simp[bf]
 |n+1,k+1=>by rw[show (k+1)*z.length=z.length+k*z.length by rw[Nat.succ_mul]; omega,<-zH3];simp only[bf,List.drop_left,Nat.reduceSubDiff];exact xG n k
def lU{N:Nat}{E:Env}{ds:List Deferred}{ops:Array Oper}{anc:List Nat}{o:Oper}{W:List Nat}{rest:List Oper}{i:Nat}{fps:List Fp}{Q:ah->aa->Prop}{v:go}{g:aa}
  (F:List Nat) (I:H.base<=H.next) (J:∀ n∈F,H.get n≠bi) (m:∀ n∈F,n<H.next) (M:∀ n∈W,n∈F)
  (O:HX P (bu N E ds) (H.restrict F) o (.ok v) g) (e:Mod W (H.restrict F) g)
  (R:∀ r∈fps,(anc.getD i 0).testBit r.i=bv\/(r.hi<=r.lo/\(∀ n∈r.W,n∉F)/\(∀ n∈r.F,n∉W)))
  (h:∀ p D,Mod W H p->(∀ n∈F,p.get n=g.get n)->(∀ n,H.next<=n->n<g.next->p.get n=g.get n)->p.next=g.next->(∀ n∈D,n∈W)->fO P ops anc rest (i+1) (⟨i,F,D,H.next,g.next⟩::fps) ((bu N E ds).put o.dst v) p Q) :
  oz P ops anc o rest i fps (bu N E ds) H Q:=by
 have t:=aK H F
 have q:∀ n∈g.dirty,n∈W:=by
  intro n S;rcases e.dirty n S with h|h
  .rw[t.2.2]at h; cases h
  .exact h.1
 have b:H.next<=g.next:=by have:=e.next; rw[t.1]at this; exact this
 have x:∀ n∈F,(H.merge g).get n=g.get n:=by
  intro n k;by_cases c:n∈g.dirty
  .exact l9 H g b (.inl c)
  .rw[gu H g b]
   .rw[e.gH n (by rw[t.2.1]; exact m n k) c,aU,if_pos k]
   .rintro (h'|h')
    .exact c h'
    .have:=m n k; omega
 have j:=kP H g;refine⟨F,v,g,?_,J,fun n h'=>M n (q n h'),fun r T=>jG ?_,?_⟩
 .exact O
 .rcases R r T with h'|⟨G,y,U⟩
  .exact .inl h'
  .exact .inr ⟨y,fun n z A=>U n z (q n A),fun s=>absurd s lw⟩
 .refine h (H.merge g) g.dirty ⟨by rw[j.1]; exact b,j.2.1,fun n V B=>?_,j.2.2.1,fun n l=>?_,fun n C l=>?_⟩ x (fun n G y=>l9 H g b (.inr ⟨G,y⟩)) j.1 q
  .rw[gu H g b];rintro (h'|h')
   .exact B (q n h')
   .omega
  .rcases xv H g n l with h'|h'
   .exact .inl h'
   .exact .inr ⟨q n h'.1,h'.2⟩
  .by_cases c:n∈g.dirty
   .exact absurd (j.2.2.2 n c C) l
   .rw[gu H g b];rintro (h'|h')
    .exact c h'
    .omega
def Jc{N:Nat}{E:Env}{ds:List Deferred}{ops:Array Oper}{anc:List Nat}{ty:io}{pos:String}{after:Array Edge}{rest:List Oper}{i:Nat}{fps:List Fp}{Q:ah->aa->Prop}{args:List i7}{ts:Array io}{dst:Option Nat}(b:args.all (bj P N)=bv):fO P ops anc (⟨dst,.call ⟨.builtin .append,⟨args⟩,ts⟩,ty,pos,after,bi⟩::rest) i fps (bu N E ds) H Q=oz P ops anc ⟨dst,.call ⟨.builtin .append,⟨args⟩,ts⟩,ty,pos,after,bi⟩ rest i fps (bu N E ds) H Q:=by simp only[fO,cN,jQ,jk,qu,sf,oz,cD b,Vd,mj]
def Jt{N:Nat}{E:Env}{ds:List Deferred}{ty:io}{pos:String}{after:Array Edge}{args:List i7}{ts:Array io}{dst:Option Nat}{v:go}{G:aa}(b:args.all (bj P N)=bv)(h:aE P H .append ts (args.map (cy E))=a9 (v,G)):HX P (bu N E ds) H ⟨dst,.call ⟨.builtin .append,⟨args⟩,ts⟩,ty,pos,after,bi⟩ (.ok v) G :=
 gD (x:=.value v) (g:=G) (by simp only[cE,kH,cD b,zA1,zA3,h,uY,zB2]) ⟨rfl,rfl⟩
def ve{N:Nat}{E:Env}{ds:List Deferred}{ops:Array Oper}{anc:List Nat}{o:Oper}{d:Nat}{rest:List Oper}{i:Nat}{fps:List Fp}{Q:ah->aa->Prop}{v:go}{M:List Bl}(F:List Nat)(y:o.dst=a9 d)(hd:d<N)(hF:∀ n∈F,H.get n≠bi)
  (hc:∀ G:aa,G.next=H.next->(∀ n∈F,G.get n=H.get n)->HX P (bu N E ds) G o (.ok v) (ext G M)) (hm:∀ r∈fps,cL (anc.getD i 0) F [] (ae v++M.flatMap fun x=>ir x.l) r)
  (h:fO P ops anc rest (i+1) (⟨i,F,[],H.next,H.next+M.length⟩::fps) (bu N (cH E d v) ds) (ext H M) Q):oz P ops anc o rest i fps (bu N E ds) H Q:=by
 have D:=aK H F;have b:(ext (H.restrict F) M).dirty=[]:=by rw[iH,D.2.2]
 have p:(ext (H.restrict F) M).next=H.next+M.length:=by rw[ai,D.1]
 have c:∀ j,j<M.length->(ext (H.restrict F) M).get (H.next+j)=M[j]?.map Bl.obj:=by intro j J;rw[<-D.1];exact fc J
 have O:∀(M:List Bl)(K g:aa)(m:Nat),K.next=m->(∀ j,j<M.length->g.get (m+j)=M[j]?.map Bl.obj)->∀ t,t=aa.cV K g m M.length->(⟨t.root,m+M.length,t.base,t.dirty⟩:aa)=ext K M:=by
  intro M
  induction M with
  |nil=>intro K g m I _ t z; subst I; subst z; rfl
  |cons x M R =>
   intro K g m I hg t z;have h0:=hg 0 nl;simp only[zD5,zG1,zB2]at h0;rw[zA9]at z;simp only[aa.cV,h0]at z
   have:=R (nw K x.e x.l x.o) g (m+1) (by rw[jH,I]) (fun j J=>by
    have:=hg (j+1) (by simpa using J);simp only[zH8]at this;rw[show m+1+j=m+(j+1) by omega]
    exact this) (aa.cV (nw K x.e x.l x.o) g (m+1) M.length) rfl
   have S:∀(A B:aa)(n k:Nat),A.root=B.root->A.base=B.base->A.dirty=B.dirty->(aa.cV A g n k).root=(aa.cV B g n k).root/\(aa.cV A g n k).base=(aa.cV B g n k).base/\(aa.cV A g n k).dirty=(aa.cV B g n k).dirty:=by
    intro A B n k
    induction k generalizing A B n with
    |zero=>exact fun T U V=>⟨T,U,V⟩
    |succ k X =>intro T U V;simp only[aa.cV];exact X _ _ _ (by simp only[aa.put_eq,T]) U V
   have Y:=S (nw K x.e x.l x.o) (K.put m (a9 x.obj)) (m+1) M.length (by simp only[nw,aa.oK,aa.put_eq,I,Bl.obj]) rfl rfl;rw[ext,<-this,z,Y.1,Y.2.1,Y.2.2,zA9,show m+(M.length+1)=m+1+M.length by omega]
 have Z:H.merge (ext (H.restrict F) M)=ext H M:=by unfold aa.merge;rw[b,p,zG2];simp only[aa.eR];exact O M H _ H.next rfl c _ rfl
 refine⟨F,v,ext (H.restrict F) M,?_,hF,(by rw[b]; simp),fun r hr=>jG ?_,?_⟩
 .exact hc _ D.1 (fun n hn'=>by rw[aU,if_pos hn'])
 .have C:∀(k s:Nat),s+k=M.length->(dH (H.next+s) k).flatMap (fM (ext (H.restrict F) M))=(M.drop s).flatMap fun x=>ir x.l:=by
   intro k
   induction k with
   |zero=>intro s hs; rw[dH,zE9 lw]; rfl
   |succ k R =>
    intro s hs;have q:s<M.length:=by omega
    rw[dH,List.flatMap_cons,zH4 q,List.flatMap_cons];have:=R (s+1) lw;rw[show H.next+(s+1)=H.next+s+1 by omega]at this;rw[this];congr 1;simp only[fM,c s q,zB0 q,zB2,Bl.obj,rq,RV.n_ofList,RV.nb]
  have:=C M.length 0 lw;simp only[zD5,zD0]at this;rw[b];simp only[gZ,b,p,zG2,zB6,this];exact hm r hr
 .rw[Z,b,p];simp only[y,dK N E ds d v hd];exact h
def pq:∀(b gO new:List go),new.length<=gO.length->dj (b++gO) b.length new=b++(new++gO.drop new.length)
 |[],gO,new,h=>by
  simp only[zB6,zB4]
  induction new generalizing gO with
  |nil=>cases gO<;>rfl
  |cons y ys c =>
   cases gO with
   |nil=>simp at h
   |cons x xs =>simp only[zA9,Nat.add_le_add_iff_right]at h;simp only[dj,c xs h,zA9,List.drop_succ_cons,zE3]
 |p::b,gO,new,h=>by simp only[zE3,zA9,dj,pq b gO new h]
end
section
variable{P:ip}{ro:Option Nat}{H:aa}{N:Nat}{E:Env}{ds:List Deferred}
variable{ops:Array Oper}{anc:List Nat}{d:Nat}{ty:io}{pos:String}{after:Array Edge}{rest:List Oper}{i:Nat}{fps:List Fp}{Q:ah -> aa -> Prop}
def PE{x:i7}{t:io}(hx:bj P N x=bv)(c:d<N)(h:(MF (cy E x)).isSome=bv):fO P ops anc (⟨a9 d,.unOp .not t x,ty,pos,after,bi⟩::rest) i fps (bu N E ds) H Q=qA P ops anc rest i fps N E ds d H Q (MF (cy E x)) :=
 uE rfl (by
  simp only[cE,U8,aH hx,zA1,zA3]
  cases e:cy E x with
  |bool b=>rfl
  |_=>rw[e]at h; cases h) c
def Dc{N:Nat}{E:Env}{ds:List Deferred}{ro:Option Nat}{ops:Array Oper}{o:Oper}{rest:List Oper}{Q:Exit->ah->aa->Prop}{want:Bool}:jY P ro ops o rest N E ds H Q want undef=wpOps P ro ops rest ((bu N E ds).put o.dst undef) H Q:=by simp only[jY,undef]
def Dk{N:Nat}{E:Env}{ds:List Deferred}{ops:Array Oper}{anc:List Nat}{o:Oper}{rest:List Oper}{i:Nat}{fps:List Fp}{Q:ah->aa->Prop}{want:Bool}:jU P ops anc o rest i fps N E ds H Q want undef=fO P ops anc rest (i+1) fps ((bu N E ds).put o.dst undef) H Q:=by simp only[jU,undef]
end
theorem xU{α β:Type}(a:α)(f:α->Option β):(a9 a).bind f=f a:=rfl
theorem Bu{α β:Type}(a:α)(f:α->β):(a9 a).map f=a9 (f a):=rfl
theorem yZ{α β:Type}(f:α->β)(a:α)(l:List α):(a::l).map f=f a::l.map f:=rfl
theorem Cl{α β:Type}(f:α->β):([]:List α).map f=[]:=rfl
theorem lG{α:Type}(a:α)(l:List α):(a::l)[0]?=a9 a:=rfl
def lI{α:Type}(a:α)(l:List α)(i:Nat):(a::l)[i+1]?=l[i]?:=zH8
theorem KX{α:Type}(a b:α):(a≠b)=¬a=b:=rfl
def lE:(¬False)=True:=not_false_eq_true
theorem xu:(!ci)=true:=rfl
theorem zN:(!bv)=false:=rfl
theorem rT{α:Type}(a:α)(l:List α):(a::l).length=l.length+1:=rfl
theorem uU{α:Type}:([]:List α).length=0:=rfl
theorem pB{α:Type}(a b:α)(l:List α):(a::l).set 0 b=b::l:=rfl
theorem pC{α:Type}(a b:α)(l:List α)(i:Nat):(a::l).set (i+1) b=a::l.set i b:=rfl
theorem tV{α:Type}(l:List α):[]++l=l:=rfl
theorem rZ{α:Type}(a:α)(l m:List α):(a::l)++m=a::(l++m):=rfl
theorem nT{α:Type}(a:α)(l:List α)(i:Nat):(a::l).drop (i+1)=l.drop i:=rfl
theorem xP{α:Type}(l:List α):l.drop 0=l:=rfl
theorem nN{α:Type}(a:α)(l:List α)(i:Nat):(a::l).take (i+1)=a::l.take i:=rfl
def wP{α:Type}(l:List α):l.take 0=[]:=List.take_zero
def Cm{α:Type}(a b:α):(if True then a else b)=a:=if_true a b
def Bd(p:Prop):(True/\p)=p:=true_and p
def A7(p:Prop):(p/\True)=p:=and_true p
def C1(p:Prop):(p\/True)=True:=or_true p
def BY(p:Prop):(True\/p)=True:=true_or p
def z6(p:Prop):(p/\p)=p:=and_self p
def qz(p:Prop):(p->True)=True:=eq_true fun _=>trivial
def p6(p:Prop):(True->p)=p:=propext ⟨fun h=>h trivial,fun h _=>h⟩
def yT{α:Type}:(α->True)=True:=eq_true fun _=>trivial
def aF:type_of% (zA0 (zA0 (zA0 (zA0 (zA0 (@AM) (@AT)) (zA0 (@Pq) (@ok_int))) (zA0 (zA0 (@Km) (@nP)) (zA0 (@BM) (@wM)))) (zA0 (zA0 (zA0 (@CO) (@AV)) (zA0 (@K7) (@BF))) (zA0 (zA0 (@KE) (@Gx)) (zA0 (@Am) (@all_nil))))) (zA0 (zA0 (zA0 (zA0 (@all_cons) (@On)) (zA0 (@Lh) (@Gr))) (zA0 (zA0 (@pmap_nil) (@pmap_cons)) (zA0 (@zC) (@isSome_some)))) (zA0 (zA0 (zA0 (@xU) (@yZ)) (zA0 (@Cl) (@lG))) (zA0 (zA0 (@lI) (@KX)) (zA0 (@lE) (zA0 (@xu) (@zN))))))) :=
 zA0 (zA0 (zA0 (zA0 (zA0 (@AM) (@AT)) (zA0 (@Pq) (@ok_int))) (zA0 (zA0 (@Km) (@nP)) (zA0 (@BM) (@wM)))) (zA0 (zA0 (zA0 (@CO) (@AV)) (zA0 (@K7) (@BF))) (zA0 (zA0 (@KE) (@Gx)) (zA0 (@Am) (@all_nil))))) (zA0 (zA0 (zA0 (zA0 (@all_cons) (@On)) (zA0 (@Lh) (@Gr))) (zA0 (zA0 (@pmap_nil) (@pmap_cons)) (zA0 (@zC) (@isSome_some)))) (zA0 (zA0 (zA0 (@xU) (@yZ)) (zA0 (@Cl) (@lG))) (zA0 (zA0 (@lI) (@KX)) (zA0 (@lE) (zA0 (@xu) (@zN))))))
def gV:type_of% (zA0 (zA0 (zA0 (zA0 (zA0 (zA0 (zA0 (@Vu) (@HV)) (zA0 (@xE) (@CG))) (zA0 (zA0 (@BZ) (@Dc)) (zA0 (@Rt) (@Fu)))) (zA0 (zA0 (zA0 (@KT) (@Hz)) (zA0 (@PG) (@Ge))) (zA0 (zA0 (@TT) (@Ox)) (zA0 (@TL) (zA0 (@Ov) (@Pc)))))) (zA0 (zA0 (zA0 (zA0 (@EA) (@Db)) (zA0 (@TN) (@JU))) (zA0 (zA0 (@Of) (@CQ)) (zA0 (@TK) (zA0 (@zu) (@xj))))) (zA0 (zA0 (zA0 (@xL) (@QD)) (zA0 (@LD) (@TD))) (zA0 (zA0 (@Kr) (@uj)) (zA0 (@xW) (zA0 (@KZ) (@dY))))))) (zA0 (zA0 (zA0 (zA0 (zA0 (@ec) (@xc)) (zA0 (@mI) (@Qk))) (zA0 (zA0 (@KF) (@Qs)) (zA0 (@jX) (zA0 (@zM) (@xY))))) (zA0 (zA0 (zA0 (@w7) (@HE)) (zA0 (@vF) (@rW))) (zA0 (zA0 (@zh) (@pY)) (zA0 (@sS) (zA0 (@Ct) (@sq)))))) (zA0 (zA0 (zA0 (zA0 (@qv) (@GH)) (zA0 (@wY) (@Rq))) (zA0 (zA0 (@Cu) (@CE)) (zA0 (@Hg) (zA0 (@Be) (@xy))))) (zA0 (zA0 (zA0 (@Ki) (@Mb)) (zA0 (@Lg) (@LA))) (zA0 (zA0 (@Ko) (@KM)) (zA0 (@J0) (zA0 (@LW) (@Lx)))))))) (zA0 (zA0 (zA0 (zA0 (zA0 (zA0 (@Ot) (@Pm)) (zA0 (@J8) (@zq))) (zA0 (zA0 (@zw) (@Rz)) (zA0 (@QM) (@j0)))) (zA0 (zA0 (zA0 (@ai) (@L7)) (zA0 (@jL) (@aZ))) (zA0 (zA0 (@kf) (@lf)) (zA0 (@vY) (zA0 (@vL) (@Cj)))))) (zA0 (zA0 (zA0 (zA0 (@oG) (@cw)) (zA0 (@pU) (@bR))) (zA0 (zA0 (@yo) (@xO)) (zA0 (@ey) (zA0 (@Bu) (@Di))))) (zA0 (zA0 (zA0 (@zT) (@CR)) (zA0 (@xg) (@lS))) (zA0 (zA0 (@A3) (@xi)) (zA0 (@JZ) (zA0 (@F5) (@B3))))))) (zA0 (zA0 (zA0 (zA0 (zA0 (@zd) (@Hj)) (zA0 (@Oi) (@LV))) (zA0 (zA0 (@Pt) (@J4)) (zA0 (@Dd) (zA0 (@xK) (@zJ))))) (zA0 (zA0 (zA0 (@Ll) (@Pd)) (zA0 (@FT) (@EM))) (zA0 (zA0 (@PJ) (@QI)) (zA0 (@Rv) (zA0 (@add_add) (@rT)))))) (zA0 (zA0 (zA0 (zA0 (@uU) (@pB)) (zA0 (@pC) (@tV))) (zA0 (zA0 (@rZ) (@nT)) (zA0 (@xP) (zA0 (@nN) (@wP))))) (zA0 (zA0 (zA0 (@Cm) (@Pn)) (zA0 (@ya) (@DF))) (zA0 (zA0 (@Ew) (@Kj)) (zA0 (@Kh) (zA0 (@yI) (@Kg))))))))) :=
 zA0 (zA0 (zA0 (zA0 (zA0 (zA0 (zA0 (@Vu) (@HV)) (zA0 (@xE) (@CG))) (zA0 (zA0 (@BZ) (@Dc)) (zA0 (@Rt) (@Fu)))) (zA0 (zA0 (zA0 (@KT) (@Hz)) (zA0 (@PG) (@Ge))) (zA0 (zA0 (@TT) (@Ox)) (zA0 (@TL) (zA0 (@Ov) (@Pc)))))) (zA0 (zA0 (zA0 (zA0 (@EA) (@Db)) (zA0 (@TN) (@JU))) (zA0 (zA0 (@Of) (@CQ)) (zA0 (@TK) (zA0 (@zu) (@xj))))) (zA0 (zA0 (zA0 (@xL) (@QD)) (zA0 (@LD) (@TD))) (zA0 (zA0 (@Kr) (@uj)) (zA0 (@xW) (zA0 (@KZ) (@dY))))))) (zA0 (zA0 (zA0 (zA0 (zA0 (@ec) (@xc)) (zA0 (@mI) (@Qk))) (zA0 (zA0 (@KF) (@Qs)) (zA0 (@jX) (zA0 (@zM) (@xY))))) (zA0 (zA0 (zA0 (@w7) (@HE)) (zA0 (@vF) (@rW))) (zA0 (zA0 (@zh) (@pY)) (zA0 (@sS) (zA0 (@Ct) (@sq)))))) (zA0 (zA0 (zA0 (zA0 (@qv) (@GH)) (zA0 (@wY) (@Rq))) (zA0 (zA0 (@Cu) (@CE)) (zA0 (@Hg) (zA0 (@Be) (@xy))))) (zA0 (zA0 (zA0 (@Ki) (@Mb)) (zA0 (@Lg) (@LA))) (zA0 (zA0 (@Ko) (@KM)) (zA0 (@J0) (zA0 (@LW) (@Lx)))))))) (zA0 (zA0 (zA0 (zA0 (zA0 (zA0 (@Ot) (@Pm)) (zA0 (@J8) (@zq))) (zA0 (zA0 (@zw) (@Rz)) (zA0 (@QM) (@j0)))) (zA0 (zA0 (zA0 (@ai) (@L7)) (zA0 (@jL) (@aZ))) (zA0 (zA0 (@kf) (@lf)) (zA0 (@vY) (zA0 (@vL) (@Cj)))))) (zA0 (zA0 (zA0 (zA0 (@oG) (@cw)) (zA0 (@pU) (@bR))) (zA0 (zA0 (@yo) (@xO)) (zA0 (@ey) (zA0 (@Bu) (@Di))))) (zA0 (zA0 (zA0 (@zT) (@CR)) (zA0 (@xg) (@lS))) (zA0 (zA0 (@A3) (@xi)) (zA0 (@JZ) (zA0 (@F5) (@B3))))))) (zA0 (zA0 (zA0 (zA0 (zA0 (@zd) (@Hj)) (zA0 (@Oi) (@LV))) (zA0 (zA0 (@Pt) (@J4)) (zA0 (@Dd) (zA0 (@xK) (@zJ))))) (zA0 (zA0 (zA0 (@Ll) (@Pd)) (zA0 (@FT) (@EM))) (zA0 (zA0 (@PJ) (@QI)) (zA0 (@Rv) (zA0 (@add_add) (@rT)))))) (zA0 (zA0 (zA0 (zA0 (@uU) (@pB)) (zA0 (@pC) (@tV))) (zA0 (zA0 (@rZ) (@nT)) (zA0 (@xP) (zA0 (@nN) (@wP))))) (zA0 (zA0 (zA0 (@Cm) (@Pn)) (zA0 (@ya) (@DF))) (zA0 (zA0 (@Ew) (@Kj)) (zA0 (@Kh) (zA0 (@yI) (@Kg))))))))
def bS:type_of% (zA0 (zA0 (zA0 (zA0 (zA0 (zA0 (@GW) (@xe)) (zA0 (@Qw) (@rP))) (zA0 (zA0 (@Da) (@Br)) (zA0 (@Qv) (@Qn)))) (zA0 (zA0 (zA0 (@Lm) (@TG)) (zA0 (@Hv) (@w6))) (zA0 (zA0 (@BN) (@BL)) (zA0 (@Dk) (zA0 (@Kp) (@Cq)))))) (zA0 (zA0 (zA0 (zA0 (@Jn) (@PE)) (zA0 (@xT) (@uG))) (zA0 (zA0 (@uW) (@LJ)) (zA0 (@K4) (zA0 (@zm) (@Hb))))) (zA0 (zA0 (zA0 (@LH) (@O5)) (zA0 (@Ke) (@Kx))) (zA0 (zA0 (@LQ) (@KK)) (zA0 (@Kt) (zA0 (@Lu) (@Lq))))))) (zA0 (zA0 (zA0 (zA0 (zA0 (@K0) (@J3)) (zA0 (@B6) (@AK))) (zA0 (zA0 (@xq) (@KJ)) (zA0 (@Ch) (@xQ)))) (zA0 (zA0 (zA0 (@xX) (@JV)) (zA0 (@FV) (@Gi))) (zA0 (zA0 (@Kz) (@Bd)) (zA0 (@C7) (zA0 (@C6) (@p6)))))) (zA0 (zA0 (zA0 (zA0 (@Ci) (@tA)) (zA0 (@nj) (@Q6))) (zA0 (zA0 (@KA) (@LU)) (zA0 (@Fk) (zA0 (@CC) (@cG))))) (zA0 (zA0 (zA0 (@aw) (@Fv)) (zA0 (@AU) (@qz))) (zA0 (zA0 (@A7) (@C1)) (zA0 (@BY) (zA0 (@z6) (@yT)))))))) :=
 zA0 (zA0 (zA0 (zA0 (zA0 (zA0 (@GW) (@xe)) (zA0 (@Qw) (@rP))) (zA0 (zA0 (@Da) (@Br)) (zA0 (@Qv) (@Qn)))) (zA0 (zA0 (zA0 (@Lm) (@TG)) (zA0 (@Hv) (@w6))) (zA0 (zA0 (@BN) (@BL)) (zA0 (@Dk) (zA0 (@Kp) (@Cq)))))) (zA0 (zA0 (zA0 (zA0 (@Jn) (@PE)) (zA0 (@xT) (@uG))) (zA0 (zA0 (@uW) (@LJ)) (zA0 (@K4) (zA0 (@zm) (@Hb))))) (zA0 (zA0 (zA0 (@LH) (@O5)) (zA0 (@Ke) (@Kx))) (zA0 (zA0 (@LQ) (@KK)) (zA0 (@Kt) (zA0 (@Lu) (@Lq))))))) (zA0 (zA0 (zA0 (zA0 (zA0 (@K0) (@J3)) (zA0 (@B6) (@AK))) (zA0 (zA0 (@xq) (@KJ)) (zA0 (@Ch) (@xQ)))) (zA0 (zA0 (zA0 (@xX) (@JV)) (zA0 (@FV) (@Gi))) (zA0 (zA0 (@Kz) (@Bd)) (zA0 (@C7) (zA0 (@C6) (@p6)))))) (zA0 (zA0 (zA0 (zA0 (@Ci) (@tA)) (zA0 (@nj) (@Q6))) (zA0 (zA0 (@KA) (@LU)) (zA0 (@Fk) (zA0 (@CC) (@cG))))) (zA0 (zA0 (zA0 (@aw) (@Fv)) (zA0 (@AU) (@qz))) (zA0 (zA0 (@A7) (@C1)) (zA0 (@BY) (zA0 (@z6) (@yT)))))))
end Go.Ax
namespace Go.Proofs.YtpohjcacnkhnkaaGreatDoor
open Go.Ax
set_option maxRecDepth 100000
def WO:Tryz.prog.underlying 4=a9 .bool:=by kernel_rfl
def mixed:Tryz.prog.follows .mixedOrders=true:=by kernel_rfl
def W0 :
  (∀ n off:Nat,aJ Tryz.prog 41 (li (a9 ⟨n,off,bi⟩)) 0=a9 (li (a9 ⟨n,off,bi⟩))) /\
  (∀ n off:Nat,aJ Tryz.prog 41 (li (a9 ⟨n,off,bi⟩)) 1=a9 (li (a9 ⟨n,off+1,bi⟩))) /\
  (∀ n off:Nat,aJ Tryz.prog 41 (li (a9 ⟨n,off,bi⟩)) 2=a9 (li (a9 ⟨n,off+2,bi⟩))) /\
  (∀ n off:Nat,aJ Tryz.prog 44 (li (a9 ⟨n,off,bi⟩)) 0=a9 (li (a9 ⟨n,off,bi⟩))) /\
  (∀ n off:Nat,aJ Tryz.prog 44 (li (a9 ⟨n,off,bi⟩)) 1=a9 (li (a9 ⟨n,off+1,bi⟩))) /\
  (∀ n off:Nat,aJ Tryz.prog 44 (li (a9 ⟨n,off,bi⟩)) 2=a9 (li (a9 ⟨n,off+2,bi⟩))) /\
  (∀ n off:Nat,aJ Tryz.prog 44 (li (a9 ⟨n,off,bi⟩)) 3=a9 (li (a9 ⟨n,off+3,bi⟩))) /\
  (∀ n off:Nat,aJ Tryz.prog 44 (li (a9 ⟨n,off,bi⟩)) 4=a9 (li (a9 ⟨n,off+4,bi⟩))) /\
  (∀ n off:Nat,aJ Tryz.prog 58 (li (a9 ⟨n,off,bi⟩)) 0=a9 (li (a9 ⟨n,off,bi⟩))) /\
  (∀ n off:Nat,aJ Tryz.prog 58 (li (a9 ⟨n,off,bi⟩)) 1=a9 (li (a9 ⟨n,off+1,bi⟩))) /\
  (∀ n off:Nat,aJ Tryz.prog 58 (li (a9 ⟨n,off,bi⟩)) 2=a9 (li (a9 ⟨n,off+2,bi⟩))) /\
  (∀ n off:Nat,aJ Tryz.prog 58 (li (a9 ⟨n,off,bi⟩)) 3=a9 (li (a9 ⟨n,off+3,bi⟩))) /\
  (∀ n off:Nat,aJ Tryz.prog 58 (li (a9 ⟨n,off,bi⟩)) 4=a9 (li (a9 ⟨n,off+4,bi⟩))) /\
  (∀ n off:Nat,aJ Tryz.prog 58 (li (a9 ⟨n,off,bi⟩)) 5=a9 (li (a9 ⟨n,off+9,bi⟩))) /\
  (∀ n off:Nat,aJ Tryz.prog 64 (li (a9 ⟨n,off,bi⟩)) 0=a9 (li (a9 ⟨n,off,bi⟩))) /\
  (∀ n off:Nat,aJ Tryz.prog 64 (li (a9 ⟨n,off,bi⟩)) 1=a9 (li (a9 ⟨n,off+1,bi⟩))) /\
  (∀ n off:Nat,aJ Tryz.prog 64 (li (a9 ⟨n,off,bi⟩)) 2=a9 (li (a9 ⟨n,off+2,bi⟩))) /\
  (∀ n off:Nat,aJ Tryz.prog 66 (li (a9 ⟨n,off,bi⟩)) 0=a9 (li (a9 ⟨n,off,bi⟩))) /\
  (∀ n off:Nat,aJ Tryz.prog 66 (li (a9 ⟨n,off,bi⟩)) 1=a9 (li (a9 ⟨n,off+7,bi⟩))) /\
  (∀ n off:Nat,aJ Tryz.prog 66 (li (a9 ⟨n,off,bi⟩)) 2=a9 (li (a9 ⟨n,off+14,bi⟩))) /\
  (∀ n off:Nat,aJ Tryz.prog 66 (li (a9 ⟨n,off,bi⟩)) 3=a9 (li (a9 ⟨n,off+15,bi⟩))) /\
  (∀ n off:Nat,aJ Tryz.prog 66 (li (a9 ⟨n,off,bi⟩)) 4=a9 (li (a9 ⟨n,off+16,bi⟩))) /\
  (∀ n off:Nat,aJ Tryz.prog 66 (li (a9 ⟨n,off,bi⟩)) 5=a9 (li (a9 ⟨n,off+17,bi⟩))) /\
  (∀ n off:Nat,aJ Tryz.prog 66 (li (a9 ⟨n,off,bi⟩)) 6=a9 (li (a9 ⟨n,off+18,bi⟩))) /\
  (∀ n off:Nat,aJ Tryz.prog 66 (li (a9 ⟨n,off,bi⟩)) 7=a9 (li (a9 ⟨n,off+19,bi⟩))) /\
  (∀ n off:Nat,aJ Tryz.prog 66 (li (a9 ⟨n,off,bi⟩)) 8=a9 (li (a9 ⟨n,off+20,bi⟩))) /\
  (∀ n off:Nat,aJ Tryz.prog 66 (li (a9 ⟨n,off,bi⟩)) 9=a9 (li (a9 ⟨n,off+21,bi⟩))) /\
  (∀ n off:Nat,aJ Tryz.prog 66 (li (a9 ⟨n,off,bi⟩)) 10=a9 (li (a9 ⟨n,off+22,bi⟩))) /\
  (∀ n off:Nat,aJ Tryz.prog 77 (li (a9 ⟨n,off,bi⟩)) 0=a9 (li (a9 ⟨n,off,bi⟩))) /\
  (∀ n off:Nat,aJ Tryz.prog 77 (li (a9 ⟨n,off,bi⟩)) 1=a9 (li (a9 ⟨n,off+1,bi⟩))) /\
  (∀ n off:Nat,aJ Tryz.prog 83 (li (a9 ⟨n,off,bi⟩)) 0=a9 (li (a9 ⟨n,off,bi⟩))) /\
  (∀ n off:Nat,aJ Tryz.prog 83 (li (a9 ⟨n,off,bi⟩)) 2=a9 (li (a9 ⟨n,off+8,bi⟩))) /\
  (∀ n off:Nat,aJ Tryz.prog 83 (li (a9 ⟨n,off,bi⟩)) 3=a9 (li (a9 ⟨n,off+9,bi⟩))) /\
  (∀ n off:Nat,aJ Tryz.prog 83 (li (a9 ⟨n,off,bi⟩)) 4=a9 (li (a9 ⟨n,off+10,bi⟩))) /\
  (∀ n off:Nat,aJ Tryz.prog 90 (li (a9 ⟨n,off,bi⟩)) 0=a9 (li (a9 ⟨n,off,bi⟩))) /\
  (∀ n off:Nat,aJ Tryz.prog 90 (li (a9 ⟨n,off,bi⟩)) 1=a9 (li (a9 ⟨n,off+1,bi⟩))) /\
  (∀ n off:Nat,aJ Tryz.prog 150 (li (a9 ⟨n,off,bi⟩)) 0=a9 (li (a9 ⟨n,off,bi⟩))) /\
  (∀ n off:Nat,aJ Tryz.prog 150 (li (a9 ⟨n,off,bi⟩)) 1=a9 (li (a9 ⟨n,off+1,bi⟩))) /\
  (∀ n off:Nat,aJ Tryz.prog 163 (li (a9 ⟨n,off,bi⟩)) 0=a9 (li (a9 ⟨n,off,bi⟩))) /\
  (∀ n off:Nat,aJ Tryz.prog 163 (li (a9 ⟨n,off,bi⟩)) 1=a9 (li (a9 ⟨n,off+1,bi⟩))):=by
 refine⟨?_,?_,?_,?_,?_,?_,?_,?_,?_,?_,?_,?_,?_,?_,?_,?_,?_,?_,?_,?_,?_,?_,?_,?_,?_,?_,?_,?_,?_,?_,?_,?_,?_,?_,?_,?_,?_,?_,?_,?_⟩
 all_goals first|trivial|(intros; kernel_rfl)
def WG :
  (True):=by
 refine ?_
 all_goals first|trivial|(intros; kernel_rfl)
def WZ :
  (True):=by
 refine ?_
 all_goals first|trivial|(intros; kernel_rfl)
def WK :
  (br Tryz.prog 3=a9 1) /\
  (fj Tryz.prog 3=a9 ci) /\
  (br Tryz.prog 4=a9 1) /\
  (fj Tryz.prog 4=a9 ci) /\
  (br Tryz.prog 5=a9 1) /\
  (fj Tryz.prog 5=a9 ci) /\
  (fj Tryz.prog 9=a9 ci) /\
  (br Tryz.prog 23=a9 1) /\
  (fj Tryz.prog 23=a9 ci) /\
  (br Tryz.prog 25=a9 1) /\
  (fj Tryz.prog 25=a9 ci) /\
  (br Tryz.prog 39=a9 1) /\
  (fj Tryz.prog 39=a9 ci) /\
  (br Tryz.prog 41=a9 3) /\
  (fj Tryz.prog 41=a9 bv) /\
  (br Tryz.prog 44=a9 5) /\
  (fj Tryz.prog 44=a9 bv) /\
  (fj Tryz.prog 56=a9 ci) /\
  (br Tryz.prog 58=a9 10) /\
  (fj Tryz.prog 58=a9 bv) /\
  (br Tryz.prog 64=a9 7) /\
  (fj Tryz.prog 64=a9 bv) /\
  (br Tryz.prog 77=a9 6) /\
  (br Tryz.prog 86=a9 5) /\
  (fj Tryz.prog 88=a9 ci) /\
  (br Tryz.prog 150=a9 2) /\
  (br Tryz.prog 164=a9 14) /\
  (br Tryz.prog 165=a9 28) /\
  (fj Tryz.prog 167=a9 ci):=by
 refine⟨?_,?_,?_,?_,?_,?_,?_,?_,?_,?_,?_,?_,?_,?_,?_,?_,?_,?_,?_,?_,?_,?_,?_,?_,?_,?_,?_,?_,?_⟩
 all_goals first|trivial|(intros; kernel_rfl)
def xZ :
  (zeroOf Tryz.prog 3=a9 (jp kw 0)) /\
  (zeroOf Tryz.prog 41=a9 (.agg #[lm bi 0 0,jp kw 0,jp kw 0])) /\
  (zeroOf Tryz.prog 44=a9 (.agg #[jp kw 0,jp kw 0,ls ci,ls ci,ls ci])) /\
  (zeroOf Tryz.prog 58=a9 (.agg #[jp kw 0,jp kw 0,jp kw 0,jp kw 0,jp kw 0,jp kw 0,ls ci,ls ci,ls ci,.string .empty])) /\
  (zeroOf Tryz.prog 77=a9 (.agg #[jp kw 0,jp kw 0,jp kw 0,ls ci,ls ci,ls ci])) /\
  (zeroOf Tryz.prog 86=a9 (.agg #[.nilFunc,.nilFunc,.nilFunc,.nilFunc,.nilFunc])) /\
  (zeroOf Tryz.prog 121=a9 (.agg #[.nilFunc,.nilFunc,.nilFunc,.nilFunc,.nilFunc,.nilFunc,.nilFunc,.nilFunc,.nilFunc])) /\
  (zeroOf Tryz.prog 150=a9 (.agg #[.int .u8 0,.int .u8 0])) /\
  (zeroOf Tryz.prog 164=a9 (.agg #[jp kw 0,jp kw 0,jp kw 0,jp kw 0,jp kw 0,jp kw 0,jp kw 0,jp kw 0,jp kw 0,jp kw 0,jp kw 0,jp kw 0,jp kw 0,jp kw 0])) /\
  (zeroOf Tryz.prog 165=a9 (.agg #[jp kw 0,jp kw 0,jp kw 0,jp kw 0,jp kw 0,jp kw 0,jp kw 0,jp kw 0,jp kw 0,jp kw 0,jp kw 0,jp kw 0,jp kw 0,jp kw 0,jp kw 0,jp kw 0,jp kw 0,jp kw 0,jp kw 0,jp kw 0,jp kw 0,jp kw 0,jp kw 0,jp kw 0,jp kw 0,jp kw 0,jp kw 0,jp kw 0])) /\
  (zeroOf Tryz.prog 189=a9 (.agg #[.int .u8 0,.int .u8 0,.int .u8 0,.int .u8 0,.int .u8 0,.int .u8 0,.int .u8 0,.int .u8 0,.int .u8 0,.int .u8 0,.int .u8 0,.int .u8 0,.int .u8 0,.int .u8 0,.int .u8 0,.int .u8 0,.int .u8 0,.int .u8 0,.int .u8 0,.int .u8 0,.int .u8 0,.int .u8 0,.int .u8 0,.int .u8 0])):=by
 refine⟨?_,?_,?_,?_,?_,?_,?_,?_,?_,?_,?_⟩
 all_goals first|trivial|(intros; kernel_rfl)
def WD :
  (Tryz.prog.underlying 22=a9 (.slice 3)) /\
  (Tryz.prog.underlying 23=a9 (.slice 58)) /\
  (Tryz.prog.underlying 25=a9 (.slice 5)) /\
  (Tryz.prog.underlying 39=a9 (.slice 56)) /\
  (Tryz.prog.underlying 56=a9 (.slice 77)) /\
  (Tryz.prog.underlying 87=a9 (.slice 41)) /\
  (Tryz.prog.underlying 167=a9 (.slice 163)) /\
  (Tryz.prog.underlying 186=a9 (.slice 39)):=by
 refine⟨?_,?_,?_,?_,?_,?_,?_,?_⟩
 all_goals first|trivial|(intros; kernel_rfl)
def WM :
  (cY Tryz.prog 41 []=a9 (.agg #[lm bi 0 0,jp kw 0,jp kw 0])) /\
  (∀(x1:Int),cY Tryz.prog 41 [(1,jp kw x1)]=a9 (.agg #[lm bi 0 0,jp kw x1,jp kw 0])) /\
  (cY Tryz.prog 44 []=a9 (.agg #[jp kw 0,jp kw 0,ls ci,ls ci,ls ci])) /\
  (cY Tryz.prog 58 []=a9 (.agg #[jp kw 0,jp kw 0,jp kw 0,jp kw 0,jp kw 0,jp kw 0,ls ci,ls ci,ls ci,.string .empty])) /\
  (∀(x2:Int),cY Tryz.prog 58 [(0,jp kw x2)]=a9 (.agg #[jp kw x2,jp kw 0,jp kw 0,jp kw 0,jp kw 0,jp kw 0,ls ci,ls ci,ls ci,.string .empty])) /\
  (∀(x3 x4 x5:Int),cY Tryz.prog 58 [(0,jp kw x3),(1,jp kw x4),(2,jp kw x5)]=a9 (.agg #[jp kw x3,jp kw x4,jp kw x5,jp kw 0,jp kw 0,jp kw 0,ls ci,ls ci,ls ci,.string .empty])) /\
  (∀(x6 x7 x8 x9:Int),cY Tryz.prog 58 [(0,jp kw x6),(1,jp kw x7),(2,jp kw x8),(3,jp kw x9)]=a9 (.agg #[jp kw x6,jp kw x7,jp kw x8,jp kw x9,jp kw 0,jp kw 0,ls ci,ls ci,ls ci,.string .empty])) /\
  (∀(x10:Int)(b c e g h:go),cY Tryz.prog 58 [(0,jp kw x10),(4,.agg #[b,c,e,g,h])]=a9 (.agg #[jp kw x10,jp kw 0,jp kw 0,jp kw 0,b,c,e,g,h,.string .empty])) /\
  (∀(x12:Int)(x13:ByteArray),cY Tryz.prog 58 [(0,jp kw x12),(5,.string x13)]=a9 (.agg #[jp kw x12,jp kw 0,jp kw 0,jp kw 0,jp kw 0,jp kw 0,ls ci,ls ci,ls ci,.string x13])) /\
  (∀(x14:Int),cY Tryz.prog 66 [(5,jp kw x14)]=a9 (.agg #[jp kw 0,jp kw 0,jp kw 0,jp kw 0,ls ci,ls ci,ls ci,jp kw 0,jp kw 0,jp kw 0,jp kw 0,ls ci,ls ci,ls ci,lm bi 0 0,ls ci,jp kw 0,jp kw x14,jp kw 0,lm bi 0 0,lm bi 0 0,ls ci,.int .u8 0])) /\
  (∀(x16:Int),cY Tryz.prog 77 [(0,jp kw x16)]=a9 (.agg #[jp kw x16,jp kw 0,jp kw 0,ls ci,ls ci,ls ci])) /\
  (∀(x17:Int)(j k l m n:go),cY Tryz.prog 77 [(0,jp kw x17),(1,.agg #[j,k,l,m,n])]=a9 (.agg #[jp kw x17,j,k,l,m,n])) /\
  (∀(o p q:go)(x20 x21:Int)(x22:Bool),cY Tryz.prog 83 [(0,.agg #[o,p,q]),(2,jp kw x20),(3,jp kw x21),(4,ls x22)]=a9 (.agg #[o,p,q,jp kw 0,jp kw 0,ls ci,ls ci,ls ci,jp kw x20,jp kw x21,ls x22])) /\
  (∀(x23:Fn)(y23 z23:Array go)(x24:Fn)(y24 z24:Array go)(x25:Fn)(y25 z25:Array go)(x26:Fn)(y26 z26:Array go)(x27:Fn)(y27 z27:Array go),cY Tryz.prog 86 [(0,.func x23 y23 z23),(1,.func x24 y24 z24),(2,.func x25 y25 z25),(3,.func x26 y26 z26),(4,.func x27 y27 z27)]=a9 (.agg #[.func x23 y23 z23,.func x24 y24 z24,.func x25 y25 z25,.func x26 y26 z26,.func x27 y27 z27])) /\
  (cY Tryz.prog 90 []=a9 (.agg #[lm bi 0 0,jp kw 0,jp kw 0,ls ci,ls ci,ls ci])) /\
  (cY Tryz.prog 118 []=a9 (.agg #[])) /\
  (∀(x28 x29:Int),cY Tryz.prog 163 [(0,jp kw x28),(1,jp kw x29)]=a9 (.agg #[jp kw x28,jp kw x29])) /\
  (∀(r s t v x y z A B C D F G I:go),cY Tryz.prog 164 [(0,.agg #[r,s]),(1,.agg #[t,v]),(2,.agg #[x,y]),(3,.agg #[z,A]),(4,.agg #[B,C]),(5,.agg #[D,F]),(6,.agg #[G,I])]=a9 (.agg #[r,s,t,v,x,y,z,A,B,C,D,F,G,I])) /\
  (∀(J M O R S T U V X Y Z c42_1 c43_0 c43_1 c44_0 c44_1 c45_0 c45_1 c46_0 c46_1 c47_0 c47_1 c48_0 c48_1 c49_0 c49_1 c50_0 c50_1:go),cY Tryz.prog 165 [(0,.agg #[J,M]),(1,.agg #[O,R]),(2,.agg #[S,T]),(3,.agg #[U,V]),(4,.agg #[X,Y]),(5,.agg #[Z,c42_1]),(6,.agg #[c43_0,c43_1]),(7,.agg #[c44_0,c44_1]),(8,.agg #[c45_0,c45_1]),(9,.agg #[c46_0,c46_1]),(10,.agg #[c47_0,c47_1]),(11,.agg #[c48_0,c48_1]),(12,.agg #[c49_0,c49_1]),(13,.agg #[c50_0,c50_1])]=a9 (.agg #[J,M,O,R,S,T,U,V,X,Y,Z,c42_1,c43_0,c43_1,c44_0,c44_1,c45_0,c45_1,c46_0,c46_1,c47_0,c47_1,c48_0,c48_1,c49_0,c49_1,c50_0,c50_1])):=by
 refine⟨?_,?_,?_,?_,?_,?_,?_,?_,?_,?_,?_,?_,?_,?_,?_,?_,?_,?_,?_⟩
 all_goals first|trivial|(intros; kernel_rfl)
def Xb :
  (∀ H:aa,∀(x51:Int),bN Tryz.prog H 22 1 [(0,jp kw x51)]=(cJ H 3 [jp kw x51] ci).map fun g=>(lm (a9 ⟨H.next,0,a9 0⟩) 1 1,g)) /\
  (∀ H:aa,∀(x52 x53:Int),bN Tryz.prog H 22 2 [(0,jp kw x52),(1,jp kw x53)]=(cJ H 3 [jp kw x52,jp kw x53] ci).map fun g=>(lm (a9 ⟨H.next,0,a9 0⟩) 2 2,g)) /\
  (∀ H:aa,∀(x54 x55 x56:Int),bN Tryz.prog H 22 3 [(0,jp kw x54),(1,jp kw x55),(2,jp kw x56)]=(cJ H 3 [jp kw x54,jp kw x55,jp kw x56] ci).map fun g=>(lm (a9 ⟨H.next,0,a9 0⟩) 3 3,g)) /\
  (∀ H:aa,∀(r s t v x y z A B C:go),bN Tryz.prog H 23 1 [(0,.agg #[r,s,t,v,x,y,z,A,B,C])]=(cJ H 58 [r,s,t,v,x,y,z,A,B,C] ci).map fun g=>(lm (a9 ⟨H.next,0,a9 0⟩) 1 1,g)) /\
  (∀ H:aa,∀(D:Int),bN Tryz.prog H 25 1 [(0,.int .u8 D)]=(cJ H 5 [.int .u8 D] ci).map fun g=>(lm (a9 ⟨H.next,0,a9 0⟩) 1 1,g)) /\
  (∀ H:aa,∀(F G:Int),bN Tryz.prog H 25 2 [(0,.int .u8 F),(1,.int .u8 G)]=(cJ H 5 [.int .u8 F,.int .u8 G] ci).map fun g=>(lm (a9 ⟨H.next,0,a9 0⟩) 2 2,g)) /\
  (∀ H:aa,∀(I J M:Int),bN Tryz.prog H 25 3 [(0,.int .u8 I),(1,.int .u8 J),(2,.int .u8 M)]=(cJ H 5 [.int .u8 I,.int .u8 J,.int .u8 M] ci).map fun g=>(lm (a9 ⟨H.next,0,a9 0⟩) 3 3,g)) /\
  (∀ H:aa,∀(O R S T:Int),bN Tryz.prog H 25 4 [(0,.int .u8 O),(1,.int .u8 R),(2,.int .u8 S),(3,.int .u8 T)]=(cJ H 5 [.int .u8 O,.int .u8 R,.int .u8 S,.int .u8 T] ci).map fun g=>(lm (a9 ⟨H.next,0,a9 0⟩) 4 4,g)) /\
  (∀ H:aa,∀(U:Option Addr)(V X:Nat),bN Tryz.prog H 39 1 [(0,.slice U V X)]=(cJ H 56 [.slice U V X] ci).map fun g=>(lm (a9 ⟨H.next,0,a9 0⟩) 1 1,g)) /\
  (∀ H:aa,bN Tryz.prog H 56 0 []=(cJ H 77 [] ci).map fun g=>(lm (a9 ⟨H.next,0,a9 0⟩) 0 0,g)) /\
  (∀ H:aa,∀(b c e h j k:go),bN Tryz.prog H 56 1 [(0,.agg #[b,c,e,h,j,k])]=(cJ H 77 [b,c,e,h,j,k] ci).map fun g=>(lm (a9 ⟨H.next,0,a9 0⟩) 1 1,g)) /\
  (∀ H:aa,∀(l m n o p q:go),bN Tryz.prog H 87 2 [(0,.agg #[l,m,n]),(1,.agg #[o,p,q])]=(cJ H 41 [l,m,n,o,p,q] ci).map fun g=>(lm (a9 ⟨H.next,0,a9 0⟩) 2 2,g)) /\
  (∀ H:aa,∀(Y:Option Addr)(Z z129:Nat)(x130:Option Addr)(y130 z130:Nat),bN Tryz.prog H 186 2 [(0,.slice Y Z z129),(1,.slice x130 y130 z130)]=(cJ H 39 [.slice Y Z z129,.slice x130 y130 z130] ci).map fun g=>(lm (a9 ⟨H.next,0,a9 0⟩) 2 2,g)) /\
  (∀ H:aa,∀(x131:Option Addr)(y131 z131:Nat)(x132:Option Addr)(y132 z132:Nat)(x133:Option Addr)(y133 z133:Nat),bN Tryz.prog H 186 3 [(0,.slice x131 y131 z131),(1,.slice x132 y132 z132),(2,.slice x133 y133 z133)]=(cJ H 39 [.slice x131 y131 z131,.slice x132 y132 z132,.slice x133 y133 z133] ci).map fun g=>(lm (a9 ⟨H.next,0,a9 0⟩) 3 3,g)):=by
 refine⟨?_,?_,?_,?_,?_,?_,?_,?_,?_,?_,?_,?_,?_,?_⟩
 all_goals first|trivial|(intros; kernel_rfl)
def Xc :
  (True):=by
 refine ?_
 all_goals first|trivial|(intros; kernel_rfl)
def WW :
  (∀ v:go,JI Tryz.prog 118 v=a9 (.iface 118 v)):=by
 refine ?_
 all_goals first|trivial|(intros; kernel_rfl)
def WV :
  (∀(H:aa)(a:Addr),fV Tryz.prog H .neq 30 (li (a9 a)) (li bi)=a9 (ls bv)) /\
  (∀(H:aa)(a:Addr)(n c:Nat),fV Tryz.prog H .eql 56 (lm (a9 a) n c) (lm bi 0 0)=a9 (ls ci)) /\
  (∀(H:aa)(f:Fn)(a b:Array go),fV Tryz.prog H .neq 153 (.func f a b) (.nilFunc)=a9 (ls bv)):=by
 refine⟨?_,?_,?_⟩
 all_goals first|trivial|(intros; kernel_rfl)
def WI :
  (aD Tryz.prog 6=bv) /\
  (aD Tryz.prog 7=bv) /\
  (aD Tryz.prog 10=bv) /\
  (aD Tryz.prog 14=bv) /\
  (aD Tryz.prog 15=bv) /\
  (aD Tryz.prog 19=bv) /\
  (aD Tryz.prog 21=bv) /\
  (aD Tryz.prog 22=bv) /\
  (aD Tryz.prog 24=bv) /\
  (aD Tryz.prog 26=bv) /\
  (aD Tryz.prog 32=bv) /\
  (aD Tryz.prog 34=bv) /\
  (aD Tryz.prog 36=bv) /\
  (aD Tryz.prog 37=bv) /\
  (aD Tryz.prog 39=bv) /\
  (aD Tryz.prog 40=bv) /\
  (aD Tryz.prog 46=bv) /\
  (aD Tryz.prog 47=bv) /\
  (aD Tryz.prog 48=bv) /\
  (aD Tryz.prog 49=bv) /\
  (aD Tryz.prog 50=bv) /\
  (aD Tryz.prog 51=bv) /\
  (aD Tryz.prog 52=bv) /\
  (aD Tryz.prog 53=bv) /\
  (aD Tryz.prog 61=bv) /\
  (aD Tryz.prog 71=bv) /\
  (aD Tryz.prog 73=bv) /\
  (aD Tryz.prog 75=bv) /\
  (aD Tryz.prog 77=bv) /\
  (aD Tryz.prog 78=bv) /\
  (aD Tryz.prog 79=bv) /\
  (aD Tryz.prog 80=bv) /\
  (aD Tryz.prog 81=bv) /\
  (aD Tryz.prog 83=bv) /\
  (aD Tryz.prog 85=bv) /\
  (aD Tryz.prog 86=bv) /\
  (aD Tryz.prog 87=bv) /\
  (aD Tryz.prog 88=bv) /\
  (aD Tryz.prog 89=bv) /\
  (aD Tryz.prog 92=bv) /\
  (aD Tryz.prog 100=bv) /\
  (aD Tryz.prog 101=bv) /\
  (aD Tryz.prog 102=bv) /\
  (aD Tryz.prog 112=bv) /\
  (aD Tryz.prog 113=bv) /\
  (aD Tryz.prog 114=bv) /\
  (aD Tryz.prog 115=bv) /\
  (aD Tryz.prog 116=bv) /\
  (aD Tryz.prog 118=bv) /\
  (aD Tryz.prog 120=bv) /\
  (aD Tryz.prog 121=bv) /\
  (aD Tryz.prog 122=bv) /\
  (aD Tryz.prog 123=bv) /\
  (aD Tryz.prog 124=bv) /\
  (aD Tryz.prog 129=bv) /\
  (aD Tryz.prog 133=bv) /\
  (aD Tryz.prog 135=bv) /\
  (aD Tryz.prog 137=bv) /\
  (aD Tryz.prog 146=bv) /\
  (aD Tryz.prog 151=bv) /\
  (aD Tryz.prog 152=bv) /\
  (aD Tryz.prog 153=bv) /\
  (aD Tryz.prog 156=bv) /\
  (aD Tryz.prog 157=bv) /\
  (aD Tryz.prog 158=bv) /\
  (aD Tryz.prog 159=bv) /\
  (aD Tryz.prog 160=bv) /\
  (aD Tryz.prog 161=bv) /\
  (aD Tryz.prog 162=bv) /\
  (aD Tryz.prog 163=bv) /\
  (aD Tryz.prog 164=bv) /\
  (aD Tryz.prog 165=bv):=by
 refine⟨?_,?_,?_,?_,?_,?_,?_,?_,?_,?_,?_,?_,?_,?_,?_,?_,?_,?_,?_,?_,?_,?_,?_,?_,?_,?_,?_,?_,?_,?_,?_,?_,?_,?_,?_,?_,?_,?_,?_,?_,?_,?_,?_,?_,?_,?_,?_,?_,?_,?_,?_,?_,?_,?_,?_,?_,?_,?_,?_,?_,?_,?_,?_,?_,?_,?_,?_,?_,?_,?_,?_,?_⟩
 all_goals first|trivial|(intros; kernel_rfl)
def WN :
  (∀ N:Nat,bj Tryz.prog N (.global 0)=bv) /\
  (∀ N:Nat,bj Tryz.prog N (.global 1)=bv):=by
 refine⟨?_,?_⟩
 all_goals first|trivial|(intros; kernel_rfl)
def xF:type_of% (zA0 @W0 ( zA0 @WG ( zA0 @WZ ( zA0 @WK ( zA0 @xZ ( zA0 @WD ( zA0 @WM ( zA0 @Xb ( zA0 @Xc ( zA0 @WW ( zA0 @WV ( zA0 @WI ( zA0 @WN (@WO)))))))))))))) :=
 zA0 @W0 ( zA0 @WG ( zA0 @WZ ( zA0 @WK ( zA0 @xZ ( zA0 @WD ( zA0 @WM ( zA0 @Xb ( zA0 @Xc ( zA0 @WW ( zA0 @WV ( zA0 @WI ( zA0 @WN (@WO)))))))))))))
end Go.Proofs.YtpohjcacnkhnkaaGreatDoor
theorem Go.Ax.W9(a:Nat)(b:List Go.Value):Go.Ax.dj [] a b=[]:=rfl
theorem Go.Ax.WU(x:Go.Value)(r:List Go.Value):Go.Ax.dj (x::r) 0 []=x::r:=rfl
theorem Go.Ax.Xa(x y:Go.Value)(r s:List Go.Value):Go.Ax.dj (x::r) 0 (y::s)=y::Go.Ax.dj r 0 s:=rfl
theorem Go.Ax.WH(x:Go.Value)(r s:List Go.Value)(k:Nat):Go.Ax.dj (x::r) (k+1) s=x::Go.Ax.dj r k s:=rfl
theorem Go.Ax.WJ(E:Go.Ax.Env)(k:Nat):Go.Ax.gE E k []=E:=rfl
theorem Go.Ax.WL(E:Go.Ax.Env)(k:Nat)(v:Go.Value)(r:List Go.Value):Go.Ax.gE E k (v::r)=Go.Ax.gE (Go.Ax.cH E k v) (k+1) r:=rfl
def Go.Ax.zW:type_of% (zA0 @Go.Ax.aF (zA0 @Go.Ax.gV (zA0 @Go.Proofs.YtpohjcacnkhnkaaGreatDoor.xF (zA0 @Go.Ax.WJ (zA0 @Go.Ax.WL (zA0 @Go.Ax.W9 (zA0 @Go.Ax.WU (zA0 @Go.Ax.Xa @Go.Ax.WH)))))))) :=
 zA0 @Go.Ax.aF (zA0 @Go.Ax.gV (zA0 @Go.Proofs.YtpohjcacnkhnkaaGreatDoor.xF (zA0 @Go.Ax.WJ (zA0 @Go.Ax.WL (zA0 @Go.Ax.W9 (zA0 @Go.Ax.WU (zA0 @Go.Ax.Xa @Go.Ax.WH)))))))
namespace Go.Proofs.YtpohjcacnkhnkaaGreatDoor.Tq
structure Lk where
 fore:Int
 back:Int
 bold:Bool
 under:Bool
 inv:Bool
deriving DecidableEq
def Lk.no:Lk:=⟨0,0,ci,ci,ci⟩
structure Ce where
 rune:Int
 look:Lk
deriving DecidableEq
def sp:Ce:=⟨32,Lk.no⟩
structure AW where
 wd:Int->Nat
 full:List UInt8->Bool
 dec:List UInt8->Int × Nat
structure Tm where
 row:Int
 col:Int
 b7:Lk
 srow:Int
 scol:Int
 spen:Lk
 aj:List (List Ce)
 shown:Bool
 top:Int
 bottom:Int
 mode:Nat
 rest:List UInt8
 params:List UInt8
 middle:Bool
 last:UInt8
deriving DecidableEq
def Tm.new(h w:Nat):Tm:=⟨0,0,.no,0,0,.no,List.replicate h (List.replicate w sp),ci,0,h-1,0,[],[],ci,0⟩
def Tm.cd(t:Tm):Int:=t.aj.length
def Tm.width(t:Tm):Int:=(t.aj.headD []).length
def Tm.inside(t:Tm):Int:=min t.col (t.width-1)
def ic(l:List Ce)(a b:Nat):List Ce :=
 let l:=if a<b/\(l.getD a sp).rune=-1 then l.set (a-1) sp else l
 let l:=if a<b/\b<l.length/\(l.getD b sp).rune=-1 then l.set b sp else l
 l.take a++List.replicate (b-a) sp++l.drop (max a b)
def Tm.GP(t:Tm)(k:Nat)(f:List Ce->List Ce):Tm:={t with aj:=t.aj.set k (f (t.aj.getD k []))}
def Tm.blank(t:Tm)(k a b:Int):Tm:=t.GP k.toNat fun l=>ic l a.toNat b.toNat
def Tm.write(u:AW)(t:Tm)(c:Int):Tm :=
 let n:=u.wd c
 if n=0\/t.col+n>t.width then t else
 let t:=t.blank t.row t.col (t.col+n)
 let t:=t.GP t.row.toNat fun l=>l.set t.col.toNat ⟨c,t.b7⟩
 let t:=if n=2 then t.GP t.row.toNat fun l=>l.set (t.col.toNat+1) ⟨-1,t.b7⟩ else t
 {t with col:=t.col+n}
def jw(w:Nat)(g:List (List Ce))(top b n:Nat)(up:Bool):List (List Ce) :=
 let len:=b+1-top
 let n:=min n len
 let c:=(g.drop top).take len
 let new:=List.replicate n (List.replicate w sp)
 g.take top++(if up then c.drop n++new else new++c.take (len-n))++g.drop (top+len)
def Tm.fA(t:Tm)(top b n:Int)(up:Bool):Tm:={t with aj:=jw t.width.toNat t.aj top.toNat b.toNat n.toNat up}
def Tm.control(t:Tm)(c:Int):Tm :=
 if c=8 then {t with col:=max 0 (t.inside-1)}
 else if c=9 then {t with col:=min (t.width-1) (t.col-t.col % 8+8)}
 else if c=10 then (if t.row=t.bottom then t.fA t.top t.bottom 1 bv else {t with row:=min (t.row+1) (t.cd-1)})
 else if c=13 then {t with col:=0}
 else t
def Tm.character(u:AW)(t:Tm)(c:Int):Tm:=if c<32\/c=127 then t.control c else t.write u c
def Tm.drain(u:AW):Nat->Tm->Tm × Nat
 |0,t=>(t,0)
 |k+1,t =>
  if t.rest≠[]/\u.full t.rest=bv then
   if t.rest.headD 0=27 then ({t with rest:=[]},1)
   else
    let (r,n):=u.dec t.rest
    let t:=if r≠65533\/n>1 then t.character u r else t
    Tm.drain u k {t with rest:=t.rest.drop n}
  else (t,0)
def Tm.plain(u:AW)(t:Tm)(c:UInt8):Tm × Nat:=Tm.drain u (t.rest.length+2) {t with rest:=t.rest++[c]}
def Tm.second(t:Tm)(c:UInt8):Tm × Nat :=
 if c=91 then ({t with params:=[],middle:=false},3)
 else if c=93 then ({t with last:=0},4)
 else if c=27 then (t,1)
 else if 32<=c/\c<48 then (t,2)
 else if c=55 then ({t with srow:=t.row,scol:=t.col,spen:=t.b7},0)
 else if c=56 then ({t with row:=t.srow,col:=t.scol,b7:=t.spen},0)
 else if c=99 then (Tm.new t.cd.toNat t.width.toNat,0)
 else if c=77/\t.row=t.top then (t.fA t.top t.bottom 1 ci,0)
 else if c=77 then ({t with row:=max 0 (t.row-1)},0)
 else (t,0)
def count(p:List Int):Int:=max 1 (p.headD 0)
def snd(p:List Int):Int:=p.getD 1 0
def Tm.bQ(t:Tm)(r c:Int):Tm:={t with row:=max 0 (min r (t.cd-1)),col:=max 0 (min c (t.width-1))}
def Tm.cg(t:Tm)(p:List Int):Tm :=
 if p.headD 0=0 then t.blank t.row t.inside t.width
 else if p.headD 0=1 then t.blank t.row 0 (t.inside+1)
 else if p.headD 0=2 then t.blank t.row 0 t.width
 else t
def Tm.c9(p:List Int):Nat->Nat->Tm->Tm
 |_,0,t=>t
 |i,k+1,t =>
  let m:=p.headD 0
  let t:=if (i<t.row/\(m=1\/m=2))\/(i>t.row/\(m=0\/m=2)) then t.blank i 0 t.width else t
  Tm.c9 p (i+1) k t
def Tm.ig(t:Tm)(p:List Int):Tm:=Tm.c9 p 0 t.aj.length (t.cg p)
def Tm.lines(t:Tm)(n:Int)(up:Bool):Tm:=if t.row ≥ t.top/\t.row<=t.bottom then t.fA t.row t.bottom n up else t
def Tm.region(t:Tm)(p:List Int):Tm :=
 let top:=count p-1
 let b:=snd p-1
 let b:=if b<0\/b ≥ t.cd then t.cd-1 else b
 if top<=b then Tm.bQ {t with top:=top,bottom:=b} 0 0 else t
def Lk.attribute(l:Lk)(n:Int):Lk :=
 if n=0 then .no
 else if n=1\/n=22 then {l with bold:=n=1}
 else if n=4\/n=24 then {l with under:=n=4}
 else if n=7\/n=27 then {l with inv:=n=7}
 else if n=39 then {l with fore:=0}
 else if n=49 then {l with back:=0}
 else l
def Lk.attributes:List Int->Lk->Lk
 |[],l=>l
 |n::p,l =>
  if n=38\/n=48 then
   (match p with
   |a::b::p=>if a≠5\/b>255 then l else Lk.attributes p (if n=38 then {l with fore:=b+1} else {l with back:=b+1})
   |_=>l)
  else if 30<=n/\n<=37 then Lk.attributes p {l with fore:=n-29}
  else if 40<=n/\n<=47 then Lk.attributes p {l with back:=n-39}
  else Lk.attributes p (l.attribute n)
def numbers:List UInt8->List Int->Int->Option (List Int)
 |[],done,last=>a9 (done++[last])
 |c::r,done,last =>
  if c=59 then numbers r (done++[last]) 0
  else if 48<=c/\c<=57 then numbers r done (min 9999 (last*10+((c.toNat:Int)-48)))
  else bi
def Tm.cQ(t:Tm)(f:UInt8)(p:List Int):Tm :=
 if f=65 then t.bQ (t.row-count p) t.col
 else if f=66 then t.bQ (t.row+count p) t.col
 else if f=67 then t.bQ t.row (t.inside+count p)
 else if f=68 then t.bQ t.row (t.inside-count p)
 else if f=71 then t.bQ t.row (count p-1)
 else if f=100 then t.bQ (count p-1) t.col
 else if f=72\/f=102 then t.bQ (count p-1) (max 1 (snd p)-1)
 else if f=74 then t.ig p
 else if f=75 then t.cg p
 else if f=76 then t.lines (count p) ci
 else if f=77 then t.lines (count p) bv
 else if f=109 then {t with b7:=Lk.attributes p t.b7}
 else if f=114 then t.region p
 else t
def Tm.dP(t:Tm)(f:UInt8):Tm :=
 if t.params=[63,50,53]/\(f=104\/f=108) then {t with shown:=f=104}
 else match numbers t.params [] 0 with
  |some p=>t.cQ f p
  |none=>t
def Tm.parameter(t:Tm)(c:UInt8):Tm × Nat :=
 if c=27 then (t,1)
 else if 64<=c/\c<=126 then (if t.params.length<=64 then t.dP c else t,0)
 else if c<32\/c>126\/(c ≥ 48/\t.middle=bv) then (t,0)
 else
  let t:={t with middle:=t.middle||c<48}
  ((if t.params.length<=64 then {t with params:=t.params++[c]} else t),3)
def Tm.ignore(t:Tm)(c:UInt8):Tm × Nat:=if c=7\/(c=92/\t.last=27) then (t,0) else ({t with last:=c},4)
def Tm.step(u:AW)(t:Tm)(c:UInt8):Tm :=
 let (t,m):=match t.mode with
  |0=>t.plain u c
  |1=>t.second c
  |2=>(t,0)
  |3=>t.parameter c
  |_=>t.ignore c
 {t with mode:=m}
def Tm.feed(u:AW)(t:Tm)(b:List UInt8):Tm:=b.foldl (Tm.step u) t
def Tm.ez(u:AW)(t:Tm)(a b:List UInt8):t.feed u (a++b)=(t.feed u a).feed u b:=List.foldl_append
def dg(d:Nat):UInt8:=UInt8.ofNat (48+d)
def iJ(n:Nat):List UInt8 :=
 if n<10 then [dg n] else if n<100 then [dg (n / 10),dg (n % 10)] else if n<1000 then [dg (n / 100),dg (n / 10 % 10),dg (n % 10)]
 else [dg (n / 1000),dg (n / 100 % 10),dg (n / 10 % 10),dg (n % 10)]
def P8{d:Nat}(h:d<10):(dg d).toNat=48+d:=by unfold dg;rw[UInt8.toNat_ofNat'];omega
def np{d:Nat}(h:d<10)(r:List UInt8)(done:List Int)(last:Int)(j:last*10+(d:Int)<=9999):numbers (dg d::r) done last=numbers r done (last*10+(d:Int)):=by
 have e:=P8 h;rw[numbers];have b:¬dg d=59:=fun c=>by rw[c]at e; have:(59:UInt8).toNat=59:=rfl; omega
 have g:48<=dg d/\dg d<=57:=by
  constructor
  .rw[UInt8.le_iff_toNat_le]; have:(48:UInt8).toNat=48:=rfl; omega
  .rw[UInt8.le_iff_toNat_le]; have:(57:UInt8).toNat=57:=rfl; omega
 rw[if_neg b,if_pos g,e];congr 1;omega
def FH{n:Nat}(h:n<=9999)(r:List UInt8)(done:List Int):numbers (iJ n++r) done 0=numbers r done (n:Int):=by
 unfold iJ;split
 .rename_i b;rw[zE3,zB6,np b _ _ _ lw];congr 1;omega
 split
 .rw[zE3,zE3,zB6,np lw _ _ _ lw,np lw _ _ _ lw];congr 1;omega
 split
 .rw[zE3,zE3,zE3,zB6,np lw _ _ _ lw,np lw _ _ _ lw,np lw _ _ _ lw];congr 1;omega
 .rw[zE3,zE3,zE3,zE3,zB6,np lw _ _ _ lw,np lw _ _ _ lw,np lw _ _ _ lw,np lw _ _ _ lw];congr 1;omega
def dU:List Nat->List UInt8
 |[]=>[]
 |[n]=>iJ n
 |n::l=>iJ n++59::dU l
def Qh(r:List UInt8)(done:List Int)(last:Int):numbers (59::r) done last=numbers r (done++[last]) 0:=by rw[numbers,if_pos rfl]
def Ho:∀(l:List Nat)(done:List Int),l≠[]->(∀ n∈l,n<=9999)->numbers (dU l) done 0=a9 (done++l.map Int.ofNat)
 |[n],done,_,h=>by have:=FH (h n nl) [] done;rw[zC7]at this;rw[dU,this,numbers];rfl
 |n::m::l,done,_,h=>by
  rw[dU,FH (h n nl),Qh,Ho (m::l) _ nl fun k b=>h k (by simp[b])]
  .simp
  .simp
def Np(c:UInt8):Prop:=48<=c/\c<64
def ER{d:Nat}(h:d<10):Np (dg d):=by
 have e:=P8 h;constructor
 .rw[UInt8.le_iff_toNat_le]; have:(48:UInt8).toNat=48:=rfl; omega
 .rw[UInt8.lt_iff_toNat_lt]; have:(64:UInt8).toNat=64:=rfl; omega
def Gh(n:Nat)(h:n<=9999):(∀ c∈iJ n,Np c)/\(iJ n).length<=4:=by
 unfold iJ;refine⟨fun c b=>?_,?_⟩
 .split at b
  .simp only[zA5]at b; rw[b]; exact ER lw
  split at b
  .simp only[zA8,zD7,or_false]at b; rcases b with rfl|rfl<;>exact ER lw
  split at b
  .simp only[zA8,zD7,or_false]at b; rcases b with rfl|rfl|rfl<;>exact ER lw
  .simp only[zA8,zD7,or_false]at b; rcases b with rfl|rfl|rfl|rfl<;>exact ER lw
 .split
  .simp
  split
  .simp
  split<;>simp
def Gy:∀(l:List Nat),(∀ n∈l,n<=9999)->(∀ c∈dU l,Np c)/\(dU l).length<=5*l.length
 |[],_=>⟨(fun c b=>by cases b),by simp[dU]⟩
 |[n],h=>by have:=Gh n (h n nl);exact⟨this.1,by simp only[dU,zI0]; omega⟩
 |n::m::l,h=>by
  obtain⟨e,p⟩:=Gh n (h n nl);obtain⟨g,j⟩:=Gy (m::l) fun k o=>h k (by simp[o]);rw[dU]
  .refine⟨fun c b=>?_,?_⟩
   .rcases zB1.1 b with h|h
    .exact e c h
    .rcases zA8.1 h with rfl|h
     .exact⟨by decide,by decide⟩
     .exact g c h
   .simp only[zB3,zA9]at j ⊢;omega
  .simp
section
variable{u:AW}
structure Idle (t:Tm):Prop where
 mode:t.mode=0
 rest:t.rest=[]
def HL(e:u.full [27]=bv){t:Tm}(i:Idle t):t.step u 27={t with mode:=1}:=by obtain⟨b,c⟩:=i;cases t;simp only at b c;subst b c;simp[Tm.step,Tm.plain,Tm.drain,e]
def No{t:Tm}(h:t.mode=1):t.step u 91={t with params:=[],middle:=false,mode:=3}:=by unfold Tm.step Tm.second;rw[h];rfl
def Pp{t:Tm}(h:t.mode=3){c:UInt8}(k:Np c)(b:t.middle=ci)(l:t.params.length<=64):t.step u c={t with params:=t.params++[c]}:=by
 obtain⟨g,c2⟩:=k;have m:¬c=27:=fun e=>by subst e; exact absurd g ol
 rw[UInt8.le_iff_toNat_le]at g;rw[UInt8.lt_iff_toNat_lt]at c2;have n:(48:UInt8).toNat=48:=rfl;have o:(64:UInt8).toNat=64:=rfl;have p:¬(64<=c/\c<=126):=fun e=>by have:=UInt8.le_iff_toNat_le.1 e.1; omega
 have q:¬(c<32\/c>126\/(c ≥ 48/\t.middle=bv)):=fun e=>by
  have r:(32:UInt8).toNat=32:=rfl;have j:(126:UInt8).toNat=126:=rfl;rcases e with e|e|e
  .have:=UInt8.lt_iff_toNat_lt.1 e; omega
  .have:=UInt8.lt_iff_toNat_lt.1 (show (126:UInt8)<c from e); omega
  .rw[b]at e; exact absurd e.2 ol
 have s:¬c<48:=fun e=>by have:=UInt8.lt_iff_toNat_lt.1 e; omega
 unfold Tm.step Tm.parameter;rw[h];simp only[if_neg m,if_neg p,if_neg q];rw[if_pos l];cases t;simp only at b h;simp[b,s]
def Gg:∀(ps:List UInt8){t:Tm},t.mode=3->t.middle=ci->(∀ c∈ps,Np c)->t.params.length+ps.length<=65->t.feed u ps={t with params:=t.params++ps}
 |[],t,_,_,_,_=>by simp[Tm.feed]
 |c::ps,t,h,b,e,g=>by simp only[zA9]at g;have j:=Pp (u:=u) h (e c nl) b lw;show Tm.feed u (t.step u c) ps=_;rw[j,Gg ps (t:={t with params:=t.params++[c]}) h b (fun d k=>e d (by simp[k])) pp];simp
def Tm.m0(t:Tm):Tm:={t with mode:=0}
def Ha(g:u.full [27]=bv){t:Tm}(i:Idle t){ps:List UInt8}{f:UInt8}(h:∀ c∈ps,Np c)(j:ps.length<=64)(b:64<=f/\f<=126) :
  t.feed u (27::91::(ps++[f]))=(({t with mode:=3,params:=ps,middle:=false}:Tm).dP f).m0:=by
 have k:=HL g i;have s2:=No (u:=u) (t:={t with mode:=1}) rfl;have l:=Gg (u:=u) ps (t:={t with params:=[],middle:=false,mode:=3}) rfl rfl h pp;have m:¬f=27:=fun e=>by subst e; exact absurd b.1 ol
 show Tm.feed u ((t.step u 27).step u 91) (ps++[f])=_;rw[k,s2,Tm.ez,l];simp only[Tm.feed,List.foldl_cons,List.foldl_nil];unfold Tm.step Tm.parameter;simp only[if_neg m,if_pos b,zB6];rw[if_pos j];rfl
def HW(b:u.full [27]=bv){t:Tm}(i:Idle t)(c:UInt8):t.feed u [27,c]=({t with mode:=1}:Tm).step u c:=by show (t.step u 27).step u c=_;rw[HL b i]
end
end Go.Proofs.YtpohjcacnkhnkaaGreatDoor.Tq
namespace Go.Ax
def Ren.same:Ren:=⟨fun n=>n,fun _=>0,fun _=>0,fun _=>.nilIface,fun _=>rfl⟩
def Pg(P:ip)(w:i6):Rel P Ren.same (aa.none P.globals.size) w :=
 ⟨zA4 _,⟨zA4 _,fun _ _=>⟨rfl,rfl⟩⟩,fun m _ h=>absurd (qf _ m) h,fun n o h=>(by rw[qf]at h; cases h),fun n o h=>(by rw[qf]at h; cases h)⟩
def My:dx Fence.wide:=⟨fun _=>trivial,rfl,rfl⟩
def RT{P:ip}(g:P.follows .mixedOrders=bv){K:FuncId->List go->aa->Option go}(k:Bj P K){c:Nat}{f:FuncId}{args:List go}{v:go}{H H1:aa}{ρ:Ren}{w:i6}(r:Rel P ρ H w)
  (h:call P K c f args H=a9 (.ok v,H1)) (j:aT H.next args=bv) {F:Fence} {n:Nat} (l:dx F):CallsIn F n P f (args.map ρ.val).toArray w (fun e w'=>∃ b,e=.returned (b.val v)/\St P ρ H w b H1 w') :=
 zG (A4 g k c).1 r h j l (fun b w1 s _=>⟨b,rfl,s⟩)
def GD{u v:go}(h:KB u v=bv):u=v/\af v=true:=by
 unfold KB at h;split at h
 .simp only[zA6,decide_eq_true_eq]at h;obtain⟨rfl,rfl⟩:=h;exact⟨rfl,rfl⟩
 .simp only[beq_iff_eq]at h;subst h;exact⟨rfl,rfl⟩
 .cases h
def zO:∀ {u v:List go},GZ u v=bv->u=v/\∀ x∈v,af x=bv
 |[],[],_=>⟨rfl,fun _ h=>by cases h⟩
 |a::r,b::q,h=>by
  simp only[GZ,zA6]at h;obtain⟨c,e⟩:=GD h.1;obtain⟨g,j⟩:=zO h.2;refine⟨by rw[c,g],fun x hx=>?_⟩;rcases zA8.1 hx with rfl|hx
  .exact e
  .exact j x hx
 |[],_::_,h=>by cases h
 |_::_,[],h=>by cases h
def D5:∀ {l:List go},(∀ x∈l,af x=bv)->DO l=bv
 |[],_=>rfl
 |x::l,h=>by rw[DO,h x (zF2 ..),D5 fun y b=>h y (zB9 _ b)]; rfl
def OU{u v:go}(h:Lo u v=bv):u=v/\af v=true:=by
 unfold Lo at h;split at h
 .rename_i a b;obtain⟨c,e⟩:=zO h;obtain⟨a⟩:=a;obtain⟨b⟩:=b;simp only at c e;subst c;exact⟨rfl,by rw[af,Oc]; exact D5 e⟩
 .rename_i a b;obtain⟨c,e⟩:=zO h;obtain⟨a⟩:=a;obtain⟨b⟩:=b;simp only at c e;subst c;exact⟨rfl,by rw[af,Oc]; exact D5 e⟩
 .exact GD h
def Nl(P:ip):Bj P (PI []):=fun f args v H h=>by cases h
open Go.ChangeShapes
section
variable{P:ip}{K:Type}{enc:io × go -> K}{w:i6}{base:Nat}{spare:Nat -> Bool}{held:Bool}
def NI{f:FuncId}{args:List go}{H:aa}{ρ:Ren}(r:Rel P ρ H w)(c:aT H.next args=bv)(g:H.base=H.next)(k:H.dirty=[])(h:bF P f args H fun out H1=>out=.ok (ls bv)/\Mod [] H H1) :
  Calls P f (args.map ρ.val).toArray w (fun e w'=>e=.returned (ls bv)/\RowKit.Below w.heap.size w w'):=by
 obtain⟨_,H1,l,rfl,m⟩:=h;refine (callsIn_wide (n:=0)).1 (l ρ w r c Fence.wide 0 _ My ?_);intro o w1 s _;refine⟨by rw[Ren.val],s.os,s.tape,s.output,s.size,fun b p=>s.gO b p fun n q j _=>?_⟩;rcases j with h|h
 .omega
 .rcases m.dirty n h with h|h
  .rw[k]at h; cases h
  .exact absurd h.1 nl
end
section
variable{P:ip}{K:Type}{enc:io × go -> K}{w:i6}{base:Nat}{spare:Nat -> Bool}{held:Bool}
mutual
def dc:DataW K->List go
 |.lit (.int k z)=>[.int k z]
 |.lit (.bool b)=>[ls b]
 |.agg l=>Ui l
 |_=>[]
def Ui:List (DataW K)->List go
 |[]=>[]
 |d::r=>dc d++Ui r
end
mutual
def RI:DataW K->Bool
 |.lit (.int _ _)=>bv
 |.lit (.bool _)=>bv
 |.agg l=>Nw l
 |_=>ci
def Nw:List (DataW K)->Bool
 |[]=>bv
 |d::r=>RI d&&Nw r
end
def qd{α β:Type}{g:α->Option β}{a:α}{l:List α}{r:List β}(h:(a::l).mapM g=a9 r):∃ y ys,g a=a9 y/\l.mapM g=a9 ys/\r=y::ys:=by
 rw[List.mapM_cons]at h
 cases b:g a with
 |none=>rw[b]at h; cases h
 |some y =>
  rw[b]at h
  cases c:l.mapM g with
  |none=>simp[c]at h
  |some ys=>simp[c]at h; exact⟨y,ys,rfl,rfl,h.symm⟩
def tC{c d:Nat}{cs:List go}(p:∀(t:io)(ts:List io)(cs:List go)(x:DataW K × List MemPlace),flat P d t=a9 ts->br P t=a9 ts.length->DataW.trod enc P w base spare held c t cs=a9 x->RI x.1=bv->cs=dc x.1) :
  ∀(fs:List Field)(o:Nat)(ts:List io)(xs:List (DataW K × List MemPlace)),rK P (flat P d) fs o=a9 ts->(fs.mapM fun f=>DataW.trod enc P w base spare held c f.type ((cs.drop f.offset).take (P.cellsOf f.type)))=a9 xs->Nw (xs.map (·.1))=bv->o+ts.length<=cs.length->(cs.drop o).take ts.length=Ui (xs.map (·.1))
 |[],o,ts,xs,h,g,_,_=>by simp only[rK,i8]at h;subst h;simp at g;subst g;simp[Ui]
 |f::fs,o,ts,xs,h,g,j,k=>by
  simp only[rK]at h;split at h
  .rename_i r;obtain⟨_,s⟩:=r
   cases l:flat P d f.type with
   |none=>rw[l]at h; cases h
   |some a =>
    rw[l]at h;simp only at h;split at h
    .rename_i e
     cases m:rK P (flat P d) fs (o+a.length) with
     |none=>rw[m]at h; cases h
     |some b =>
      rw[m]at h;simp only[i8]at h;subst h;rw[zB3]at k;obtain⟨y,ys,q,n,rfl⟩:=qd g;simp only[zB8,Nw,zA6]at j;rw[s,bK e]at q;have v:=p f.type a _ y l e q j.1;have z:=tC p fs (o+a.length) b ys m n j.2 lw;have:(cs.drop o).take (a++b).length=(cs.drop o).take a.length++(cs.drop (o+a.length)).take b.length:=by rw[zB3,List.take_add,zH3]
      rw[this,v,z];simp only[zB8,Ui]
    .cases h
  .cases h
def Lv:∀(fuel d:Nat)(t:io)(ts:List io)(cs:List go)(x:DataW K × List MemPlace),flat P d t=a9 ts->br P t=a9 ts.length->DataW.trod enc P w base spare held fuel t cs=a9 x->RI x.1=bv->cs=dc x.1
 |0,_,_,_,_,_,_,_,h,_=>by simp[DataW.trod]at h
 |_+1,0,_,_,_,_,h,_,_,_=>by simp[flat]at h
 |fuel+1,d+1,t,ts,cs,x,b,l,h,g=>by
  simp only[flat]at b;unfold DataW.trod at h
  cases e:P.underlying t with
  |none=>rw[e]at b; cases b
  |some m =>
   rw[e]at b h
   cases m with
   |bool =>
    simp only at h;split at h<;>first|(simp only[i8]at h; subst h; rfl)|cases h|skip
    all_goals (rename_i n; cases n)
   |int k =>
    simp only at h;split at h<;>first|(simp only[i8]at h; subst h; simp_all []; done)|cases h|skip
    all_goals simp_all []
    all_goals (obtain⟨o,rfl⟩:=h; simp[dc])
   |string =>
    simp only at h;split at h<;>first|(simp only[i8]at h; subst h; simp[RI]at g; done)|cases h|skip
    all_goals simp_all
    all_goals (obtain⟨_,rfl⟩:=h; simp[RI]at g)
   |struct fs =>
    simp only at b;split at b
    .cases b
    .simp only at h;split at h
     .rename_i c;rw[bK l]at c
      cases j:fs.toList.mapM fun f=>DataW.trod enc P w base spare held fuel f.type ((cs.drop f.offset).take (P.cellsOf f.type)) with
      |none=>rw[j]at h; cases h
      |some xs =>rw[j]at h;simp only[zB2,i8]at h;subst h;simp only[RI]at g;have:=tC (cs:=cs) (fun t ts cs x=>Lv fuel d t ts cs x) fs.toList 0 ts xs b j g lw;rw[zD0,zD4 lw]at this;rw[this,dc]
     .cases h
   |_=>simp at b
def GB{α:Type}{m:Nat}:∀(n:Nat)(cs:List α),cs.length=n*m->cs=((List.range n).map fun i=>(cs.drop (i*m)).take m).flatten
 |0,cs,h=>by have:cs=[]:=zE5 (by simpa using h);subst this;rfl
 |n+1,cs,h=>by
  have b:(cs.drop m).length=n*m:=by rw[zC6,h,Nat.succ_mul]; omega
  have c:=GB n (cs.drop m) b;rw[List.range_succ_eq_map,zB8,List.flatten_cons,List.map_map,zH1,zD0];have:((List.range n).map ((fun i=>(cs.drop (i*m)).take m) ∘ Nat.succ))=(List.range n).map fun i=>((cs.drop m).drop (i*m)).take m:=by apply List.map_congr_left;intro i _;simp only[Function.comp,zH3,Nat.succ_mul];rw[Nat.add_comm]
  rw[this,<-c,zG9]
def Fx:∀(ds:List (DataW K)),Ui ds=(ds.map dc).flatten
 |[]=>rfl
 |d::r=>by simp only[Ui,zB8,List.flatten_cons,Fx r]
def FQ:∀ {ds:List (DataW K)},Nw ds=bv->∀ d∈ds,RI d=bv
 |[],_,_,h=>by cases h
 |d::r,h,x,hx=>by
  simp only[Nw,zA6]at h;rcases zA8.1 hx with rfl|hx
  .exact h.1
  .exact FQ h.2 x hx
def mapM_map{α β γ:Type}{f:α->Option β}{g:α->γ}{h:β->γ}:∀ {l:List α} {r:List β},l.mapM f=a9 r->(∀ a∈l,∀ b∈r,f a=a9 b->g a=h b)->l.map g=r.map h
 |[],r,c,_=>by simp at c; subst c; rfl
 |a::l,r,c,e=>by obtain⟨y,ys,j,k,rfl⟩:=qd c;rw[zB8,zB8,e a nl y nl j,mapM_map k fun a m b n=>e a (by simp[m]) b (by simp[n])]
def PX{b:Nat}{t e:io}{ts:List io}{D n:Nat}{cs:List go}{x:DataW K × List MemPlace}(m:P.underlying t=a9 (.array n e))(c:br P e=a9 ts.length)(g:flat P D e=a9 ts)(j:br P t=a9 (n*ts.length))
  (h:DataW.trod enc P w base spare held b t cs=a9 x) (l:RI x.1=bv):cs=dc x.1:=by
 cases b with
 |zero=>simp[DataW.trod]at h
 |succ b =>
  unfold DataW.trod at h;rw[m]at h;simp only[bK c,bK j]at h;split at h
  .rename_i o
   cases k:(List.range n).mapM fun i=>DataW.trod enc P w base spare held b e ((cs.drop (i*ts.length)).take ts.length) with
   |none=>rw[k]at h; cases h
   |some xs =>rw[k]at h;simp only[zB2,i8]at h;subst h;simp only[RI]at l;rw[dc,Fx,List.map_map];refine (GB n cs o).trans (congrArg List.flatten (mapM_map k fun i _ y p q=>?_));exact Lv b D e ts _ y g c q (FQ l _ (List.mem_map_of_mem p))
  .cases h
def KN:∀ {c:List (String × DataW Unit)} {ps:List MemPlace},DataW.LaidVars P w c ps->∀ {x:String × DataW Unit},x∈c->∃ g t cs b p,P.globalNamed x.1=a9 g/\(P.globals[g]?).map (·.type)=a9 t/\w.var? P x.1=a9 cs/\DataW.trod (fun _=>()) P w 0 (fun _=>bv) ci b t cs.toList=a9 (x.2,p)/\∀ y∈MemPlace.row ⟨g,0,bi⟩ cs.size,y∈ps
 |[],_,_,_,hx=>by cases hx
 |(n,d)::r,ps,h,x,hx=>by
  obtain⟨g,t,cs,b,p,q,j,k,l,m,o,rfl⟩:=h;rcases zA8.1 hx with rfl|hx
  .exact⟨g,t,cs,b,p,j,k,l,m,fun y e=>by simp[e]⟩
  .obtain⟨g,t,cs,b,p,s,v,z,A,B⟩:=KN o hx;exact⟨g,t,cs,b,p,s,v,z,A,fun y e=>by simp[B y e]⟩
def AX{b:List (String × DataW Unit)}(h:laidMet P b w){name:String}{d:DataW Unit}(hx:(name,d)∈b){g:Nat}{t e:io}{ts:List io}{D n:Nat}(r:P.globalNamed name=a9 g)(x:(P.globals[g]?).map (·.type)=a9 t)
  (y:P.underlying t=a9 (.array n e)) (m:br P e=a9 ts.length) (o:flat P D e=a9 ts) (q:br P t=a9 (n*ts.length)) (z:RI d=bv) (j:0<(dc d).length) :
  ∃ (c:Array go) (ty:io),w.heap[g]?=a9 (.cells c ty (0,0))/\c.toList=dc d:=by
 obtain⟨ps,A,_,B⟩:=h;obtain⟨M,O,cs,s,p,C,F,G,I,J⟩:=KN A hx;obtain rfl:=Option.some.inj (r.symm.trans C);obtain rfl:=Option.some.inj (x.symm.trans F);have l:=PX y m o q I z;have k:0<cs.size:=by rw[<-l]at j; simpa using j
 obtain⟨⟨c,ty,v⟩,_⟩:=B g 0 (J _ (by unfold MemPlace.row; rw[zC1]; exact⟨0,by simpa using k,rfl⟩));refine⟨c,ty,v,?_⟩;have:w.var? P name=a9 c:=by simp only[World.var?,r,zA3,v]
 obtain rfl:=Option.some.inj (this.symm.trans G);exact l
def D4(e:io)(vs:List go):dO:=⟨.cells #[] e,ci,RV.ofList vs⟩
def SW{ρ:Ren}{H:aa}{g:Nat}{e:io}{c:Array go}{vs:List go}(r:Rel P ρ H w)(G:g<P.globals.size)(v:ρ.ex g=0)(k:∀ n,H.get n≠bi->ρ.blk n=g->n=g)
  (I:w.heap[g]?=a9 (.cells c e (0,0))) (z:c.toList=vs) (A:DO vs=bv):Rel P ρ (H.put g (a9 (D4 e vs))) w:=by
 obtain⟨l,q⟩:=r.glob.2 g G
 have B:∀ x∈vs,af x=true:=by
  intro x hx;clear z k
  induction vs with
  |nil=>cases hx
  |cons y ys J =>
   simp only[DO,zA6]at A;rcases zA8.1 hx with rfl|hx
   .exact A.1
   .exact J A.2 hx
 have s:∀ i,i<vs.length->af (vs.getD i undef)=true:=fun i hi=>B _ (by simp[zC9,zB0 hi]);have b:∀ m,(H.put g (a9 (D4 e vs))).get m=if m=g then a9 (D4 e vs) else H.get m:=fun m=>aa.qW H g _ m
 refine⟨r.base,r.glob,fun m n t j C=>?_,fun n o j=>?_,fun n o j=>?_⟩
 .rw[b]at t j;by_cases D:m=g
  .subst D;by_cases p:n=m
   .exact .inl p.symm
   .rw[if_neg p]at j;exact .inl (k n j (C.symm.trans l)).symm
  .rw[if_neg D]at t;by_cases p:n=g
   .subst p;exact .inl (k m t (C.trans l))
   .rw[if_neg p]at j;rw[b,b,if_neg D,if_neg p];exact r.inj m n t j C
 .rw[b]at j;by_cases h:n=g
  .subst h;rw[if_pos rfl]at j;cases j;refine⟨zE0 G r.glob.1,?_⟩;simp only[l6,D4,RV.n_ofList,RV.cM];intro i hi;exact gv _ (s i hi)
  .rw[if_neg h]at j;exact r.dom n o j
 .rw[b]at j;by_cases h:n=g
  .subst h;rw[if_pos rfl]at j;cases j;refine⟨_,by rw[l]; exact I,?_⟩;have F:c.size=vs.length:=by rw[<-z]; simp
   simp only[Fits,D4];refine⟨c,(0,0),rfl,fun i hi=>?_,fun _=>⟨by rw[RV.n_ofList,F],q,v,rfl⟩,fun h=>(by cases h)⟩;simp only[RV.n_ofList]at hi;rw[RV.cM,dM _ _ (s i hi),q,zD5];subst z;have:i<c.size:=by simpa using hi
   simp[zC9,this]
  .rw[if_neg h]at j;exact r.obj n o j
def rN(N:Nat):List (Nat × io × List go)->aa
 |[]=>aa.none N
 |(g,e,vs)::r=>(rN N r).put g (a9 (D4 e vs))
def oQ(N:Nat):∀ T,(rN N T).next=N/\(rN N T).base=N/\(rN N T).dirty=[]
 |[]=>⟨rfl,rfl,rfl⟩
 |(_,_,_)::r=>oQ N r
def SX(P:ip)(K:FuncId->List go->aa->Option go)(b:Nat)(f:FuncId)(args:List go)(v:go)(T:List (Nat × io × List go)):Bool :=
 match call P K b f args (rN P.globals.size T) with
 |some (.ok u,H1)=>Lo u v&&H1.dirty.isEmpty
 |_=>ci
def yO:∀(T:List (Nat × io × List go)),(∀ x∈T,x.1<P.globals.size/\DO x.2.2=bv/\∃ c,w.heap[x.1]?=a9 (.cells c x.2.1 (0,0))/\c.toList=x.2.2)->Rel P Ren.same (rN P.globals.size T) w
 |[],_=>Pg P w
 |(g,e,vs)::r,h=>by obtain⟨b,j,c,k,l⟩:=h (g,e,vs) nl;exact SW (yO r fun x hx=>h x (by simp[hx])) b rfl (fun n _ m=>m) k l j
def RZ(g:P.follows .mixedOrders=bv){L:FuncId->List go->aa->Option go}(p:Bj P L){j:Nat}{f:FuncId}{args:List go}{v:go}{T:List (Nat × io × List go)}(m:args.all af=bv)(h:SX P L j f args v T=bv)
  (q:∀ x∈T,x.1<P.globals.size/\DO x.2.2=bv/\∃ c,w.heap[x.1]?=a9 (.cells c x.2.1 (0,0))/\c.toList=x.2.2) (F:Fence) (n:Nat) (r:dx F) :
  CallsIn F n P f args.toArray w (fun e w'=>e=.returned v/\RowKit.Below w.heap.size w w')/\af v=true:=by
 unfold SX at h;split at h
 .rename_i u H1 t;simp only[zA6]at h;obtain⟨h,y⟩:=h;obtain⟨rfl,o⟩:=OU h;refine⟨?_,o⟩;have:=RT g p (yO T q) t (sn _ (D5 fun x hx=>zC3.1 m x hx)) (F:=F) (n:=n) r;rw[vM _ args (fun x hx=>zC3.1 m x hx)]at this;refine this.mono ?_;rintro e w' ⟨k,rfl,s⟩;refine⟨by rw[dM k _ o],s.os,s.tape,s.output,s.size,fun b z=>s.gO b z fun n A l _=>?_⟩;obtain⟨B,C,_⟩:=oQ P.globals.size T;rcases l with h|h
  .omega
  .rw[List.isEmpty_iff.1 y]at h;cases h
 .cases h
def qX{ρ:Ren}{H:aa}{g:Nat}{e:io}{vs:List go}(r:Rel P ρ H w)(A:g<P.globals.size)(h:bk H g=a9 ⟨e,ci,vs⟩)(j:DO vs=bv):∃ c,w.heap[g]?=a9 (.cells c e (0,0))/\c.toList=vs:=by
 obtain⟨k,B⟩:=r.glob.2 g A
 have l:∀ x∈vs,af x=true:=by
  intro x hx;clear h
  induction vs with
  |nil=>cases hx
  |cons y ys C =>
   simp only[DO,zA6]at j;rcases zA8.1 hx with rfl|hx
   .exact j.1
   .exact C j.2 hx
 simp only[bk,zB5]at h;obtain⟨⟨rv,G,o⟩,hc,hx⟩:=h;simp only[Bl.mk.injEq]at hx;obtain⟨rfl,rfl,rfl⟩:=hx;obtain⟨z,q,m⟩:=eI hc;obtain⟨o',v,b⟩:=r.obj _ _ m;simp only[Fits]at b;obtain⟨c,I,rfl,p,s,_⟩:=b;obtain⟨J,D,M,rfl⟩:=s trivial;rw[k]at v;refine⟨c,v,?_⟩;apply List.ext_getElem?;intro i;rw[RV.iI];by_cases hi:i<rv.n
 .have t:=p i hi;rw[D,zD5]at t;have F:rv.get i∈rv.ky 0 rv.n:=by rw[RV.iI,zC1]; exact⟨i,by simpa using hi,by simp⟩
  rw[dM ρ _ (l _ F)]at t;rw[zG0,List.getElem?_range hi];simpa using t
 .rw[zD3 pp,zD3 pp]
def Mt(b:P.follows .mixedOrders=bv){L:FuncId->List go->aa->Option go}(l:Bj P L){c:Nat}{f:FuncId}{args:List go}{v:go}{T:List (Nat × io × List go)}{H:aa}(j:args.all af=bv)(h:SX P L c f args v T=bv)
  (g:∀ x∈T,x.1<P.globals.size/\DO x.2.2=bv/\bk H x.1=a9 ⟨x.2.1,ci,x.2.2⟩):bD P f args H (.ok v) H:=by
 intro ρ w r m F n R o p;rw[vM ρ args (fun x hx=>zC3.1 j x hx)];obtain⟨q,k⟩:=RZ (w:=w) b l j h (fun x hx=>⟨(g x hx).1,(g x hx).2.1,qX r (g x hx).1 (g x hx).2.2 (g x hx).2.1⟩) F n o;refine q.mono ?_;rintro e w' ⟨rfl,s⟩;have:=p ρ w' (St.below r s) (gv _ k);rwa [dM ρ _ k]at this
end
section
variable{P:ip}{ro:Option Nat}{H:aa}{N:Nat}{E:Env}{ds:List Deferred}{ops:Array Oper}{rest:List Oper}{d:Nat}{ty:io}{pos:String}{after:Array Edge}{Q:Exit -> ah -> aa -> Prop}
def pj{b:BinOp}{t u:io}{x y:i7}{p q v:go}(hx:bj P N x=bv)(c:bj P N y=bv)(e:cy E x=p)(g:cy E y=q)(j:d<N)(k:fV P H b t p q=bi)(l:af p=bv)(m:af q=bv)(h:du P (do eqGuard b t x y p q; binOp b t p q)=a9 v)(n:af v=bv) :
  wpOps P ro ops (⟨a9 d,.binOp b t x y u,ty,pos,after,bi⟩::rest) (bu N E ds) H Q=wpOps P ro ops rest (bu N (cH E d v) ds) H Q :=
 (sC (x:=a9 v) rfl (by simp only[cE,Hp,aH hx,aH c,e,g,zA1,zA3,Ea,k,l,m,la,h,n,zD8,if_true,zB2]; rfl) j).trans jX
def eQ(k:IntKind)(x y:Int):Int:=k.wrap ((BitVec.ofInt k.bits x &&& BitVec.ofInt k.bits y).toNat:Int)
def vw(k:IntKind)(x y:Int):Int:=k.wrap ((BitVec.ofInt k.bits x ||| BitVec.ofInt k.bits y).toNat:Int)
def S2(k:IntKind)(x y:Int):Int:=k.wrap ((BitVec.ofInt k.bits x &&& ~~~BitVec.ofInt k.bits y).toNat:Int)
def yg(k:IntKind)(x:Int)(n:Nat):Int:=k.wrap (x*2 ^ (min n k.bits))
def jC(k:IntKind)(x:Int)(n:Nat):Int:=x.fdiv (2 ^ (min n k.bits))
def ki(e:BinOp):go->go->Option go
 |.int k a,.int c b=>(match e with
  |.and=>if k=c then a9 (.int k (eQ k a b)) else bi
  |.or=>if k=c then a9 (.int k (vw k a b)) else bi
  |.andNot=>if k=c then a9 (.int k (S2 k a b)) else bi
  |.shl=>if 0<=b then a9 (.int k (yg k a b.toNat)) else bi
  |.shr=>if 0<=b then a9 (.int k (jC k a b.toNat)) else bi
  |_=>bi)
 |.string a,.string b=>(match e with
  |.eql=>a9 (ls (a.toList == b.toList))
  |_=>bi)
 |_,_=>bi
def Rd{n:BinOp}{t u:io}{x y:i7}{p q v:go}(hx:bj P N x=bv)(c:bj P N y=bv)(e:cy E x=p)(g:cy E y=q)(j:d<N)(h:ki n p q=a9 v)(l:fV P H n t p q=bi) :
  wpOps P ro ops (⟨a9 d,.binOp n t x y u,ty,pos,after,bi⟩::rest) (bu N E ds) H Q=wpOps P ro ops rest (bu N (cH E d v) ds) H Q:=by
 unfold ki at h;split at h
 .rename_i k a r b;split at h<;>try split at h
  .rename_i m;subst m;simp only[i8]at h;subst h;exact pj hx c e g j l rfl rfl (by simp[eqGuard,binOp,du,Op.intBits,eQ,pure,bind,Sem.bind]) rfl
  .cases h
  .rename_i m;subst m;simp only[i8]at h;subst h;exact pj hx c e g j l rfl rfl (by simp[eqGuard,binOp,du,Op.intBits,vw,pure,bind,Sem.bind]) rfl
  .cases h
  .rename_i m;subst m;simp only[i8]at h;subst h;exact pj hx c e g j l rfl rfl (by simp[eqGuard,binOp,du,Op.intBits,S2,pure,bind,Sem.bind]) rfl
  .cases h
  .rename_i o;simp only[i8]at h;subst h;exact pj hx c e g j l rfl rfl (by simp[eqGuard,binOp,du,Op.shift,yg,pure,bind,Sem.bind,show ¬b<0 by omega]) rfl
  .cases h
  .rename_i o;simp only[i8]at h;subst h;exact pj hx c e g j l rfl rfl (by simp[eqGuard,binOp,du,Op.shift,jC,pure,bind,Sem.bind,show ¬b<0 by omega]) rfl
  .cases h
  all_goals cases h
 .rename_i a b;split at h
  .simp only[i8]at h;subst h;exact pj hx c e g j l rfl rfl (by simp[eqGuard,binOp,du,Op.stringOp,pure,bind,Sem.bind]) rfl
  .cases h
 .cases h
def Nf{c:BinOp}{t:io}{p q v:go}(e:c=.and\/c=.or\/c=.andNot\/c=.shl\/c=.shr)(h:ki c p q=a9 v):fV P H c t p q=none:=by
 unfold ki at h;split at h
 .rename_i k a g b;simp only[fV];split
  .rcases e with rfl|rfl|rfl|rfl|rfl<;>rfl
  .rfl
 .rcases e with rfl|rfl|rfl|rfl|rfl<;>cases h
 .cases h
def Hm{b:BinOp}{t u:io}{x y:i7}(c:b=.and\/b=.or\/b=.andNot\/b=.shl\/b=.shr)(hx:bj P N x=bv)(g:bj P N y=bv)(j:d<N)(h:(ki b (cy E x) (cy E y)).isSome=bv) :
  wpOps P ro ops (⟨a9 d,.binOp b t x y u,ty,pos,after,bi⟩::rest) (bu N E ds) H Q=nL P ro ops rest N E ds d H Q (ki b (cy E x) (cy E y)):=by
 cases e:ki b (cy E x) (cy E y) with
 |none=>rw[e]at h; cases h
 |some v=>exact (Rd hx g rfl rfl j e (Nf c e)).trans jX.symm
def ml{t u:io}{x y:i7}(hx:bj P N x=bv)(b:bj P N y=bv)(c:d<N)(h:(ki .and (cy E x) (cy E y)).isSome=bv):wpOps P ro ops (⟨a9 d,.binOp .and t x y u,ty,pos,after,bi⟩::rest) (bu N E ds) H Q=nL P ro ops rest N E ds d H Q (ki .and (cy E x) (cy E y)):=Hm nl hx b c h
def HG{t u:io}{x y:i7}(hx:bj P N x=bv)(b:bj P N y=bv)(c:d<N)(h:(ki .or (cy E x) (cy E y)).isSome=bv):wpOps P ro ops (⟨a9 d,.binOp .or t x y u,ty,pos,after,bi⟩::rest) (bu N E ds) H Q=nL P ro ops rest N E ds d H Q (ki .or (cy E x) (cy E y)):=Hm nl hx b c h
def Qc{t u:io}{x y:i7}(hx:bj P N x=bv)(b:bj P N y=bv)(c:d<N)(h:(ki .andNot (cy E x) (cy E y)).isSome=bv):wpOps P ro ops (⟨a9 d,.binOp .andNot t x y u,ty,pos,after,bi⟩::rest) (bu N E ds) H Q=nL P ro ops rest N E ds d H Q (ki .andNot (cy E x) (cy E y)):=Hm nl hx b c h
def Lt{t u:io}{x y:i7}(hx:bj P N x=bv)(b:bj P N y=bv)(c:d<N)(h:(ki .shl (cy E x) (cy E y)).isSome=bv):wpOps P ro ops (⟨a9 d,.binOp .shl t x y u,ty,pos,after,bi⟩::rest) (bu N E ds) H Q=nL P ro ops rest N E ds d H Q (ki .shl (cy E x) (cy E y)):=Hm nl hx b c h
def mh{t u:io}{x y:i7}(hx:bj P N x=bv)(b:bj P N y=bv)(c:d<N)(h:(ki .shr (cy E x) (cy E y)).isSome=bv):wpOps P ro ops (⟨a9 d,.binOp .shr t x y u,ty,pos,after,bi⟩::rest) (bu N E ds) H Q=nL P ro ops rest N E ds d H Q (ki .shr (cy E x) (cy E y)):=Hm nl hx b c h
def fQ{k:IntKind}{a b:Int}:ki .and (.int k a) (.int k b)=a9 (.int k (eQ k a b)):=by simp only[ki,if_true]
def p7{k:IntKind}{a b:Int}:ki .or (.int k a) (.int k b)=a9 (.int k (vw k a b)):=by simp only[ki,if_true]
def JP{k:IntKind}{a b:Int}:ki .andNot (.int k a) (.int k b)=a9 (.int k (S2 k a b)):=by simp only[ki,if_true]
def yv{k c:IntKind}{a b:Int}(h:0<=b):ki .shl (.int k a) (.int c b)=a9 (.int k (yg k a b.toNat)):=by simp only[ki,h,if_true]
def fU{k c:IntKind}{a b:Int}(h:0<=b):ki .shr (.int k a) (.int c b)=a9 (.int k (jC k a b.toNat)):=by simp only[ki,h,if_true]
def KC{t u:io}{x y:i7}{a b:ByteArray}(hx:bj P N x=bv)(c:bj P N y=bv)(e:cy E x=.string a)(g:cy E y=.string b)(h:d<N)(j:fV P H .eql t (.string a) (.string b)=bi):wpOps P ro ops (⟨a9 d,.binOp .eql t x y u,ty,pos,after,bi⟩::rest) (bu N E ds) H Q=wpOps P ro ops rest (bu N (cH E d (ls (a.toList == b.toList))) ds) H Q :=
 Rd hx c e g h rfl j
def fX(b:List MapEntry)(c:Nat):dO:=⟨.map ⟨b⟩ c,ci,⟨[],0⟩⟩
def Ty{t:io}(b:d<N):wpOps P ro ops (⟨a9 d,.makeMap t bi,ty,pos,after,bi⟩::rest) (bu N E ds) H Q=wpOps P ro ops rest (bu N (cH E d (.map (a9 H.next))) ds) (H.new (fX [] 0)) Q:=by rw[yf rfl rfl];simp only[Bv,cE,uV,sF,mO,FZ,dK N E ds d _ b];rfl
def VC{t:io}{x k y:i7}(hx:bj P N x=bv)(b:bj P N k=bv)(c:bj P N y=bv):wpOps P ro ops (⟨bi,.insert t x k y,ty,pos,after,bi⟩::rest) (bu N E ds) H Q=vZ P ro ops rest (bu N E ds) Q (b6 P H t (cy E x) (cy E k) (cy E y)):=by
 rw[yf rfl rfl];simp only[Bv,cE,jn,aH hx,aH b,aH c,Ob,zA1,zA3]
 cases b6 P H t (cy E x) (cy E k) (cy E y) with
 |none=>rfl
 |some H1=>simp only[zB2,mO,FZ,AJ,vZ]
def HC{t:io}{x k:i7}{ok:Bool}(hx:bj P N x=bv)(b:bj P N k=bv)(c:d<N):wpOps P ro ops (⟨a9 d,.lookup t x k ok,ty,pos,after,bi⟩::rest) (bu N E ds) H Q=nL P ro ops rest N E ds d H Q (mR P H t (cy E x) (cy E k) ok) :=
 sC rfl (by simp only[cE,yx,aH hx,aH b,zA1,zA3]) c
def Iy{t key h:io}{kd:TypeDesc}{k v:go}{b:List MapEntry}{c m:Nat}(j:H.next=m)(g:H.base<=H.next)(l:P.underlying t=a9 (.map key h))(n:P.underlying key=a9 kd)(p:(qg k&&mQ kd)=bv)(q:aV (H.next+1) v=bv)(r:Instr.findNow kd k b 0=a9 bi) :
  b6 P (H.new (fX b c)) t (.map (a9 m)) k v=a9 (H.new (fX (b++[{key:=k,val:=v,born:=c}]) (c+1))):=by
 subst j;have s:(H.new (fX b c)).get H.next=a9 ⟨.map ⟨b⟩ c,ci,⟨[],0⟩⟩:=by rw[aa.fk,if_pos rfl]; rfl
 have y:(qg k&&mQ kd&&aV (H.new (fX b c)).next v)=true:=by rw[p,Bool.true_and]; exact q
 have e:=K8 (H:=H) (x:=fX b c) (o:=fX (b++[{key:=k,val:=v,born:=c}]) (c+1)) g;unfold b6;rw[l];simp only[s,n,zA1,zA3,y,if_true,r];rw[<-e];simp[fX]
end
section
variable{P:ip}{H:aa}{N:Nat}{E:Env}{ds:List Deferred}{ro:Option Nat}{ops:Array Oper}{rest:List Oper}{d:Nat}{ty:io}{pos:String}{after:Array Edge}
def bp{Q:Exit->ah->aa->Prop}{x:i7}{s t:io}(hx:bj P N x=bv):wpOps P ro ops (⟨a9 d,.convert s t x,ty,pos,after,bi⟩::rest) (bu N E ds) H Q=qa P ro ops rest N E ds (a9 d) Q (bB P H s t (cy E x)) :=
 xA rfl (by simp only[cE,tJ,aH hx,zA1,zA3])
def gF{s t:io}{u:TypeDesc}{k b:IntKind}{n:Int}(c:P.underlying s=a9 u)(e:P.underlying t=a9 (.int k)):bB P H s t (.int b n)=a9 (.int k (k.wrap n),H):=by simp only[bB,c,e]
def Q2{t e:io}{sz by1 n:Nat}{z:go}(k:P.underlying t=a9 (.slice e))(b:br P e=a9 sz)(c:bytesOf P e=a9 by1)(l:zeroOf P e=a9 z)(h:z.cells.toList.length=sz)(j:small n by1=bv) :
  fS P H t (jp kw (n:Int)) (jp kw (n:Int))=(cJ H e (bf z.cells.toList n) ci).map fun g=>(lm (a9 ⟨H.next,0,a9 0⟩) n n,g):=by
 simp only[fS,k,b,c,l,zA1,zA3,zG7];rw[if_pos ⟨by omega,Int.le_refl _,j,h⟩];cases cJ H e (bf z.cells.toList n) ci<;>rfl
def NJ{dt st e:io}{sz m off dl dc n off2 sl sc:Nat}{s s2:Option Nat}{b:Bl}(j:P.underlying dt=a9 (.slice e))(c:br P e=a9 sz)(k:s.getD 0=0)(o:rk H n=a9 b)(h:off2+zF9 sl dl*sz<=b.l.length) :
  aE P H .copy ⟨[dt,st]⟩ [lm (a9 ⟨m,off,s⟩) dl dc,lm (a9 ⟨n,off2,s2⟩) sl sc]=(dT H m off ((b.l.drop off2).take (zF9 sl dl*sz))).map fun g=>(goInt (zF9 sl dl),g):=by
 simp only[aE,CW,j,c,zA1,zA3,jD,kO o h];rw[if_pos (.inl k)];cases dT H m off ((b.l.drop off2).take (zF9 sl dl*sz))<;>rfl
def y7{dt st e:io}{sz m off dl dc n off2 sl sc:Nat}{s s2:Option Nat}{b:Bl}(j:P.underlying dt=a9 (.slice e))(c:br P e=a9 sz)(k:s.getD 0=0)(o:bk H n=a9 b)(h:off2+zF9 sl dl*sz<=b.l.length) :
  aE P H .copy ⟨[dt,st]⟩ [lm (a9 ⟨m,off,s⟩) dl dc,lm (a9 ⟨n,off2,s2⟩) sl sc]=(dT H m off ((b.l.drop off2).take (zF9 sl dl*sz))).map fun g=>(goInt (zF9 sl dl),g):=NJ j c k (iq o) h
def yW{t e:io}{sz n off len cap:Nat}{lo hi:Option go}{l h:Nat}(c:P.underlying t=a9 (.slice e))(b:br P e=a9 sz)(g:bound 0 lo=a9 l)(j:bound len hi=a9 h)(k:h<=cap)(m:l<=h)(o:l<cap) :
  bX P H t (lm (a9 ⟨n,off,a9 0⟩) len cap) lo hi bi=a9 (lm (a9 ⟨n,off+l*sz,a9 0⟩) (h-l) (cap-l),H):=by
 simp only[bX,c,b,et,g,j,zA1,zA3,cX];rw[if_pos ⟨k,m⟩,if_neg lw]
def gi{Q:ah->aa->Prop}{i:Nat}{fps:List Fp}{anc:List Nat}{t:io}{x:i7}{lo hi b:Option i7}{dst:Option Nat} :
  fO P ops anc (⟨dst,.slice t x lo hi b,ty,pos,after,bi⟩::rest) i fps (bu N E ds) H Q=oz P ops anc ⟨dst,.slice t x lo hi b,ty,pos,after,bi⟩ rest i fps (bu N E ds) H Q:=by
 simp only[fO,cN,jQ,jk,qu,sf,oz]
def S6{Q:ah->aa->Prop}{i:Nat}{fps:List Fp}{anc:List Nat}{args:List i7}{ts:Array io}{dst:Option Nat}(b:args.all (bj P N)=bv) :
  fO P ops anc (⟨dst,.call ⟨.builtin .copy,⟨args⟩,ts⟩,ty,pos,after,bi⟩::rest) i fps (bu N E ds) H Q=oz P ops anc ⟨dst,.call ⟨.builtin .copy,⟨args⟩,ts⟩,ty,pos,after,bi⟩ rest i fps (bu N E ds) H Q:=by
 simp only[fO,cN,jQ,jk,qu,sf,oz,cD b,Vd,mj]
def Gb{o:Oper}{Q:ah->aa->Prop}{i:Nat}{fps:List Fp}{anc:List Nat}{v:go}(b:o.dst=a9 d)(e:d<N)(c:∀ G,cE o.op P (bu N E ds) G=a9 (.value v,G))(j:∀ r∈fps,cL (anc.getD i 0) [] [] (ae v++([]:List Bl).flatMap fun x=>ir x.l) r)
  (h:fO P ops anc rest (i+1) (⟨i,[],[],H.next,H.next+0⟩::fps) (bu N (cH E d v) ds) H Q):oz P ops anc o rest i fps (bu N E ds) H Q :=
 ve (v:=v) (M:=[]) [] b e (fun _ h=>by cases h) (fun G _ _=>gD (x:=.value v) (g:=G) (c G) ⟨rfl,rfl⟩) j h
def vH{t:io}{x:i7}{lo hi b:Option i7}{v:go}{G:aa}(hx:bj P N x=bv)(c:jr P N lo=bv)(e:jr P N hi=bv)(g:jr P N b=bv)(h:bX P G t (cy E x) (sG E lo) (sG E hi) (sG E b)=a9 (v,G)) :
  cE (.slice t x lo hi b) P (bu N E ds) G=a9 (.value v,G):=by
 simp only[cE,Ar,aH hx,l5 c,l5 e,l5 g,zA1,zA3,h,uY,zB2]
def sZ{args:List i7}{b:Builtin}{ts:Array io}{dst:Option Nat}{v:go}{G:aa}(c:args.all (bj P N)=bv)(h:aE P H b ts (args.map (cy E))=a9 (v,G)):HX P (bu N E ds) H ⟨dst,.call ⟨.builtin b,⟨args⟩,ts⟩,ty,pos,after,bi⟩ (.ok v) G :=
 gD (x:=.value v) (g:=G) (by simp only[cE,kH,cD c,zA1,zA3,h,uY,zB2]) ⟨rfl,rfl⟩
end
section
variable{P:ip}{ro:Option Nat}{H:aa}{N:Nat}{E:Env}{ds:List Deferred}{ops:Array Oper}{rest:List Oper}{d:Nat}{ty:io}{pos:String}{after:Array Edge}
def Oz{Q:Exit->ah->aa->Prop}{x:i7}{t:io}(hx:bj P N x=bv):wpOps P ro ops (⟨a9 d,.range t x,ty,pos,after,bi⟩::rest) (bu N E ds) H Q=qa P ro ops rest N E ds (a9 d) Q (sU P H t (cy E x)) :=
 xA rfl (by simp only[cE,Eb,aH hx,zA1,zA3])
def yG{Q:Exit->ah->aa->Prop}{x:i7}{s:Bool}(hx:bj P N x=bv):wpOps P ro ops (⟨a9 d,.next x s,ty,pos,after,bi⟩::rest) (bu N E ds) H Q=qa P ro ops rest N E ds (a9 d) Q (tH H (cy E x) s) :=
 xA rfl (by simp only[cE,KD,aH hx,zA1,zA3])
def QS(s:ByteArray)(p:Nat):dO:=⟨.stringIter s p,ci,⟨[],0⟩⟩
def Mv{t:io}{s:ByteArray}(b:P.underlying t=a9 .string):sU P H t (.string s)=a9 (li (a9 ⟨H.next,0,bi⟩),H.new (QS s 0)):=by simp only[sU,b,QS]
def Q9{n p:Nat}{s:ByteArray}(h:H.get n=a9 (QS s p))(b:p<s.size):tH H (li (a9 ⟨n,0,bi⟩)) bv=a9 (.tuple #[ls bv,goInt p,.int .i32 (Utf8.decode s p).1],H.cH n (a9 (QS s (p+(Utf8.decode s p).2)))):=by simp only[tH,h,QS];rw[if_pos b]
def OV{n p:Nat}{s:ByteArray}(h:H.get n=a9 (QS s p))(b:¬p<s.size):tH H (li (a9 ⟨n,0,bi⟩)) bv=a9 (.tuple #[ls ci],H):=by simp only[tH,h,QS];rw[if_neg b]
def ni{n:Nat}{b:Bl}(h:bk H n=a9 b):∃ rv,bO H n=a9 (rv,b.e,b.o)/\rv.n=b.l.length:=by obtain⟨rv,c,g,j⟩:=sw h;exact⟨rv,c,g⟩
def Ow{st xt e:io}{sz by1 m off k n off2 cnt cap:Nat}{sp s:Option Nat}{z:go}{b bm:Bl}(I:P.underlying st=a9 (.slice e))(r:br P e=a9 sz)(t:bytesOf P e=a9 by1)(J:zeroOf P e=a9 z)(v:z.cells.toList.length=sz)(hi:fE P xt=a9 ci)
  (x:bk H m=a9 bm) (M:bm.e=e) (O:bm.o=bv) (y:off+k*sz<=bm.l.length) (p:((bm.l.drop off).take (k*sz)).all one=bv) (A:sp=bi\/(∃ j,sp=a9 (j+1))/\k=0)
  (R:rk H n=a9 b) (q:off2+cnt*sz<=b.l.length) (c:((b.l.drop off2).take (cnt*sz)).all one=bv) (U:0<cnt) (B:small (k+cnt) by1=bv) :
  aE P H .append ⟨[st,xt]⟩ [lm (a9 ⟨m,off,sp⟩) k k,lm (a9 ⟨n,off2,s⟩) cnt cap]=(cJ (H.cH m bi) e ((bm.l.drop off).take (k*sz)++(b.l.drop off2).take (cnt*sz)) bv).map fun g=>(lm (a9 ⟨H.next,0,bi⟩) (k+cnt) (k+cnt),g):=by
 have S:((b.l.drop off2).take (cnt*sz)).length=cnt*sz:=by simp; omega
 have C:((bm.l.drop off).take (k*sz)).length=k*sz:=by simp; omega
 obtain⟨rv,D,F⟩:=ni x;have h:=jx x;rw[O]at h;have T:=fF (sz:=sz) (cnt:=k) (off:=off) (len:=k) (cap:=k) (s:=sp) x y
 have G:fR H ⟨m,off,sp⟩ k k=a9 false:=by
  rcases A with rfl|⟨⟨j,rfl⟩,rfl⟩
  .simp only[fR,cX,h,zB2,zD1]
  .simp only[fR,h];rfl
 simp only[aE,e7,I,r,t,J,hi,zA1,zA3,jD,kO R q,S,v,B,and_self,if_true,dv];rw[if_neg lw];simp only[T,zA3,C,p,c,decide_true,zD8,if_true,G,D];rw[if_pos ⟨M,by rw[zE8,F]; omega⟩];cases cJ (H.cH m bi) e ((bm.l.drop off).take (k*sz)++(b.l.drop off2).take (cnt*sz)) bv<;>rfl
def OH{st xt e:io}{sz by1 n off cnt cap:Nat}{s:Option Nat}{z:go}{b:Bl}(p:P.underlying st=a9 (.slice e))(h:br P e=a9 sz)(j:bytesOf P e=a9 by1)(q:zeroOf P e=a9 z)(k:z.cells.toList.length=sz)(hi:fE P xt=a9 ci)
  (r:rk H n=a9 b) (m:off+cnt*sz<=b.l.length) (c:((b.l.drop off).take (cnt*sz)).all one=bv) (v:0<cnt) (o:small cnt by1=bv) :
  aE P H .append ⟨[st,xt]⟩ [lm bi 0 0,lm (a9 ⟨n,off,s⟩) cnt cap]=(cJ H e ((b.l.drop off).take (cnt*sz)) bv).map fun g=>(lm (a9 ⟨H.next,0,bi⟩) cnt cnt,g):=by
 have t:((b.l.drop off).take (cnt*sz)).length=cnt*sz:=by simp; omega
 simp only[aE,e7,p,h,j,q,hi,zA1,zA3,jD,kO r m,t,k,zC2,o,and_self,if_true,dv];rw[if_neg lw];simp only[cK,zA3,zB4,zH1,List.all_nil,c,decide_true,zD8,if_true,zB6];cases cJ H e ((b.l.drop off).take (cnt*sz)) bv<;>rfl
def cz(H:aa)(e:io)(sz:Nat)(v:go)(vs:List go)(cnt:Nat):Prop :=
 vs.length=cnt*sz/\vs.all one=bv/\((cnt=0/\v=lm bi 0 0)\/(0<cnt/\∃ n,v=lm (a9 ⟨n,0,bi⟩) cnt cnt/\bk H n=a9 ⟨e,bv,vs⟩/\n<H.next))
def cz.nil{e:io}{sz:Nat}:cz H e sz (lm bi 0 0) [] 0:=⟨by simp,rfl,.inl ⟨rfl,rfl⟩⟩
def cz.of{G:aa}{e:io}{sz cnt:Nat}{v:go}{vs:List go}(h:cz H e sz v vs cnt)(l:H.next<=G.next)(c:∀ n∈ae v,G.get n=H.get n):cz G e sz v vs cnt:=by
 obtain⟨b,h2,⟨rfl,rfl⟩|⟨g,n,rfl,j,k⟩⟩:=h
 .exact⟨b,h2,.inl ⟨rfl,rfl⟩⟩
 .exact⟨b,h2,.inr ⟨g,n,rfl,(bg (c n pm)).trans j,by omega⟩⟩
def cz.ne{e:io}{sz cnt:Nat}{v:go}{vs:List go}(h:cz H e sz v vs cnt):∀ n∈ae v,H.get n≠bi/\n<H.next:=by obtain⟨j,h2,⟨rfl,rfl⟩|⟨k,n,rfl,g,b⟩⟩:=h<;>intro m c<;>simp only[ae,zA5,zD7]at c;subst c; exact⟨fa g,b⟩
def cz.sc{e:io}{sz cnt:Nat}{v:go}{vs:List go}(h:cz H e sz v vs cnt):aV H.next v=true:=by
 obtain⟨c,h2,⟨rfl,rfl⟩|⟨g,n,rfl,j,b⟩⟩:=h
 .rfl
 .exact bd b
def cz.len{e:io}{sz cnt:Nat}{v:go}{vs:List go}(h:cz H e sz v vs cnt):∃ a,v=.slice a cnt cnt:=by
 obtain⟨c,h2,⟨rfl,rfl⟩|⟨g,n,rfl,j,b⟩⟩:=h
 .exact⟨_,rfl⟩
 .exact⟨_,rfl⟩
def oO{st xt e:io}{sz by1 n off cnt cnt2 cap x:Nat}{s:Option Nat}{z v:go}{b:Bl}{vs ws:List go}(M:P.underlying st=a9 (.slice e))(t:br P e=a9 sz)(y:bytesOf P e=a9 by1)(O:zeroOf P e=a9 z)(A:z.cells.toList.length=sz)(hi:fE P xt=a9 ci)
  (h:cz H e sz v vs cnt) (R:rk H n=a9 b) (B:off+cnt2*sz<=b.l.length) (j:(b.l.drop off).take (cnt2*sz)=ws) (g:ws.all one=bv) (S:0<cnt2) (C:small (cnt+cnt2) by1=bv) (hx:H.next=x) (p:aT H.next (vs++ws)=bv) :
  ∃ G,aE P H .append ⟨[st,xt]⟩ [v,lm (a9 ⟨n,off,s⟩) cnt2 cap]=a9 (lm (a9 ⟨x,0,bi⟩) (cnt+cnt2) (cnt+cnt2),G)/\cz G e sz (lm (a9 ⟨x,0,bi⟩) (cnt+cnt2) (cnt+cnt2)) (vs++ws) (cnt+cnt2)/\(H.base<=H.next->Mod (ae v) H G)/\G.next=x+1/\(∀ m,m<x->m∉ae v->G.get m=H.get m):=by
 have D:ws.length=cnt2*sz:=by rw[<-j]; simp; omega
 obtain⟨T,h2,⟨rfl,rfl⟩|⟨Z,m,rfl,U,X⟩⟩:=h
 .have Y:vs=[]:=zE5 (by simpa using T);subst Y;rw[zB6]at p ⊢;have c:=OH (H:=H) (st:=st) (xt:=xt) (n:=n) (off:=off) (cnt:=cnt2) (cap:=cap) (s:=s) M t y O A hi R B (by rw[j]; exact g) S (by simpa using C);have I:=ey (H:=H) (L:=[]) (e:=e) (l:=ws) (o:=true) (by simpa using p);rw[j,show cJ H e ws bv=cJ (ext H []) e ws bv from rfl,I,zB2,hx]at c;refine⟨ext H [⟨e,bv,ws⟩],by rw[zC2]; exact c,⟨by rw[D,zC2],g,.inr ⟨by omega,x,rfl,?_,by rw[ai,hx]; simp⟩⟩,fun r=>Mod.ext r,by rw[ai,hx]; rfl,fun m U _=>bL lw⟩;rw[show x=x+0 from rfl,aZ hx nl]; rfl
 .have F:(vs.drop 0).take (cnt*sz)=vs:=by rw[zD0]; exact zD4 lw
  have c:=Ow (H:=H) (st:=st) (xt:=xt) (m:=m) (off:=0) (k:=cnt) (sp:=bi) (n:=n) (off2:=off) (cnt:=cnt2) (cap:=cap) (s:=s) M t y O A hi U rfl rfl (by simp only; omega) (by simp only[F]; exact h2) (.inl rfl) R B (by rw[j]; exact g) S C;simp only[F,j]at c;have I:=ey (H:=dp H m) (L:=[]) (e:=e) (l:=vs++ws) (o:=true) (by rw[jN]; simpa using p);rw[show H.cH m bi=ext (dp H m) [] from rfl,I,zB2,hx]at c;have V:Mod (ae (lm (a9 ⟨m,0,bi⟩) cnt cnt)) H (dp H m):=Mod.cH pm;refine⟨ext (dp H m) [⟨e,bv,vs++ws⟩],c,⟨by rw[zB3,T,D,Nat.add_mul],by rw[List.all_append,h2,g]; rfl,.inr ⟨by omega,x,rfl,?_,by rw[ai,jN,hx]; simp⟩⟩,fun r=>V.trans (Mod.ext (V.ok r)),by rw[ai,jN,hx]; rfl,fun q hq J=>?_⟩
  .rw[show x=x+0 from rfl,aZ (show (dp H m).next=x from hx) nl]; rfl
  .rw[bL (by rw[jN]; omega),T4 (by simpa[ae]using J)]
end
open Go.Proofs
section
variable{P:ip}{ρ:Ren}{H:aa}{w:i6}
end
end Go.Ax
namespace Go.Proofs.YtpohjcacnkhnkaaGreatDoor
open Go.Ax
abbrev Pure(f:FuncId)(args:List go)(H:aa)(v:go):Prop:=bD Tryz.prog f args H (.ok v) H
abbrev VX(n:Int):Int:=IntKind.i64.wrap n
def aR{n:Int}(b:-4000000000000<n)(c:n<4000000000000):VX n=n:=by simp only[VX,IntKind.wrap,IntKind.signed,IntKind.bits];simp;omega
def ba{k:Nat}(h:k<1000000):IntKind.i64.wrap ((k:Int)+1)=((k+1:Nat):Int):=by have:=aR (n:=(k:Int)+1) lw lw;rw[show IntKind.i64.wrap ((k:Int)+1)=_ from this]; omega
end Go.Proofs.YtpohjcacnkhnkaaGreatDoor
