/- Parts of the proof, one behind the other. -/
import Derived.Test.YtpohjcacnkhnkaaGreatDoorM1
import Derived.Below
import Derived.LoopNIn
import Derived.Scope
set_option linter.all false
set_option maxRecDepth 10000
set_option maxHeartbeats 16000000
open Option renaming some->a9,none->bi
open Bool renaming true->bv,false->ci
open Decidable renaming decide->f7
open Go renaming Value->go,TypeId->io,Program->ip,World->i6,Operand->i7
open Option.some renaming injEq->i8
open Prod.mk renaming injEq->i9
open Go.Value renaming int->jp,pointer->li,slice->lm,bool->ls
open Go.IntKind renaming i64->kw
open And renaming intro -> zA0
open Option renaming bind_eq_bind -> zA1, bind_eq_some_iff -> zA2, bind_some -> zA3, map_some -> zB2, map_eq_some_iff -> zB5, getD_some -> zH9
open Nat renaming le_refl -> zA4, le_of_ble_eq_true -> zA7, zero_le -> zB7, lt_or_ge -> zC0, zero_add -> zC2, le_trans -> zC4, add_zero -> zD5, lt_of_lt_of_le -> zE0, ble_eq -> zE8, mul_one -> zF0, lt_succ_self -> zF3, le_of_eq -> zF6, min -> zF9, add_sub_cancel_left -> zG2, sub_self -> zG8, min_eq_left -> zH0, zero_mul -> zH1
open List renaming mem_singleton -> zA5, mem_cons -> zA8, length_cons -> zA9, getElem?_eq_getElem -> zB0, mem_append -> zB1, length_append -> zB3, length_nil -> zB4, nil_append -> zB6, map_cons -> zB8, mem_cons_of_mem -> zB9, mem_map -> zC1, all_eq_true -> zC3, mem_of_getElem? -> zC5, length_drop -> zC6, append_nil -> zC7, append_assoc -> zC8, getD_eq_getElem?_getD -> zC9, drop_zero -> zD0, getElem?_eq_none -> zD3, take_of_length_le -> zD4, nodup_cons -> zD6, not_mem_nil -> zD7, length_take -> zD9, length_map -> zE1, mem_of_mem_take -> zE2, cons_append -> zE3, mem_of_mem_drop -> zE4, eq_nil_of_length_eq_zero -> zE5, nodup_append -> zE6, map_nil -> zE7, drop_eq_nil_of_le -> zE9, length_replicate -> zF1, mem_cons_self -> zF2, getElem?_eq_some_iff -> zF5, mem_range -> zF7, mem_append_left -> zF8, getElem?_map -> zG0, getElem?_cons_zero -> zG1, mem_flatMap -> zG3, take_add_one -> zG4, getElem?_append_right -> zG5, mem_append_right -> zG6, take_append_drop -> zG9, take_length -> zH2, drop_drop -> zH3, drop_eq_getElem_cons -> zH4, eq_of_mem_replicate -> zH6, getElem?_cons_succ -> zH8, length_singleton -> zI0
open Bool renaming and_eq_true -> zA6, not_true -> zD1, false_eq_true -> zD2, and_self -> zD8, not_false -> zF4, or_eq_true -> zH5, or_false -> zH7
open Int renaming toNat_natCast -> zG7
namespace Go.Ax
def Tp(H:aa):Prop:=∀ n o,H.get n=a9 o->n<H.next/\l6 H.next o
def IH(N:Nat):de->Prop
 |.value v=>aV N v=bv
 |.skip=>True
 |.enter _ args=>aT N args=bv
 |.round r=>r.l<N/\∀ i,i<r.env.n->aV N (r.env.get i)=bv
 |.panic v=>aV N v=bv
section
variable{P:ip}{H:aa}{a:ah}{N:Nat}
def B7{v:go}(h:aV N v=bv):aT N v.cells.toList=true:=by
 cases v with
 |agg cs=>obtain⟨l⟩:=cs; simpa[aV,fL,Value.cells]using h
 |_=>simp[Value.cells,aT,h]
def vG{l:List go}:fL N ⟨l⟩=aT N l:=by rw[fL]
def lN{c:Array go}:fL N c=aT N c.toList:=by obtain⟨l⟩:=c; rw[fL]
def jK{l:List go}(h:aT N l=bv){v:go}(b:v∈l):aV N v=true:=ck.1 h v b
def jM{l m:List go}(h:aT N l=bv)(b:∀ v∈m,v∈l):aT N m=true:=ck.2 fun v c=>jK h (b v c)
def zK(b:Tp H){n:Nat}{c:RV}{e:io}{o:Bool}(h:aP H n=a9 (c,e,o)):∀ i,i<c.n->aV H.next (c.get i)=true:=by
 unfold aP at h;split at h
 .rename_i x f z o' v d;simp only[i8,i9]at h;obtain⟨rfl,rfl,rfl⟩:=h;exact (b _ _ d).2
 .cases h
def Tk{c:RV}(h:∀ i,i<c.n->aV N (c.get i)=bv){off k:Nat}(d:off+k<=c.n):aT N (c.ky off k)=true:=by refine ck.2 fun v b=>?_;rw[RV.iI]at b;obtain⟨j,f,rfl⟩:=zC1.1 b;exact h _ (by have:=zF7.1 f; omega)
def ze(i:Tp H){t:io}{p v:go}(h:ib P H t p=a9 v):aV H.next v=true:=by
 unfold ib at h;split at h
 .rename_i n off;simp only[zA1,zA2]at h;obtain⟨⟨c,e,o⟩,hc,b,hb,h⟩:=h;have d:=zK i hc
  cases b with
  |true =>
   simp only[zA2]at h;obtain⟨sz,j,h⟩:=h;split at h
   .rename_i f;simp only[i8]at h;subst h;rw[aV,vG];exact Tk d (jl f)
   .cases h
  |false =>
   simp only at h;split at h
   .rename_i g;simp only[i8]at h;subst h;exact d _ (bT g)
   .cases h
 .cases h
def Hr{t:io}{cs:List go}{off:Nat}{v:go}(c:aT N cs=bv)(h:CL P t cs off=a9 v):aV N v=true:=by
 unfold CL at h;simp only[zA1,zA2]at h;obtain⟨b,f,h⟩:=h
 cases b with
 |true =>simp only[zA2,i8]at h;obtain⟨sz,_,rfl⟩:=h;rw[aV,vG];exact jM c fun v d=>zE4 (zE2 d)
 |false=>exact jK c (zC5 h)
def qN{t:io}{v:go}(h:zeroOf P t=a9 v):aV N v=true:=by
 unfold zeroOf at h;split at h
 .split at h
  .split at h
   .rename_i b;simp only[i8]at h;subst h;exact gv _ b
   .cases h
  .cases h
 .cases h
def ND{cs:Array go}(d:aT N cs.toList=bv):∀(l:List (go × Nat))(off:Nat),(∀ x∈l,aV N x.1=bv)->aT N (l.foldl (fun cs (c,j)=>cs.setIfInBounds (off+j) c) cs).toList=true:=by
 intro l
 induction l generalizing cs with
 |nil=>exact fun _ _=>d
 |cons x l f =>
  intro off h;simp only[List.foldl_cons];refine f ?_ off (fun y g=>h y (zB9 _ g));refine ck.2 fun v b=>?_;rw[Array.toList_setIfInBounds]at b;rcases List.mem_or_eq_of_mem_set b with b|rfl
  .exact jK d b
  .exact h x (zF2 ..)
def DH{f:Nat->Option (Nat × Nat)}:∀(b:List (Nat × go))(cells c:Array go),aT N cells.toList=bv->(∀ p∈b,aV N p.2=bv)->Instr.fill f cells b=a9 c->aT N c.toList=bv
 |[],cells,c,h,_,d=>by simp only[Instr.fill,i8]at d; subst d; exact h
 |(i,v)::b,cells,c,h,g,d=>by
  simp only[Instr.fill]at d;split at d
  .cases d
  .split at d
   .cases d
   .refine DH b _ c ?_ (fun p j=>g p (zB9 _ j)) d;rw[<-Array.foldl_toList];refine ND h _ _ (fun x hx=>?_);have k:=B7 (g (i,v) (zF2 ..));refine jK k ?_;rw[Array.toList_zipIdx]at hx;obtain⟨l,m⟩:=x;have:=List.mem_zipIdx hx;rw[this.2.2];exact List.getElem_mem _
def NM{t:io}{b:List (Nat × go)}{v:go}(g:∀ p∈b,aV N p.2=bv)(h:cY P t b=a9 v):aV N v=true:=by
 unfold cY at h;simp only[zA1,zA2]at h;obtain⟨z,i,h⟩:=h;have d:aT N z.cells.toList=true:=B7 (qN i);split at h
 .simp only[zA2,zB5]at h;obtain⟨j,_,c,f,rfl⟩:=h;rw[aV,lN];exact DH b _ c d g f
 .simp only[zA2,zB5]at h;obtain⟨j,_,c,f,rfl⟩:=h;rw[aV,lN];exact DH b _ c d g f
 .cases h
def Gc(c:P.globals.size<=N)(d:js N a):∀ {ps:List (Nat × i7)} {l:List (Nat × go)},iS P a ps=a9 l->∀ p∈l,aV N p.2=bv
 |[],l,h=>by simp only[iS,i8]at h; subst h; simp
 |(i,x)::ps,l,h=>by
  simp only[iS,zA1,zA2,i8]at h;obtain⟨v,f,vs,b,rfl⟩:=h;intro p hp;rcases zA8.1 hp with rfl|hp
  .exact cS c d f
  .exact Gc c d b p hp
def Mn{b:BinOp}{k:IntKind}{x y:Int}{v:go}(h:eO b k x y=a9 v):aV N v=true:=by
 cases b<;>simp only[eO,i8,reduceCtorEq]at h<;>first|(subst h; simp only[aV])|(split at h<;>first|(cases h; done)|(simp only[i8]at h; subst h; simp only[aV]))
def LB{c:BinOp}{b:Bool}{v:go}(h:yd c b=a9 v):aV N v=true:=by cases c<;>simp only[yd,i8,reduceCtorEq]at h<;>(subst h; simp only[aV])
def R2{c:BinOp}{t:io}{x y v:go}(h:fV P H c t x y=a9 v):aV N v=true:=by
 unfold fV at h;split at h
 .split at h
  .exact Mn h
  .cases h
 .split at h
  .exact LB h
  .cases h
 .unfold tp at h;split at h
  .cases h
  .cases h
  .simp only[zA2]at h;obtain⟨b,_,h⟩:=h;exact LB h
def vk{s:Sem go}{x:de}(h:la P s=a9 x):IH N x:=by
 unfold la at h;split at h
 .split at h
  .rename_i b;simp only[i8]at h;subst h;exact gv _ b
  .cases h
 .split at h
  .split at h
   .rename_i b;simp only[i8]at h;subst h;exact gv _ b
   .cases h
  .cases h
def mapNext{x:Option de}{y:de}{H1:aa}(h:(x.map fun r=>(r,H))=a9 (y,H1)):x=a9 y/\H1=H:=by
 cases x with
 |none=>cases h
 |some z=>simp only[zB2,i8,i9]at h; exact⟨by rw[h.1],h.2.symm⟩
def pz{x:Option go}{y:de}{H1:aa}(hx:∀ v,x=a9 v->aV H.next v=bv)(h:rv H x=a9 (y,H1)):IH H1.next y:=by simp only[rv,zB5,i9]at h;obtain⟨v,b,rfl,rfl⟩:=h;exact hx v b
def sP{x:Option (go × aa)}{y:de}{H1:aa}(hx:∀ v g,x=a9 (v,g)->aV g.next v=bv)(h:uY x=a9 (y,H1)):IH H1.next y:=by simp only[uY,zB5,i9]at h;obtain⟨⟨v,g⟩,hv,rfl,rfl⟩:=h;exact hx v g hv
def rj{e:io}{c:List go}{o:Bool}{g:aa}(h:cJ H e c o=a9 g):g.next=H.next+1:=by
 unfold cJ at h;split at h
 .simp only[i8]at h; subst h; rfl
 .cases h
def Ga{n off:Nat}{vs:List go}{g:aa}(h:dT H n off vs=a9 g):g.next=H.next:=by
 unfold dT at h;simp only[zA1,zA2]at h;obtain⟨⟨c,e,o⟩,_,h⟩:=h;simp only at h;split at h
 .simp only[i8]at h; subst h; rfl
 .cases h
def Ld(k:IntKind)(n:Int):aV N (.int k n)=true:=by simp[aV]
def kg(n:Int):aV N (goInt n)=true:=by simp[goInt,aV]
def wS{e:io}{sz len cap n:Nat}{f:Option Addr}{new:List go}{v:go}{g:aa}(k:aV H.next (.slice f len cap)=bv)(h:dv H e sz f len cap n new=a9 (v,g)):aV g.next v=true:=by
 unfold dv at h;split at h
 .split at h
  .split at h
   .simp only[i8,i9]at h;obtain⟨rfl,rfl⟩:=h;simp[aV]
   .cases h
  .simp only[zA1,zA2,i8,i9]at h;obtain⟨i,d,rfl,rfl⟩:=h;rw[Ga d];simpa[aV]using k
 .simp only[zA1,zA2]at h;obtain⟨gO,_,h⟩:=h;have j:∀ {K i:aa} {c:List go} {len cap:Nat},K.next=H.next->cJ K e c bv=a9 i->aV i.next (lm (a9 ⟨H.next,0,Option.none⟩) len cap)=true:=by intro K i c len cap l d;rw[rj d,l];simp only[aV];exact bd (zF3 _)
  split at h
  .split at h
   .simp only[zA2,i8,i9]at h;obtain⟨i,d,rfl,rfl⟩:=h;exact j rfl d
   .simp only[zA2]at h;obtain⟨b,_,h⟩:=h
    cases b with
    |true =>simp only[zA2,i8,i9]at h;obtain⟨i,d,rfl,rfl⟩:=h;exact j rfl d
    |false =>
     simp only[zA2]at h;obtain⟨⟨m,o,o'⟩,_,h⟩:=h;simp only at h;split at h
     .simp only[zA2,i8,i9]at h;obtain⟨i,d,rfl,rfl⟩:=h;exact j (K:=H.cH _ Option.none) rfl d
     .cases h
  .cases h
def Gj{b:Builtin}{ts:Array io}{args:List go}{v:go}{g:aa}(f:aT H.next args=bv)(h:aE P H b ts args=a9 (v,g)):aV g.next v=true:=by
 have d:∀ {x:Option go},(x.map fun v=>(v,H))=a9 (v,g)->∃ u,x=a9 u/\v=u/\g=H:=by intro x hx;simp only[zB5,i9]at hx;obtain⟨u,c,l,m⟩:=hx;exact⟨u,c,l.symm,m.symm⟩
 unfold aE at h;split at h
 .obtain⟨u,c,rfl,rfl⟩:=d h;unfold oB at c;have hx:=jK f (zF2 ..);split at c
  .cases c; rfl
  .cases c; exact hx
  .cases c
 .have i:∀ s N,aV N (.string s)=true:=fun _ _=>rfl;unfold o6 at h;split at h
  .simp only[i8,i9]at h; obtain⟨rfl,rfl⟩:=h; rfl
  .simp only[zA1,zA2]at h;obtain⟨_,_,h⟩:=h;split at h
   .simp only[zA2]at h;obtain⟨_,_,h⟩:=h;split at h
    .simp only[zA2]at h;obtain⟨_,_,h⟩:=h;split at h
     .split at h
      .split at h
       .simp only[i8,i9]at h; obtain⟨rfl,rfl⟩:=h; rfl
       .split at h
        .simp only[zA2,i8,i9]at h;obtain⟨_,_,rfl,rfl⟩:=h;rfl
        .cases h
      .cases h
     .cases h
    .cases h
   .cases h
  .cases h
 .-- append
  rename_i s x;unfold e7 at h;split at h
  .rename_i st xt rest j len cap;have k:=jK f (zF2 ..);simp only[zA1,zA2]at h;obtain⟨u,_,h⟩:=h;split at h
   .simp only[zA2]at h;obtain⟨sz,_,by1,_,p,_,q,_,h⟩:=h;split at h
    .split at h
     .exact wS k h
     .cases h
    .cases h
    .simp only[zA2]at h;obtain⟨n,_,new,_,h⟩:=h;split at h
     .exact wS k h
     .cases h
   .cases h
  .cases h
 .-- copy
  unfold CW at h;split at h
  .simp only[zA1,zA2]at h;obtain⟨u,_,h⟩:=h;split at h
   .simp only[zA2]at h;obtain⟨sz,_,sl,_,cs,_,h⟩:=h;split at h
    .simp only[i8,i9]at h;obtain⟨rfl,rfl⟩:=h;exact kg _
    .split at h
     .simp only[zA2,i8,i9]at h;obtain⟨o,_,rfl,rfl⟩:=h;exact kg _
     .simp only[i8,i9]at h;obtain⟨rfl,rfl⟩:=h;exact kg _
   .cases h
  .cases h
 .-- len
  split at h
  .obtain⟨u,c,rfl,rfl⟩:=d h;unfold Hs at c;split at c<;>first|(simp only[i8]at c; subst c; exact kg _)|(split at c<;>first|(simp only[i8]at c; subst c; exact kg _)|cases c)|cases c
  .cases h
 .-- cap
  split at h
  .obtain⟨u,c,rfl,rfl⟩:=d h;unfold QV at c;split at c<;>first|(simp only[i8]at c; subst c; exact kg _)|(split at c<;>first|(simp only[i8]at c; subst c; exact kg _)|cases c)|cases c
  .cases h
 .-- delete
  split at h
  .unfold yB at h;split at h
   .split at h
    .simp only[zA1,zA2]at h;obtain⟨kd,_,h⟩:=h;split at h
     .split at h<;>first|(simp only[i8,i9]at h; obtain⟨rfl,rfl⟩:=h; simp only[aV,fL,aT])|(cases h; done)
     .cases h
    .cases h
   .cases h
  .cases h
 .-- clear
  split at h
  .unfold Ec at h;split at h
   .simp only[i8,i9]at h;obtain⟨rfl,rfl⟩:=h;simp[aV,fL,aT]
   .split at h
    .simp only[i8,i9]at h;obtain⟨rfl,rfl⟩:=h;simp[aV,fL,aT]
    .simp only[zA1,zA2,i8,i9]at h;obtain⟨z,_,o,_,rfl,rfl⟩:=h;simp[aV,fL,aT]
   .cases h
  .cases h
 .obtain⟨u,c,rfl,rfl⟩:=d h;unfold gI at c;split at c
  .simp only[i8]at c; subst c; exact Ld _ _
  .cases c
 .obtain⟨u,c,rfl,rfl⟩:=d h;unfold gI at c;split at c
  .simp only[i8]at c; subst c; exact Ld _ _
  .cases c
 .cases h
def vK{f:FuncId}{args:List go}{x:de}(b:aT N args=bv)(h:jh P f args=a9 x):IH N x:=by
 unfold jh at h;split at h
 .simp only[i8]at h; subst h; exact b
 .cases h
def G3(d:Tp H){t:io}{v x:go}{b:Bool}(c:aV H.next v=bv)(h:zH P H t v b=a9 x):aV H.next x=true:=by
 unfold zH at h;split at h
 .simp only[i8]at h; subst h; exact c
 .exact ze d h
 .cases h
 .simp only[i8]at h; subst h; exact c
 .cases h
def Dl:∀(ts:List Tmp)(vs:List go)(e:RV),aT N vs=bv->(∀ i,i<e.n->aV N (e.get i)=bv)->∀ i,i<(kT ts vs e).n->aV N ((kT ts vs e).get i)=bv
 |[],vs,e,_,h=>by cases vs<;>exact h
 |_::_,[],e,_,h=>h
 |t::ts,v::vs,e,b,h=>by
  simp only[aT,zA6]at b;simp only[kT];refine Dl ts vs _ b.2 ?_;split
  .intro i hi;rw[RV.n_set]at hi;rw[RV.uh];split
   .exact b.1
   .exact h i hi
  .exact h
def oI(d:Tp H){fn:Fn}{args b:List go}{x:de}(j:∀ l,fn=.yield l->l<H.next)(c:aT H.next args=bv)(k:aT H.next b=bv)(h:fe P H fn args b=a9 x):IH H.next x:=by
 unfold fe at h;split at h
 .exact vK (cb c k) h
 .unfold wC at h;split at h
  .rename_i m;split at h
   .simp only[i8]at h;subst h;refine⟨j _ rfl,Dl _ _ _ c ?_⟩;have:=(d _ _ m).2;simp only[l6]at this;exact this.2
   .cases h
  .cases h
 .rename_i name t v r;simp only[zA1,zA2]at h;obtain⟨⟨f,g⟩,_,y,hy,h⟩:=h;simp only[aT,zA6]at c;have n:aV H.next v=true:=by have:=c.1; rw[aV]at this; exact this
  refine vK ?_ h;rw[aT,G3 d n hy,c.2]; rfl
 .rename_i t i f g y r;split at h
  .simp only[zA1,zA2]at h;obtain⟨z,o,h⟩:=h;simp only[aT,zA6]at c;refine vK ?_ h;rw[aT,G3 d c.1 o,c.2]; rfl
  .cases h
 .cases h
def EO{fn:Fn}{p q:Array go}(h:aV N (.func fn p q)=bv):(∀ l,fn=.yield l->l<N)/\aT N p.toList=bv/\aT N q.toList=true:=by
 cases fn with
 |yield l =>simp only[aV,zA6,lN]at h;exact⟨fun l' e=>by cases e; exact bT h.1.1,h.1.2,h.2⟩
 |_ =>simp only[aV,zA6,lN]at h;exact⟨fun l' e=>(by cases e),h.1,h.2⟩
def OR(k:P.globals.size<=H.next)(p:Tp H)(m:js H.next a){c:Call}{x:de}{H1:aa}(h:kH c P a H=a9 (x,H1)):IH H1.next x:=by
 unfold kH at h;simp only[zA1,zA2]at h;obtain⟨args,d,h⟩:=h;have b:=nH k m d;split at h
 .exact sP (fun v g q=>Gj b q) h
 .simp only[zA2]at h;obtain⟨r,i,h⟩:=h;obtain⟨n,rfl⟩:=mapNext h;refine oI p (fun l e=>by cases e) ?_ rfl n;rw[aT,cS k m i,b]; rfl
 .simp only[zA2]at h;obtain⟨f,s,h⟩:=h;have o:=cS k m s;split at h
  .rename_i r i;simp only[i8]at h;subst h;unfold pA at i;split at i
   .obtain⟨n,rfl⟩:=mapNext i;obtain⟨t,u,y⟩:=EO o;exact oI p t (cb u b) y n
   .cases i
  .have j:∀ {g:FuncId},oF P H g args=a9 (x,H1)->IH H1.next x:=by
    intro g h;unfold oF at h;split at h
    .split at h
     .simp only[i8,i9]at h;obtain⟨rfl,rfl⟩:=h;exact jK b (zF2 ..)
     .cases h
    .split at h
     .split at h
      .split at h
       .split at h
        .split at h
         .simp only[i8,i9]at h;obtain⟨rfl,rfl⟩:=h;exact bd (zF3 _)
         .cases h
        .cases h
       .cases h
      .cases h
     .cases h
    .cases h
   unfold yq at h;split at h
   .split at h
    .split at h
     .split at h
      .rename_i z;simp only[i8,i9]at h;obtain⟨rfl,rfl⟩:=h;exact gv _ z
      .cases h
     .exact j h
    .exact j h
   .cases h
def IY{sz len cap:Nat}{d:Option Addr}{lo hi:Option go}{v:go}{g:aa}(c:∀ x,d=a9 x->x.block<H.next)(h:et H sz d len cap lo hi=a9 (v,g)):aV g.next v=true:=by
 unfold et at h;simp only[zA1,zA2]at h;obtain⟨l,_,k,_,h⟩:=h;split at h
 .split at h
  .simp only[i8,i9]at h;obtain⟨rfl,rfl⟩:=h;simp[aV]
  .rename_i x;have hx:=c x rfl;obtain⟨f,c⟩:=ac (cX H x);simp only[c]at h
   cases f with
   |none =>
    simp only at h;split at h
    .simp only[i8,i9]at h;obtain⟨rfl,rfl⟩:=h;simp only[aV]; exact bd hx
    .cases h
   |some b =>
    cases b with
    |true =>
    simp only[i8,i9]at h;obtain⟨rfl,rfl⟩:=h;simp only[aV]; exact bd hx
    |false =>
    simp only at h;split at h
    .simp only[i8,i9]at h;obtain⟨rfl,rfl⟩:=h;simp only[aV]; exact bd hx
    .split at h
     .simp only[i8,i9]at h;obtain⟨rfl,rfl⟩:=h;simp only[aV]; exact bd hx
     .split at h
      .cases h
      simp only[i8,i9]at h;obtain⟨rfl,rfl⟩:=h;simp only[aV]; exact bd hx
 .cases h
def rR{x:Option Addr}{n m:Nat}(h:aV N (.slice x n m)=bv):∀ y,x=a9 y->y.block<N:=by rintro y rfl;simp only[aV]at h;exact bT h
def NV{t:io}{x:go}{lo hi b:Option go}{v:go}{g:aa}(hx:aV H.next x=bv)(h:bX P H t x lo hi b=a9 (v,g)):aV g.next v=true:=by
 unfold bX at h;split at h
 .simp only[zA1,zA2]at h;obtain⟨l,_,k,_,h⟩:=h;split at h
  .simp only[i8,i9]at h;obtain⟨rfl,rfl⟩:=h;simp[aV]
  .cases h
 .simp only[zA1,zA2]at h;obtain⟨sz,_,h⟩:=h;exact IY (rR hx) h
 .split at h
  .simp only[zA1,zA2]at h;obtain⟨sz,_,h⟩:=h;unfold yD at h;simp only[zA1,zA2]at h;obtain⟨l,_,k,_,h⟩:=h;split at h
   .split at h
    .simp only[i8,i9]at h;obtain⟨rfl,rfl⟩:=h;simp[aV]
    .simp only[i8,i9]at h;obtain⟨rfl,rfl⟩:=h;simp only[aV]; exact bd (rR hx _ rfl)
   .cases h
  .cases h
 .simp only[zA1,zA2]at h;obtain⟨l,_,k,_,sz,_,h⟩:=h;split at h
  .simp only[i8,i9]at h;obtain⟨rfl,rfl⟩:=h;simp only[aV]at hx ⊢;exact hx
  .cases h
 .cases h
def HQ{s d:io}{x v:go}{g:aa}(hx:aV H.next x=bv)(h:bB P H s d x=a9 (v,g)):aV g.next v=true:=by
 have b:∀ {f:aa} {e:io} {c:List go} {len cap:Nat},cJ H e c bv=a9 f->aV f.next (lm (a9 ⟨H.next,0,Option.none⟩) len cap)=true:=by intro f e c len cap i;rw[rj i];simp only[aV];exact bd (zF3 _)
 unfold bB at h;split at h
 .simp only[i8,i9]at h; obtain⟨rfl,rfl⟩:=h; simp[aV]
 .simp only[i8,i9]at h; obtain⟨rfl,rfl⟩:=h; simp[aV]
 .simp only[i8,i9]at h; obtain⟨rfl,rfl⟩:=h; simp[aV]
 .split at h
  .simp only[zA1,zA2]at h;obtain⟨z,_,h⟩:=h;split at h
   .split at h
    .simp only[zA2,i8,i9]at h;obtain⟨f,i,rfl,rfl⟩:=h;exact b i
    .cases h
   .cases h
  .simp only[zA1,zA2]at h;obtain⟨z,_,h⟩:=h;split at h
   .split at h
    .simp only[zA2,i8,i9]at h;obtain⟨f,i,rfl,rfl⟩:=h;exact b i
    .cases h
   .cases h
  .cases h
 .simp only[zA1,zA2]at h;obtain⟨cs,_,h⟩:=h;split at h
  .simp only[zB5,i9]at h; obtain⟨l,_,rfl,rfl⟩:=h; simp[aV]
  .simp only[zB5,i9]at h; obtain⟨l,_,rfl,rfl⟩:=h; simp[aV]
  .cases h
 .simp only[zA1,zA2]at h;obtain⟨u,_,h⟩:=h;split at h
  .split at h
   .split at h
    .simp only[i8,i9]at h; obtain⟨rfl,rfl⟩:=h; exact hx
    .cases h
   .cases h
  .cases h
 .simp only[i8,i9]at h; obtain⟨rfl,rfl⟩:=h; exact hx
 .simp only[zA1,zA2]at h;obtain⟨sz,_,c,_,h⟩:=h;split at h
  .simp only[i8,i9]at h; obtain⟨rfl,rfl⟩:=h; exact hx
  .cases h
 .simp only[i8,i9]at h; obtain⟨rfl,rfl⟩:=h; exact hx
 .simp only[zA1,zA2]at h;obtain⟨sz,_,h⟩:=h;split at h
  .split at h
   .simp only[i8,i9]at h; obtain⟨rfl,rfl⟩:=h; exact hx
   .cases h
  .cases h
 .cases h
def xJ{kd:TypeDesc}{k:go}:∀(l:List MapEntry)(i:Nat){j:Nat}{v:go},Instr.findNow kd k l i=a9 (a9 (j,v))->∃ e∈l,e.val=v
 |[],i,j,v,h=>by simp[Instr.findNow]at h
 |e::l,i,j,v,h=>by
  simp only[Instr.findNow]at h;split at h
  .simp only[i8,i9]at h;exact⟨e,zF2 ..,h.2⟩
  .obtain⟨b,c,d⟩:=xJ l (i+1) h;exact⟨b,zB9 _ c,d⟩
  .cases h
def pT{v:go}{b:Bool}(h:aV N v=bv):aV N (.tuple #[v,ls b])=true:=by simp only[aV,fL,aT,h,zD8]
def JC(m:Tp H){t:io}{x k v:go}{ok:Bool}(h:mR P H t x k ok=a9 v):aV H.next v=true:=by
 unfold mR at h;split at h
 .rename_i n i r;simp only[zA1,zA2]at h;obtain⟨p,b,kd,_,h⟩:=h;split at h
  .split at h
   .rename_i j u q;obtain⟨e,d,rfl⟩:=xJ _ _ q
    have f:∀ e∈p,aV H.next e.val=true:=by
     unfold CF at b;split at b
     .simp only[i8]at b; subst b; intro e d; simp at d
     .split at b
      .rename_i s c o B y;simp only[i8]at b;subst b;have:=(m _ _ y).2;simp only[l6]at this;exact fun e d=>(this e d).2
      .cases b
    have g:=f e (by simpa using d);simp only[i8]at h;subst h;split
    .exact pT g
    .exact g
   .simp only[zB5]at h;obtain⟨z,l,rfl⟩:=h;split
    .exact pT (qN l)
    .exact qN l
   .cases h
  .cases h
 .cases h
def Ag{x v:go}{u:io}{ok:Bool}(hx:aV N x=bv)(h:iu P x u ok=a9 v):aV N v=true:=by
 have z:∀ {w:Option go} {v:go},w=zeroOf P u->(w.map fun z=>(.tuple #[z,ls ci]:go))=a9 v->aV N v=true:=by intro w v b h;simp only[zB5]at h;obtain⟨z,c,rfl⟩:=h;exact pT (qN (b▸c))
 unfold iu at h;split at h
 .split at h
  .split at h
   .simp only[i8]at h;subst h;split
    .exact pT hx
    .exact hx
   .split at h
    .exact z rfl h
    .cases h
  .cases h
 .split at h
  .exact z rfl h
  .cases h
 .rename_i t w _ _;have b:aV N w=true:=by rw[aV]at hx; exact hx
  split at h
  .simp only[i8]at h;subst h;split
   .exact pT b
   .exact b
  .split at h
   .exact z rfl h
   .cases h
 .cases h
def Eh(C:P.globals.size<=H.next)(L:Tp H)(F:js H.next a){J:Op}{x:de}{H1:aa}(h:cE J P a H=a9 (x,H1)):IH H1.next x:=by
 have box:∀ {t:io} {v:go} {x:de} {H1:aa},AE t v H=a9 (x,H1)->IH H1.next x:=by intro t v x H1 h;simp only[AE,zA1,zA2,i8,i9]at h;obtain⟨g,C,rfl,rfl⟩:=h;show aV g.next (li (a9 ⟨H.next,0,Option.none⟩))=bv;rw[rj C];simp only[aV];exact bd (zF3 _)
 have G:∀ {g:aa} {e:io} {c:List go} {o:Bool} {s:Option Nat} {len cap:Nat},cJ H e c o=a9 g->aV g.next (lm (a9 ⟨H.next,0,s⟩) len cap)=true:=by intro g e c o s len cap C;rw[rj C];simp only[aV];exact bd (zF3 _)
 cases J with
 |move y=>exact pz (fun v j=>cS C F j) h
 |assign y=>exact pz (fun v j=>cS C F j) h
 |pick c y z =>
  simp only[cE,BI,zA1,zA2]at h;obtain⟨V,_,h⟩:=h;split at h
  .exact pz (fun v j=>cS C F j) h
  .exact pz (fun v j=>cS C F j) h
  .cases h
 |alloc t =>simp only[cE,zo,zA1,zA2]at h;obtain⟨z,_,h⟩:=h;exact box h
 |box t y =>simp only[cE,vN,zA1,zA2]at h;obtain⟨z,_,h⟩:=h;exact box h
 |build t ps =>simp only[cE,vj,zA1,zA2]at h;obtain⟨l,O,h⟩:=h;exact pz (fun v j=>NM (Gc C F O) j) h
 |buildSlice t n ps =>
  simp only[cE,jz,zA1,zA2]at h;obtain⟨l,O,h⟩:=h;refine sP (fun v g j=>?_) h;unfold bN at j;simp only[zA1,zA2]at j;obtain⟨u,_,j⟩:=j;split at j
  .simp only[zA2]at j;obtain⟨sz,_,z,_,j⟩:=j;split at j
   .simp only[zA2,i8,i9]at j;obtain⟨c,_,R,C,rfl,rfl⟩:=j;exact G C
   .cases j
  .cases j
 |load t y =>simp only[cE,HS,zA1,zA2]at h;obtain⟨z,_,h⟩:=h;exact pz (fun v j=>ze L j) h
 |store t y z =>
  simp only[cE,wz,Ob,zA1,zA2,zB5,i9]at h;obtain⟨p,_,q,_,g,_,rfl,rfl⟩:=h
  trivial
 |nilCheck y =>
  simp only[cE,MN,zA1,zA2]at h;obtain⟨v,j,h⟩:=h;have M:=cS C F j;have S:aV H.next (kC P)=true:=by simp only[kC,strVal,aV]
  unfold By at h;split at h
  all_goals first
   |(cases h; done)
   |(simp only[i8,i9]at h; obtain⟨rfl,rfl⟩:=h; first|exact S|exact M)
 |binOp J t y z u =>
  simp only[cE,Hp,zA1,zA2]at h;obtain⟨p,E,q,K,h⟩:=h;unfold Ea at h;split at h
  .rename_i v j;simp only[i8,i9]at h;obtain⟨rfl,rfl⟩:=h;exact R2 j
  .split at h
   .obtain⟨I,rfl⟩:=mapNext h;exact vk I
   .cases h
 |unOp J t y =>
  simp only[cE,U8,zA1,zA2]at h;obtain⟨p,E,h⟩:=h;unfold Ve at h;split at h
  .simp only[i8,i9]at h; obtain⟨rfl,rfl⟩:=h; simp only[IH,aV]
  .simp only[i8,i9]at h; obtain⟨rfl,rfl⟩:=h; simp only[IH,aV]
  .split at h
   .obtain⟨I,rfl⟩:=mapNext h;exact vk I
   .cases h
 |convert s d y =>simp only[cE,tJ,zA1,zA2]at h;obtain⟨p,E,h⟩:=h;exact sP (fun v g j=>HQ (cS C F E) j) h
 |makeInterface t y =>
  simp only[cE,A1,zA1,zA2]at h;obtain⟨p,E,h⟩:=h;unfold vu at h;split at h
  .cases h
  .simp only[i8,i9]at h;obtain⟨rfl,rfl⟩:=h;simp only[IH,aV]; exact cS C F E
  .cases h
 |makeFunc fn p q =>
  simp only[cE,Ht,zA1,zA2]at h;obtain⟨u,T,v,j,h⟩:=h;unfold Ck at h;split at h
  .cases h
  .rename_i cn;simp only[i8,i9]at h;obtain⟨rfl,rfl⟩:=h;have I:=nH C F T;have U:=nH C F j
   cases fn with
   |yield l=>exact absurd rfl (cn l)
   |_=>simp only[IH,aV,fL,I,U,zD8]
 |makeMap t r =>
  have Q:∀ {x:de} {H1:aa},sF H=a9 (x,H1)->IH H1.next x:=by intro x H1 h;simp only[sF,i8,i9]at h;obtain⟨rfl,rfl⟩:=h;simp only[IH,aV];exact bd (zF3 _)
  cases r with
  |none=>exact Q h
  |some y =>
   simp only[cE,uV,zA1,zA2]at h;obtain⟨u,_,h⟩:=h;split at h
   .simp only[zA2]at h;obtain⟨v,_,h⟩:=h;split at h
    .exact Q h
    .cases h
   .cases h
 |makeSlice t l c =>
  simp only[cE,me,zA1,zA2]at h;obtain⟨p,E,q,K,h⟩:=h;refine sP (fun v g j=>?_) h;unfold fS at j;split at j
  .simp only[zA1,zA2]at j;obtain⟨u,_,j⟩:=j;split at j
   .simp only[zA2]at j;obtain⟨by1,_,sz,_,z,_,j⟩:=j;split at j
    .simp only[zA2,i8,i9]at j;obtain⟨R,C,rfl,rfl⟩:=j;exact G C
    .cases j
   .cases j
  .cases j
 |slice t y lo hi W =>simp only[cE,Ar,zA1,zA2]at h;obtain⟨p,E,l,_,k,_,m,_,h⟩:=h;exact sP (fun v g j=>NV (cS C F E) j) h
 |fieldAddr t y f =>
  simp only[cE,j5,zA1,zA2]at h;obtain⟨p,E,h⟩:=h;refine pz (fun v j=>?_) h;have B:=cS C F E;unfold aJ at j;split at j
  .split at j
   .split at j
    .cases j
    .simp only[i8]at j;subst j;simp only[aV,Addr.add]at B ⊢;split<;>exact B
    .cases j
   .cases j
  .cases j
 |field t y f =>
  simp only[cE,Dx,zA1,zA2]at h;obtain⟨p,E,h⟩:=h;refine pz (fun v j=>?_) h;have B:=cS C F E;unfold vW at j;split at j
  .split at j
   .refine Hr ?_ j;rw[aV,lN]at B; exact B
   .cases j
  .cases j
 |indexAddr t y i =>
  simp only[cE,j9,zA1,zA2]at h;obtain⟨p,E,q,K,h⟩:=h;refine pz (fun v j=>?_) h;have B:=cS C F E;unfold aW at j;split at j
  .simp only[zA1,zA2]at j;obtain⟨sz,_,j⟩:=j;split at j
   .simp only[i8]at j;subst j;simp only[aV,Addr.add]at B ⊢;split<;>exact B
   .cases j
  .simp only[zA1,zA2]at j;obtain⟨sz,_,j⟩:=j;split at j
   .simp only[i8]at j;subst j;simp only[aV]at B ⊢;exact B
   .cases j
  .cases j
 |index t y i =>
  simp only[cE,EY,zA1,zA2]at h;obtain⟨p,E,q,K,h⟩:=h;have B:=cS C F E;unfold vn at h;split at h
  .rename_i v j;simp only[i8,i9]at h;obtain⟨rfl,rfl⟩:=h;unfold DV at j;split at j
   .simp only[zA1,zA2]at j;obtain⟨sz,_,j⟩:=j;split at j
    .refine Hr ?_ j;rw[aV,lN]at B; exact B
    .cases j
   .split at j
    .obtain⟨b,_,rfl⟩:=zB5.1 j;rfl
    .cases j
   .cases j
  .split at h
   .obtain⟨I,rfl⟩:=mapNext h;exact vk I
   .cases h
 |lookup t y k ok =>simp only[cE,yx,zA1,zA2]at h;obtain⟨p,E,q,K,h⟩:=h;exact pz (fun v j=>JC L j) h
 |mapUpdate t m k y =>
  simp only[cE,jn,Ob,zA1,zA2,zB5,i9]at h;obtain⟨p,_,q,_,r,_,g,_,rfl,rfl⟩:=h
  trivial
 |insert t m k y =>
  simp only[cE,jn,Ob,zA1,zA2,zB5,i9]at h;obtain⟨p,_,q,_,r,_,g,_,rfl,rfl⟩:=h
  trivial
 |range t y =>
  simp only[cE,Eb,zA1,zA2]at h;obtain⟨p,E,h⟩:=h;refine sP (fun v g j=>?_) h;unfold sU at j;split at j
  .simp only[i8,i9]at j;obtain⟨rfl,rfl⟩:=j;simp only[aV];exact bd (zF3 _)
  .cases j
 |next X s =>
  simp only[cE,KD,zA1,zA2]at h;obtain⟨p,E,h⟩:=h;refine sP (fun v g j=>?_) h;unfold tH at j;split at j
  .split at j
   .split at j
    .simp only[i8,i9]at j;obtain⟨rfl,rfl⟩:=j;simp only[aV,fL,aT,goInt,zD8]
    .simp only[i8,i9]at j;obtain⟨rfl,rfl⟩:=j;simp only[aV,fL,aT,zD8]
   .cases j
  .cases j
 |typeAssert y t u ok =>simp only[cE,na,zA1,zA2]at h;obtain⟨p,E,h⟩:=h;exact pz (fun v j=>Ag (cS C F E) j) h
 |extract y i =>
  simp only[cE,nO,zA1,zA2]at h;obtain⟨p,E,h⟩:=h;have B:=cS C F E;unfold mf at h;split at h
  .refine pz (fun v j=>?_) h;rw[aV,lN]at B;exact jK B (zC5 j)
  .cases h
 |call c=>exact OR C L F h
 |panic y =>
  simp only[cE,EW,zA1,zA2]at h;obtain⟨p,E,h⟩:=h;have B:=cS C F E;unfold Ek at h;split at h
  .simp only[i8,i9]at h;obtain⟨rfl,rfl⟩:=h;exact B
  .cases h
 |_=>simp[cE,FL]at h
def vq(g:P.globals.size<=H.next)(b:Tp H)(c:js H.next a):∀ {d:List ResultVar} {vs:List go},dw P H a d=a9 vs->aT H.next vs=bv
 |[],vs,h=>by simp only[dw,i8]at h; subst h; rfl
 |.tmp t::d,vs,h=>by
  simp only[dw,zA1,zA2,i8]at h;obtain⟨i,f,rfl⟩:=h;rw[aT,vq g b c f]
  have:aV H.next (a.tmp t)=true:=by
   unfold ah.tmp;split
   .rename_i j; exact c.1 t (bT j)
   .exact eY _
  rw[this]; rfl
 |.cell y t::d,vs,h=>by simp only[dw,zA1,zA2,i8]at h;obtain⟨v,k,i,f,rfl⟩:=h;rw[aT,vq g b c f,ze b k]; rfl
def UH{vs:List go}(h:aT N vs=bv):aV N (Ev vs)=true:=by
 unfold Ev;split
 .exact jK h (zF2 ..)
 .rw[aV,vG]; exact h
end
def Ren.pe(ρ:Ren)(p:PanicEntry):PanicEntry:={p with v:=ρ.val p.v}
def Ren.exit(ρ:Ren):Exit->Exit
 |.panic b=>.panic (b.map ρ.pe)
 |e=>e
def O9(N:Nat):Exit->Prop
 |.panic b=>∀ p∈b,aV N p.v=bv
 |_=>True
structure dx (F:Fence):Prop where
 fn:∀ f,F.fn f
 depth:F.depth=bi
 alive:F.alive=ci
def dx.inRound{F:Fence}(h:dx F)(l:Nat):dx (F.inRound l):=⟨h.fn,h.depth,h.alive⟩
def dx.plain{F:Fence}(h:dx F):dx F.plain:=⟨h.fn,h.depth,h.alive⟩
def dx.all{F:Fence}(h:dx F)(P:ip)(m:Machine):m.fenced P F:=by
 intro g _;refine⟨fun e=>?_,Or.inl (h.fn _),fun _ _=>h.fn _,fun _ e=>?_⟩
 .rw[h.alive]at e; cases e
 .rw[h.depth]at e; cases e
def dx.calls{F:Fence}(h:dx F){n:Nat}{P:ip}{f:FuncId}{args:Array go}{w:i6}{R:Ending->i6->Prop}(c:Calls P f args w R):CallsIn F n P f args w R:=by
 refine⟨h.fn f,fun cs _=>?_⟩;obtain⟨e,w',d,r,s,x⟩:=c cs;refine⟨e,w',d,r,?_,x⟩
 cases e with
 |returned v=>exact (StepsIn.of_steps s).mono fun m _=>h.all P m
 |panicked b=>exact (StepsIn.of_steps s).mono fun m _=>h.all P m
 |outgrown=>exact s
def dx.deep{F:Fence}(h:dx F){n:Nat}:F.depth.isSome=bv->1<=n:=fun e=>by rw[h.depth]at e; cases e
def dI(P:ip)(ro:Option Nat)(c:Code)(a:ah)(H:aa)(e:Exit)(a1:ah)(H1:aa):Prop :=
 ∀(ρ:Ren)(w:i6)(F:Fence)(n:Nat)(Q:Exit->Act->i6->Prop),dx F->F.round=ro.map ρ.blk->(∀ l,ro=a9 l->l<H.next)->Rel P ρ H w->js H.next a ->
  (∀ b w1,St P ρ H w b H1 w1->js H1.next a1->O9 H1.next e->Q (b.exit e) (b.act a1) w1)->c.wpIn F n P Q (ρ.act a) w
def O6(P:ip)(ρ:Ren)(H:aa)(w:i6)(out:Out)(H1:aa)(R:Ending->i6->Prop):Prop :=
 ∀ b w1,St P ρ H w b H1 w1->match out with
  |.ok v=>aV H1.next v=bv->R (.returned (b.val v)) w1
  |.error c=>(∀ p∈c,aV H1.next p.v=bv)->R (.panicked (c.map b.pe)) w1
def bD(P:ip)(f:FuncId)(args:List go)(H:aa)(out:Out)(H1:aa):Prop :=
 ∀(ρ:Ren)(w:i6),Rel P ρ H w->aT H.next args=bv->∀(F:Fence)(n:Nat)(R:Ending->i6->Prop),dx F->O6 P ρ H w out H1 R->CallsIn F n P f (args.map ρ.val).toArray w R
structure Sound (P:ip) (rec:Rec):Prop where
 run:∀(ro:Option Nat)(c:Code)(a:ah)(H:aa)(e:Exit)(a1:ah)(H1:aa),rec.run ro c a H=a9 (e,a1,H1)->dI P ro c a H e a1 H1
 know:∀(f:FuncId)(args:List go)(v:go)(H H1:aa),rec.know f args H=a9 (v,H1)->bD P f args H (.ok v) H1
section
variable{P:ip}{ρ:Ren}{H:aa}{w:i6}
def Cs(ρ:Ren)(args:List go)(n:Nat)(h:args.length<=n) :
  (args.map ρ.val).toArray++Array.replicate (n-(args.map ρ.val).toArray.size) undef=ρ.tmps {RV.ofList args with n:=n}:=by
 apply Array.ext_getElem?;intro i;rw[jT];have d:({RV.ofList args with n:=n}:RV).get i=args.getD i undef:=RV.cM args i;rw[d];by_cases b:i<args.length
 .rw[Array.getElem?_append_left (by simpa using b),if_pos (by show i<n; omega)];simp[b]
 .rw[Array.getElem?_append_right (by simpa using b)];by_cases c:i<n
  .rw[if_pos c,Array.getElem?_replicate];simp only[List.size_toArray,zE1];rw[if_pos lw];simp[List.getD,zD3 (Nat.not_lt.1 b)]
  .rw[if_neg c,Array.getElem?_replicate];simp only[List.size_toArray,zE1];rw[if_neg lw]
def F2{args:List go}{n N:Nat}(h:aT N args=bv):js N ⟨{RV.ofList args with n:=n},[]⟩:=by
 refine⟨fun i _=>?_,fun d c=>by cases c⟩;have f:({RV.ofList args with n:=n}:RV).get i=args.getD i undef:=RV.cM args i;simp only[f];by_cases b:i<args.length
 .exact ck.1 h _ (by simp only[List.getD,zB0 b,zH9]; exact List.getElem_mem _)
 .rw[List.getD,zD3 (Nat.not_lt.1 b)]; exact eY N
def xp(ρ:Ren)(ops:Array Oper)(a:ah)(j:Nat) :
  yielded ops (ρ.act a).tmps j=match (ops[j]?).bind (·.dst) with
   |some d=>(match a.tmp d with
    |.bool b=>a9 b
    |_=>bi)
   |none=>none:=by
 unfold yielded
 cases g:(ops[j]?).bind (·.dst) with
 |none=>simp
 |some d =>
  simp only[zA3,Ren.act,jT,ah.tmp];by_cases h:d<a.env.n
  .rw[if_pos h,bd h,if_pos rfl]
   cases i:a.env.get d with
   |bool b=>simp[Ren.val]
   |pointer p=>cases p<;>simp[Ren.val]
   |slice p _ _=>cases p<;>simp[Ren.val]
   |map p=>cases p<;>simp[Ren.val]
   |chan p =>
    cases p with
    |none=>simp[Ren.val]
    |some k =>
     have c:=ρ.op1 k;rw[Ren.val]
     cases f:ρ.op k with
     |bool b=>rw[f]at c; cases c
     |_=>rfl
   |_=>simp[Ren.val]
  .rw[if_neg h,od h];simp[undef]
def gS(ρ:Ren){ops:Array Oper}{a:ah}{o:Oper}{b:Bool}(h:cN ops a o=a9 b):Region.wanted o (yielded ops (ρ.act a).tmps)=b:=by
 unfold cN at h;unfold Region.wanted;split at h
 .rename_i f;simp only[i8]at h;rw[f]; simpa using h
 .rename_i j want f;rw[f];simp only[xp];split at h
  .rename_i m c;rw[c];simp only[zA3];split at h
   .rename_i d g;rw[g];simp only;split at h
    .rename_i l i;simp only[i8]at h;rw[i];simpa using h
    .rename_i i;simp only[i8]at h;subst h;split
     .rename_i l k; exact absurd k (i l)
     .rfl
   .rename_i g;simp only[i8]at h;subst h;rw[g]; rfl
  .rename_i c;simp only[i8]at h;subst h;rw[c]; rfl
def uZ(tmps:Array go):ResultVar->Sem go
 |.tmp t=>pure (tmps.getD t undef)
 |.cell x t=>do loadVar t (<-asAddr (tmps.getD x undef))
def te(r:Rel P ρ H w){a:ah}:∀ {b:List ResultVar} {vs:List go},dw P H a b=a9 vs->(b.mapM (uZ (ρ.act a).tmps)).run P w=.ok (vs.map ρ.val) w
 |[],vs,h=>by simp only[dw,i8]at h; subst h; simp
 |.tmp t::b,vs,h=>by
  simp only[dw,zA1,zA2,i8]at h;obtain⟨i,c,rfl⟩:=h;rw[List.mapM_cons];have d:uZ (ρ.act a).tmps (.tmp t)=pure (ρ.val (a.tmp t)):=by simp only[uZ,uL]
  simp[te r c,d]
 |.cell x t::b,vs,h=>by
  simp only[dw,zA1,zA2,i8]at h;obtain⟨v,f,i,c,rfl⟩:=h;rw[List.mapM_cons];obtain⟨n,off,g⟩:=wx f;have j:=vT r (by rw[<-g]; exact f);have d:(uZ (ρ.act a).tmps (.cell x t)).run P w=.ok (ρ.val v) w:=by simp only[uZ,uL,g,qU,asAddr,Sem.run_bind,Sem.run_pure,Result.andThen_ok,j]
  simp[te r c,d]
def R1(ρ:Ren)(vs:List go):(if h:(vs.map ρ.val).toArray.size=1 then (vs.map ρ.val).toArray[0] else .tuple (vs.map ρ.val).toArray)=ρ.val (Ev vs):=by
 cases vs with
 |nil=>simp[Ev,Ren.val,Ren.eV,Ren.iU]
 |cons v r =>
  cases r with
  |nil=>simp[Ev]
  |cons u r=>simp[Ev,Ren.val,Ren.eV,Ren.oN]
def qh(r:Rel P ρ H w){a:ah}{fn:Func}{vs:List go}(h:dw P H a fn.results.toList=a9 vs) :
  (results fn (ρ.act a).tmps).run P w=.ok (ρ.val (Ev vs)) w:=by
 have b:=te r h
 have c:results fn (ρ.act a).tmps=(do
   let vs <-fn.results.mapM (uZ (ρ.act a).tmps)
   pure (if h:vs.size=1 then vs[0] else .tuple vs)):=by
  unfold results;congr 2
 rw[c,Array.mapM_eq_mapM_toList];simp only[Sem.run_bind,Sem.run_map,b,Result.andThen_ok,Sem.run_pure,R1]
def UM.plain{F:Fence}{n:Nat}{f:FuncId}{args:Array go}{R:Ending->i6->Prop}(h:CallsIn F.plain n P f args w R):CallsIn F n P f args w R:=h
def Rel.Jp(r:Rel P ρ H w):Tp H:=r.dom
def Ren.mode(ρ:Ren):FrameMode->FrameMode
 |.panicking b=>.panicking (b.map ρ.pe)
 |u=>u
def Dp(N:Nat):FrameMode->Prop
 |.panicking b=>∀ p∈b,aV N p.v=bv
 |_=>True
def Dp.mono{N M:Nat}{u:FrameMode}(h:Dp N u)(b:N<=M):Dp M u:=by
 cases u with
 |panicking d=>exact fun p c=>cU b _ (h p c)
 |_=>trivial
def Ta{N:Nat}{ρ b:Ren}(e:Ext N ρ b){c:List PanicEntry}(h:∀ p∈c,aV N p.v=bv):c.map b.pe=c.map ρ.pe:=by apply List.map_congr_left;intro p d;simp only[Ren.pe,je e _ (h p d)]
def tO{N:Nat}{ρ b:Ren}(e:Ext N ρ b){u:FrameMode}(h:Dp N u):b.mode u=ρ.mode u:=by
 cases u with
 |panicking c=>simp only[Ren.mode,Ta e h]
 |_=>rfl
def HT(ρ:Ren):∀(l:List PanicEntry),(l.map ρ.pe).dropWhile (!·.goexit)=(l.dropWhile (!·.goexit)).map ρ.pe
 |[]=>rfl
 |p::l=>by
  simp only[zB8,List.dropWhile_cons,Ren.pe];split
  .exact HT ρ l
  .rfl
def Rh{l:List PanicEntry}{p:PanicEntry}(h:p∈l.dropWhile (!·.goexit)):p∈l:=(List.dropWhile_sublist _).subset h
def FO(ρ:Ren)(u:FrameMode):settle (ρ.mode u)=ρ.mode (settle u):=by
 cases u with
 |panicking b =>
  cases b with
  |nil=>rfl
  |cons p l =>
   obtain⟨v,r,g⟩:=p
   cases r with
   |false=>rfl
   |true =>simp only[Ren.mode,zB8,Ren.pe,settle];rw[show List.map ρ.pe l=l.map ρ.pe from rfl,HT];cases l.dropWhile (!·.goexit)<;>rfl
 |_=>rfl
def Is{N:Nat}{u:FrameMode}(h:Dp N u):Dp N (settle u):=by
 cases u with
 |panicking b =>
  cases b with
  |nil=>exact h
  |cons p l =>
   obtain⟨v,r,g⟩:=p
   cases r with
   |false=>exact h
   |true =>
    simp only[settle]
    cases e:l.dropWhile (!·.goexit) with
    |nil=>trivial
    |cons q l' =>intro p c;exact h p (zB9 _ (Rh (by rw[e]; exact c)))
 |_=>trivial
def Gl(ρ:Ren)(u:FrameMode)(b:List PanicEntry):raised (ρ.mode u) (b.map ρ.pe)=ρ.mode (raised u b):=by cases u<;>simp[Ren.mode,raised]
def IB{N:Nat}{u:FrameMode}{b:List PanicEntry}(h:Dp N u)(c:∀ p∈b,aV N p.v=bv):Dp N (raised u b):=by
 cases u with
 |panicking gO =>
  intro p hp;rcases zB1.1 hp with hp|hp
  .exact c p hp
  .exact h p hp
 |_=>exact c
def Mj{e:i7->go}{o:Oper}(h:isRec o.op=bv):(execOp e o).run P w=.ok .recover w:=by
 obtain⟨dst,b,ty,af,c,ps⟩:=o;simp only at h;unfold isRec at h;split at h
 .simp[execOp,resolve,invoke,builtin]
 .cases h
def DT(ρ:Ren){c:Frame}{u:FrameMode}(b:c.mode=ρ.mode u)(cs:List Frame) :
  recoverD (c::cs)=a9 (ρ.val (fp u).1,{c with mode:=ρ.mode (fp u).2}::cs)\/(recoverD (c::cs)=bi/\fp u=(.nilIface,u)):=by
 cases u with
 |panicking d =>
  cases d with
  |nil=>right; simp only[Ren.mode,zE7]at b; simp[recoverD,b,fp]
  |cons p l =>
   obtain⟨v,r,g⟩:=p;simp only[Ren.mode,zB8,Ren.pe]at b
   cases r with
   |true=>right; simp[recoverD,b,fp]
   |false =>
    cases g with
    |true=>right; simp[recoverD,b,fp]
    |false=>left; simp[recoverD,b,fp,Ren.mode,Ren.pe]
 |run=>right; simp only[Ren.mode]at b; simp[recoverD,b,fp]
 |returning=>right; simp only[Ren.mode]at b; simp[recoverD,b,fp]
def E8{N:Nat}{u:FrameMode}(h:Dp N u):aV N (fp u).1=bv/\Dp N (fp u).2:=by
 unfold fp;split
 .rename_i v b;refine⟨h _ (zF2 ..),fun p hp=>?_⟩;rcases zA8.1 hp with rfl|hp
  .exact h ⟨v,ci,ci⟩ (zF2 ..)
  .exact h p (zB9 _ hp)
 .exact⟨by simp[aV],h⟩
def UX(P:ip)(ρ:Ren)(H:aa)(w:i6)(d:Frame)(cs:List Frame)(e:Exit)(a1:ah)(c:FrameMode)(H1:aa)(Q:Exit->Act->List Frame->i6->Prop):Prop :=
 ∀ b w1,St P ρ H w b H1 w1->js H1.next a1->O9 H1.next e->Dp H1.next c->Q (b.exit e) (b.act a1) ({d with mode:=b.mode c}::cs) w1
def vp{c:Frame}{u:FrameMode}(h:c.mode=u):({c with mode:=u}:Frame)=c:=by subst h; rfl
def xR{ops:Array Oper}{F:Fence}{n:Nat}{Q:Exit->Act->List Frame->i6->Prop}(M:dx F){cs:List Frame} :
  ∀(rest:List Oper)(k:Nat)(ρ:Ren)(H:aa)(w:i6)(a:ah)(u:FrameMode)(i:Frame)(e:Exit)(a1:ah)(t:FrameMode)(H1:aa),ops.toList.drop k=rest->kr P ops rest a u H=a9 (e,a1,t,H1) ->
   Rel P ρ H w->js H.next a->Dp H.next u->i.mode=ρ.mode u->UX P ρ H w i cs e a1 t H1 Q->wpOpsSIn F n P ops Q (List.range' k rest.length) (ρ.act a) (i::cs) w
 |[],k,ρ,H,w,a,u,i,e,a1,t,H1,_,h,r,j,d,l,B=>by simp only[kr,i8,i9]at h;obtain⟨rfl,rfl,rfl,rfl⟩:=h;have:=B ρ w (St.refl r) j trivial d;rw[vp l]at this;exact this
 |o::rest,k,ρ,H,w,a,u,i,e,a1,t,H1,O,h,r,j,d,l,B=>by
  have S:ops[k]?=a9 o:=by have:=congrArg (·[0]?) O;simpa using this
  have C:ops.toList.drop (k+1)=rest:=by have:=congrArg List.tail O;simpa using this
  have next:∀(c:Ren)(g:aa)(w1:i6)(v:go)(x:FrameMode)(y:Frame),St P ρ H w c g w1->aV g.next v=bv->Dp g.next x->y.mode=c.mode x->(∀ m,({y with mode:=m}:Frame)={i with mode:=m}) ->
    kr P ops rest (a.put o.dst v) x g=a9 (e,a1,t,H1)->wpOpsSIn F n P ops Q (List.range' (k+1) rest.length) ((ρ.act a).put o.dst (c.val v)) (y::cs) w1:=by
   intro c g w1 v x y s q E G T b;rw[<-gM s.ext j,km];refine xR M rest (k+1) c g w1 _ x y e a1 t H1 C b s.rel ((j.mono s.le.next).put _ q) E G ?_;intro I U s2 J V W;rw[T];exact B I U (s.trans s2) J V W
  simp only[zA9,List.range'_succ,wpOpsSIn,S];refine⟨fun f _=>M.fn f,?_⟩;simp only[kr]at h;split at h
  .rename_i K;rw[gS ρ K,if_pos rfl];split at h
   .rename_i z;rw[Mj z];simp only;obtain⟨X,Y⟩:=E8 d
    rcases DT ρ l cs with L|⟨L,J⟩
    .rw[L];exact next ρ H w _ _ _ (St.refl r) X Y rfl (fun _=>rfl) h
    .rw[L];rw[J]at h;have:=next ρ H w .nilIface u i (St.refl r) (by simp[aV]) d l (fun _=>rfl) h
     rw[show ρ.val .nilIface=.nilIface from by simp[Ren.val]]at this;exact this
   .split at h
    .rename_i v g hx;obtain⟨⟨c,w1,s,b⟩,_⟩:=uv r hx;simp only[iO]at b;rw[b];exact next c g w1 v u i s (Eh r.glob.1 r.Jp j hx) (d.mono s.le.next) (by rw[l,tO s.ext d]) (fun _=>rfl) h
    .rename_i g hx;obtain⟨⟨c,w1,s,b⟩,_⟩:=uv r hx;simp only[iO]at b;rw[b];have:=next c g w1 undef u i s (eY _) (d.mono s.le.next) (by rw[l,tO s.ext d]) (fun _=>rfl) h
     rw[Ren.val_undef]at this;exact this
    .rename_i v g hx;obtain⟨⟨c,w1,s,b⟩,_⟩:=uv r hx;simp only[iO]at b;rw[b];have q:aV g.next v=true:=Eh r.glob.1 r.Jp j hx;simp only[i8,i9]at h;obtain⟨rfl,rfl,rfl,rfl⟩:=h;have:=B c w1 s (j.mono s.le.next) (fun p R=>by simp at R; subst R; exact q) (d.mono s.le.next);rw[gM s.ext j,tO s.ext d,vp l]at this;exact this
    .cases h
  .rename_i K;rw[gS ρ K];simp only[zD2,if_false];have:=next ρ H w undef u i (St.refl r) (eY _) d l (fun _=>rfl) h
   rw[Ren.val_undef]at this;exact this
  .cases h
def Ps{rec:Rec}(p:Sound P rec){F:Fence}{n:Nat}(I:dx F)(q:F.round=bi){cs:List Frame} :
  ∀(c:Code)(ρ:Ren)(H:aa)(w:i6)(a:ah)(u:FrameMode)(b:Frame)(e:Exit)(a1:ah)(d:FrameMode)(H1:aa)(Q:Exit->Act->List Frame->i6->Prop),mu P rec c a u H=a9 (e,a1,d,H1) ->
   Rel P ρ H w->js H.next a->Dp H.next u->b.mode=ρ.mode u->UX P ρ H w b cs e a1 d H1 Q->c.wpSIn F n P Q (ρ.act a) (b::cs) w:=by
 have lift:∀(c:Code)(ρ:Ren)(H:aa)(w:i6)(a:ah)(u:FrameMode)(b:Frame)(e:Exit)(a1:ah)(d:FrameMode)(H1:aa)(Q:Exit->Act->List Frame->i6->Prop),
   (rec.run bi c a H).map (fun r=>(r.1,r.2.1,u,r.2.2))=a9 (e,a1,d,H1) ->
   Rel P ρ H w->js H.next a->Dp H.next u->b.mode=ρ.mode u->UX P ρ H w b cs e a1 d H1 Q->c.wpSIn F n P Q (ρ.act a) (b::cs) w:=by
  intro c ρ H w a u b e a1 d H1 Q h r g f i j;simp only[zB5,i9]at h;obtain⟨⟨S,T,U⟩,hr,rfl,rfl,rfl,rfl⟩:=h;refine wpSIn_of_wpIn q (p.run bi c a H _ _ _ hr ρ w F n _ I (by rw[q]; rfl) (fun l K=>by cases K) r g ?_);intro k w1 s v B;have:=j k w1 s v B (f.mono s.le.next);rw[tO s.ext f,vp i]at this;exact this
 intro c
 induction c with
 |seq x y m o =>
  intro ρ H w a u b e a1 d H1 Q h r g f i j;simp only[mu]at h;refine wpSIn_seq ?_;split at h
  .rename_i a2 J H2 hx;refine m ρ H w a u b .normal a2 J H2 _ hx r g f i ?_;intro k w1 s v _ C;refine o k H2 w1 a2 J _ e a1 d H1 Q h s.rel v C rfl ?_;intro E L s2 M O R;exact j E L (s.trans s2) M O R
  .rename_i cn;refine m ρ H w a u b e a1 d H1 _ h r g f i ?_;intro k w1 s v B C;have:=j k w1 s v B C
   cases e with
   |normal=>exact absurd h (cn a1 d H1)
   |_=>exact this
 |cond c x y m o =>
  intro ρ H w a u b e a1 d H1 Q h r g f i j;simp only[mu]at h;split at h
  .rename_i G;refine wpSIn_cond (t:=true) (by rw[aL r G]; simp[Ren.val]) ?_;exact m ρ H w a u b e a1 d H1 Q h r g f i j
  .rename_i G;refine wpSIn_cond (t:=false) (by rw[aL r G]; simp[Ren.val]) ?_;exact o ρ H w a u b e a1 d H1 Q h r g f i j
  .cases h
 |region id ops z =>
  intro ρ H w a u b e a1 d H1 Q h r g f i j
  cases z with
  |true=>exact lift _ ρ H w a u b e a1 d H1 Q h r g f i j
  |false =>
   simp only[mu]at h;split at h
   .refine wpSIn_region ?_;rw[List.range_eq_range'];have:=xR (n:=n) (Q:=Q) I (cs:=cs) ops.toList 0 ρ H w a u b e a1 d H1 nl h r g f i j;simpa using this
   .exact lift _ ρ H w a u b e a1 d H1 Q h r g f i j
 |_ =>intro ρ H w a u b e a1 d H1 Q h r g f i j;exact lift _ ρ H w a u b e a1 d H1 Q h r g f i j
def Ww(P:ip)(ρ:Ren)(H:aa)(w:i6)(out:Out)(c:FrameMode)(H1:aa)(R:Ending->FrameMode->i6->Prop):Prop :=
 ∀ b w1,St P ρ H w b H1 w1->Dp H1.next c->match out with
  |.ok v=>R (.returned (b.val v)) (b.mode c) w1
  |.error d=>(∀ p∈d,aV H1.next p.v=bv)->R (.panicked (d.map b.pe)) (b.mode c) w1
def zU{rec:Rec}(j:Sound P rec)(r:Rel P ρ H w){f:FuncId}{args:List go}{u:FrameMode}{out:Out}{t:FrameMode}{H1:aa}(h:nB P rec f args u H=a9 (out,t,H1))(l:aT H.next args=bv)(B:Dp H.next u)
  {F:Fence} {n:Nat} {R:Ending->FrameMode->i6->Prop} (v:dx F) (m:F.round=bi) (o:Ww P ρ H w out t H1 R):CallsDIn F n P f (args.map ρ.val).toArray (ρ.mode u) w R:=by
 simp only[nB,zA1,zA2]at h;obtain⟨fn,p,c,C,h⟩:=h;split at h
 .rename_i d;have d:=jl d;simp only[zA2]at h;obtain⟨⟨e,a1,E,H2⟩,hr,h⟩:=h;refine callsDIn_of_wpSIn p C (v.fn f) (fun G cs I=>?_);have k:({tmps:=(args.map ρ.val).toArray++Array.replicate (fn.ntmps-(args.map ρ.val).toArray.size) undef,defers:=[]}:Act)=ρ.act ⟨{RV.ofList args with n:=fn.ntmps},[]⟩:=by rw[Cs ρ args fn.ntmps d]; rfl
  rw[k];refine Ps j v m c ρ H w _ u G e a1 E H2 _ hr r (F2 l) B I ?_;intro g w1 s L J q;obtain⟨K,M⟩:=a1;unfold V6 at h;split at h
  .rename_i x y z b;simp only[i9,ah.mk.injEq]at b;obtain⟨rfl,⟨rfl,rfl⟩,rfl,rfl⟩:=b;simp only[zB5,i9]at h;obtain⟨vs,i,rfl,rfl,rfl⟩:=h;exact⟨rfl,_,rfl,_,qh s.rel i,o g w1 s q⟩
  .rename_i x y z b;simp only[i9,ah.mk.injEq]at b;obtain⟨rfl,⟨rfl,rfl⟩,rfl,rfl⟩:=b;simp only[zB5,i9]at h;obtain⟨vs,i,rfl,rfl,rfl⟩:=h;exact⟨rfl,_,rfl,_,qh s.rel i,o g w1 s q⟩
  .rename_i O x y z b;simp only[i9,ah.mk.injEq]at b;obtain⟨rfl,⟨rfl,rfl⟩,rfl,rfl⟩:=b;simp only[i8,i9]at h;obtain⟨rfl,rfl,rfl⟩:=h;exact⟨rfl,_,rfl,o g w1 s q J⟩
  .cases h
 .cases h
def yp(ρ:Ren)(c:Array go):ρ.eV c=(c.toList.map ρ.val).toArray:=by rw[Ren.ed]; apply Array.ext'; simp
def oX{rec:Rec}(c:Sound P rec){F:Fence}{n:Nat}(q:dx F)(k:F.round=bi){fn:Func}{a1:ah}{R:Ending->i6->Prop} :
  ∀(j:List Deferred)(u:FrameMode)(H:aa)(w:i6)(ρ:Ren)(out:Out)(H1:aa),dS P rec fn a1 j u H=a9 (out,H1)->Rel P ρ H w->js H.next a1->(∀ d∈j,TY H.next d)->Dp H.next u ->
   O6 P ρ H w out H1 R->LeavesInM F n P fn (ρ.act a1).tmps R (j.map ρ.tq) (ρ.mode u) w
 |[],u,H,w,ρ,out,H1,h,r,t,y,I,G=>by
  cases u with
  |run=>simp[dS]at h
  |returning =>simp only[dS,zB5,i9]at h;obtain⟨vs,J,rfl,rfl⟩:=h;exact⟨_,qh r J,G ρ w (St.refl r) (UH (vq r.glob.1 r.Jp t J))⟩
  |panicking O =>simp only[dS,i8,i9]at h;obtain⟨rfl,rfl⟩:=h;exact G ρ w (St.refl r) I
 |d::j,u,H,w,ρ,out,H1,h,r,t,y,I,G=>by
  have cn:ρ.mode u≠.run:=by
   cases u with
   |run=>simp[dS]at h
   |_=>simp[Ren.mode]
  refine⟨cn,?_⟩
  rcases y d (zF2 ..) with⟨x,rfl,hx⟩|⟨f,cap,l,rfl,K,Q⟩
  .have m : (match (generalizing := false) H.get x with
     |some ⟨.deferred (a9 []),_,_⟩=>dS P rec fn a1 j u (H.cH x (a9 ⟨.deferred bi,ci,⟨[],0⟩⟩))
     |_=>bi)=a9 (out,H1):=by
    cases u with
    |run=>simp[dS]at h
    |_=>simp only[dS]at h; exact h
   clear h;split at m
   .rename_i o v S;obtain⟨o',T,W⟩:=r.obj _ _ S;simp only[Fits]at W;subst W;obtain⟨X,Y,Z⟩:=ie (w:=w) (ρ.blk x) _ (.deferred bi) T
    have L:St P ρ H w ρ (H.cH x (a9 ⟨.deferred bi,ci,⟨[],0⟩⟩)) {w with heap:=w.heap.setIfInBounds (ρ.blk x) (.deferred bi)} :=
     St.cH r (bJ S) (tF S rfl) (by simp[l6]) (by simp[Fits]) X Y Z rfl rfl rfl
    have ih:=oX c q k (n:=n) (R:=R) j u _ _ ρ out H1 m L.rel t (fun d b=>y d (zB9 _ b)) I (fun i w1 s=>G i w1 (L.trans s));refine .inl ⟨ρ.blk x,_,rfl,?_,ih⟩;simp[Instr.takeDeferred,getObj,Sem.run,T,jm (P:=P) (o':=.deferred bi) T (fun _ _ _=>by simp)]
   .cases m
  .have m : (if aD P f then
     match (generalizing:=false) nB P rec f (l.toList++cap.toList) u H with
     |some (.ok _,M,H1)=>dS P rec fn a1 j (settle M) H1
     |some (.error O,M,H1)=>dS P rec fn a1 j (raised M O) H1
     |none=>bi
    else bi)=a9 (out,H1):=by
    cases u with
    |run=>simp[dS]at h
    |_=>simp only[dS]at h; exact h
   clear h;split at m
   .rename_i hb;have p:aT H.next (l.toList++cap.toList)=true:=cb (by rw[<-lN]; exact Q) (by rw[<-lN]; exact K);have z:ρ.eV l++ρ.eV cap=((l.toList++cap.toList).map ρ.val).toArray:=by rw[yp,yp]; simp
    refine .inr ⟨q.deep,.func f,ρ.eV cap,f,((l.toList++cap.toList).map ρ.val).toArray,rfl,?_,fun g _=>q.fn g,?_⟩
    .simp only[Ren.tq,Ren.fn,invoke,z];exact xI hb
    .split at m
     .rename_i v M H2 B;refine zU c r B p I q k ?_;intro i w1 s C;simp only;rw[FO,<-gM s.ext t,show j.map ρ.tq=j.map i.tq from List.map_congr_left fun d b=>(uH s.ext (y d (zB9 _ b))).symm];exact oX c q k j _ H2 w1 i out H1 m s.rel (t.mono s.le.next) (fun d b=>(y d (zB9 _ b)).mono s.le.next) (Is C) (fun E U s2=>G E U (s.trans s2))
     .rename_i O M H2 B;refine zU c r B p I q k ?_;intro i w1 s C V;simp only;rw[Gl,<-gM s.ext t,show j.map ρ.tq=j.map i.tq from List.map_congr_left fun d b=>(uH s.ext (y d (zB9 _ b))).symm];exact oX c q k j _ H2 w1 i out H1 m s.rel (t.mono s.le.next) (fun d b=>(y d (zB9 _ b)).mono s.le.next) (IB C V) (fun E U s2=>G E U (s.trans s2))
     .cases m
   .cases m
def Ac{rec:Rec}(g:Sound P rec){f:FuncId}{args:List go}{fn:Func}{c:Code}{e:Exit}{a1:ah}{H2 H1:aa}{out:Out}(m:P.funcs[f]?=a9 fn)(x:fn.body=a9 c)(o:args.length<=fn.ntmps)
  (y:dI P bi c ⟨{RV.ofList args with n:=fn.ntmps},[]⟩ H e a1 H2) (h:Nb P rec fn (e,a1,H2)=a9 (out,H1)):bD P f args H out H1:=by
 intro ρ w r p F n R q z;refine UM.plain (callsIn_of_wp_marks m x (q.plain.fn f) ?_ rfl);have i:({tmps:=(args.map ρ.val).toArray++Array.replicate (fn.ntmps-(args.map ρ.val).toArray.size) undef,defers:=[]}:Act)=ρ.act ⟨{RV.ofList args with n:=fn.ntmps},[]⟩:=by rw[Cs ρ args fn.ntmps o]; rfl
 rw[i];refine y ρ w F.plain n _ q.plain rfl (fun l s=>by cases s) r (F2 p) ?_;intro b w1 j k t
 have d:∀(u:FrameMode),dS P rec fn a1 a1.defers u H2=a9 (out,H1)->Dp H2.next u->LeavesInM F.plain n P fn (b.act a1).tmps R (b.act a1).defers (b.mode u) w1 :=
  fun u s B=>oX g q.plain rfl a1.defers u H2 w1 b out H1 s j.rel k k.2 B (fun v C s2=>z v C (j.trans s2))
 cases e with
 |normal=>exact d .returning h trivial
 |ret=>exact d .returning h trivial
 |panic E=>exact d (.panicking E) h t
 |exit id=>simp[Nb]at h
 |goto l=>simp[Nb]at h
 |outgrown=>simp[Nb]at h
def zG{rec:Rec}(b:Sound P rec)(r:Rel P ρ H w){f:FuncId}{args:List go}{out:Out}{H1:aa}(h:Em P rec f args H=a9 (out,H1))(d:aT H.next args=bv)
  {F:Fence} {n:Nat} {R:Ending->i6->Prop} (j:dx F) (k:O6 P ρ H w out H1 R):CallsIn F n P f (args.map ρ.val).toArray w R:=by
 simp only[Em,zA1,zA2]at h;obtain⟨fn,g,c,l,h⟩:=h;split at h
 .rename_i i;simp only[zA2]at h;obtain⟨⟨e,a1,H2⟩,hr,h⟩:=h;exact Ac b g l (jl i) (b.run bi c _ H e a1 H2 hr) h ρ w r d F n R j k
 .cases h
def xk{l:Nat}{b:Loop}{e:RV}(h:getLoop H l=a9 (b,e)):∃ o,H.get l=a9 ⟨.loop b,o,e⟩:=by
 unfold getLoop at h;split at h
 .rename_i r o d c;simp only[i8,i9]at h;obtain⟨rfl,rfl⟩:=h;exact⟨o,c⟩
 .cases h
def mL(r:Rel P ρ H w){l:Nat}{b lp':Loop}{e:RV}(h:getLoop H l=a9 (b,e))(f:lp'.defers=b.defers) :
  ∃ fn,(Instr.getLoop (ρ.blk l)).run P w=.ok {b with fn:=fn,tmps:=ρ.tmps e,defers:=ρ.blk b.defers} w /\
   ∃ w1,(setObj (ρ.blk l) (.loop {lp' with fn:=fn,tmps:=ρ.tmps e,defers:=ρ.blk b.defers})).run P w=.ok () w1/\St P ρ H w ρ (cu H l lp' e) w1:=by
 obtain⟨o,c⟩:=xk h;obtain⟨fn,g,d⟩:=pM r c;refine⟨fn,d,_,jm g (fun _ _ _=>by simp),?_⟩;obtain⟨j,k,m⟩:=ie (w:=w) (ρ.blk l) _ (.loop {lp' with fn:=fn,tmps:=ρ.tmps e,defers:=ρ.blk b.defers}) g;have i:=(r.dom _ _ c).2;simp only[l6]at i;refine St.cH r (bJ c) (tF c rfl) ?_ ?_ j k m rfl rfl rfl
 .simp only[l6,f]; exact i
 .simp only[Fits,f]; exact⟨fn,rfl⟩
def St.below(r:Rel P ρ H w){w1:i6}(h:RowKit.Below w.heap.size w w1):St P ρ H w ρ H w1:=by refine⟨Ext.refl _ _,Le.refl _,⟨r.base,r.glob,r.inj,r.dom,fun n o c=>?_⟩,h.os,h.tape,h.output,h.size,fun b d _=>h.block b d,fun n g f=>absurd (r.lt f) lw,fun _ _=>⟨id,rfl⟩⟩;rw[h.block _ (r.wq (bJ c))];exact r.obj n o c
def vM(ρ:Ren):∀(l:List go),(∀ x∈l,af x=bv)->l.map ρ.val=l
 |[],_=>rfl
 |x::l,h=>by rw[zB8,dM ρ x (h x (zF2 ..)),vM ρ l (fun y b=>h y (zB9 _ b))]
def B1{rec:Rec}(b:Sound P rec)(r:Rel P ρ H w){f:FuncId}{args:List go}{out:Out}{H1:aa}(h:JW P rec f args H=a9 (out,H1))(c:aT H.next args=bv)
  {F:Fence} {n:Nat} {R:Ending->i6->Prop} (d:dx F) (i:O6 P ρ H w out H1 R):CallsIn F n P f (args.map ρ.val).toArray w R:=by
 unfold JW at h;split at h
 .rename_i v g j;simp only[i8,i9]at h;obtain⟨rfl,rfl⟩:=h;exact b.know f args v H g j ρ w r c F n R d i
 .exact zG b r h c d i
def D6(P:ip)(rd:Round)(H:aa)(out:Out)(H1:aa):Prop :=
 ∀(ρ:Ren)(w:i6),Rel P ρ H w->rd.l<H.next->(∀ i,i<rd.env.n->aV H.next (rd.env.get i)=bv)->∀(F:Fence)(n:Nat)(f:FuncId)(R:Ending->i6->Prop),dx F->O6 P ρ H w out H1 R->RoundIn F n P (ρ.blk rd.l) f (ρ.tmps rd.env) rd.assign rd.body w R
def Al{rd:Round}{a1 a2:ah}{H2 M:aa}{O:Exit}{q c:Loop}{le s:RV}{j:Option Code}(hr:dI P (a9 rd.l) rd.assign ⟨rd.env,[]⟩ H .normal a1 H2)
  (Q:getLoop H2 rd.l=a9 (q,le)) (u:q.state=.ready) (S:dI P (a9 rd.l) rd.body a1 (cu H2 rd.l {q with state:=.busy} le) O a2 M) (p:kU O=a9 j) (C:getLoop M rd.l=a9 (c,s)) :
  D6 P rd H (.ok (ls j.isNone)) (cu M rd.l {c with state:=if j.isNone then .ready else .done,pending:=j} s):=by
 intro ρ w r T U F n f R V hR;refine roundIn_of_wpIn (V.fn f) ?_;have E:({tmps:=ρ.tmps rd.env,defers:=[]}:Act)=ρ.act ⟨rd.env,[]⟩:=rfl;rw[E];refine hr ρ w (F.inRound (ρ.blk rd.l)) n _ (V.inRound _) rfl (fun l e=>by cases e; exact T) r ⟨U,fun d hd=>by cases hd⟩ ?_;intro h w1 v W hsx;have k:h.blk rd.l=ρ.blk rd.l:=v.ext.blk _ T;obtain⟨fn,G,X,x,y⟩:=mL v.rel (lp':={q with state:=.busy}) Q rfl;rw[k]at G x;refine⟨X,?_,?_⟩
 .simp only[Instr.beginRound,Sem.run_bind,G,Result.andThen_ok];rw[show ({({q with fn:=fn,tmps:=h.tmps le,defers:=h.blk q.defers}:Loop) with state:=.busy}:Loop)={({q with state:=.busy}:Loop) with fn:=fn,tmps:=h.tmps le,defers:=h.blk q.defers} from rfl,x];simp[u]
 .have I:(cu H2 rd.l {q with state:=.busy} le).next=H2.next:=rfl;have J:rd.l<H2.next:=zE0 T v.le.next;refine S h X (F.inRound (ρ.blk rd.l)) n _ (V.inRound _) (by simp[k]) (fun l e=>by cases e; rw[I]; exact J) y.rel W ?_;intro i w3 m Y Z;have B:i.blk rd.l=ρ.blk rd.l:=(m.ext.blk _ (by rw[I]; exact J)).trans k;obtain⟨K,z,w4,o,L⟩:=mL m.rel (lp':={c with state:=if j.isNone then .ready else .done,pending:=j}) C rfl;rw[B]at z o
  have g:(Instr.endRound (ρ.blk rd.l) j).run P w3=.ok (ls j.isNone) w4:=by
   simp only[Instr.endRound,Sem.run_bind,z,Result.andThen_ok]
   rw[show ({({c with fn:=K,tmps:=i.tmps s,defers:=i.blk c.defers}:Loop) with state:=if j.isNone then .ready else .done,pending:=j}:Loop) =
    {({c with state:=if j.isNone then .ready else .done,pending:=j}:Loop) with fn:=K,tmps:=i.tmps s,defers:=i.blk c.defers} from rfl,o]
   simp
  have b:=hR i w4 (((v.trans y).trans m).trans L) (by simp only[aV]);simp only[Ren.val]at b
  cases O with
  |normal=>simp only[kU,i8]at p; subst p; exact⟨_,_,g,b⟩
  |ret=>simp only[kU,i8]at p; subst p; exact⟨_,_,g,b⟩
  |exit id=>simp only[kU,i8]at p; subst p; exact⟨_,_,g,b⟩
  |goto t=>simp only[kU,i8]at p; subst p; exact⟨_,_,g,b⟩
  |panic ch=>simp[kU]at p
  |outgrown=>simp[kU]at p
def Gm{rec:Rec}(c:Sound P rec){rd:Round}{out:Out}{H1:aa}(h:JG rec rd H=a9 (out,H1)):D6 P rd H out H1:=by
 unfold JG at h;simp only[zA1,zA2]at h;obtain⟨⟨e,a1,H2⟩,hr,h⟩:=h
 cases e with
 |normal =>
  simp only[zA2]at h;obtain⟨⟨g,le⟩,hlp,h⟩:=h;simp only at h;split at h
  .rename_i b;simp only[zA2]at h;obtain⟨⟨i,a2,k⟩,hr2,j,hj,⟨d,f⟩,hlp2,h⟩:=h;simp only[i8,i9]at h;obtain⟨rfl,rfl⟩:=h;exact Al (c.run _ _ _ _ _ _ _ hr) hlp b (c.run _ _ _ _ _ _ _ hr2) hj hlp2
  .cases h
 |exit id=>cases h
 |goto l=>cases h
 |ret=>cases h
 |panic m=>cases h
 |outgrown=>cases h
end
section
variable{P:ip}{ρ:Ren}{H:aa}{w:i6}
def Wm(P:ip)(ρ:Ren)(H:aa)(w:i6)(a:Act)(dst:Option Tmp)(out:Out)(H1:aa)(K:Act->i6->Prop)(Q:Exit->Act->i6->Prop):Prop :=
 ∀ b w1,St P ρ H w b H1 w1->match out with
  |.ok v=>aV H1.next v=bv->K (a.put dst (b.val v)) w1
  |.error c=>(∀ p∈c,aV H1.next p.v=bv)->Q (.panic (c.map b.pe)) a w1
def G5{rec:Rec}(m:Sound P rec)(r:Rel P ρ H w){a:ah}(B:js H.next a){o:Oper}{out:Out}{H1:aa}(h:RL P rec a H o=a9 (out,H1)){ca:Act}(y:∀ x∈o.op.operands,ca.eval x=(ρ.act a).eval x)
  {F:Fence} {n:Nat} {K:Act->i6->Prop} {Q:Exit->Act->i6->Prop} (s:dx F) (q:Wm P ρ H w ca o.dst out H1 K Q):o.wpIn F n P ca w K Q:=by
 simp only[RL,zA2]at h;obtain⟨⟨x,g⟩,hx,h⟩:=h;have j:=Eh r.glob.1 r.Jp B hx;obtain⟨⟨l,w1,d,c⟩,hnd⟩:=uv r hx;refine⟨fun f _=>s.fn f,?_⟩;have t:∀ cs b,o.op≠.select cs b:=fun cs b e=>by rw[e]at hx; simp[cE,FL]at hx
 rw[Oper.semAt_eq _ _ _ hnd,execOp_congr o t y]
 cases x with
 |value v =>simp only[UU,i8,i9]at h;obtain⟨rfl,rfl⟩:=h;simp only[iO]at c;rw[c,Oper.uponIn_value];exact q l w1 d j
 |skip =>simp only[UU,i8,i9]at h;obtain⟨rfl,rfl⟩:=h;simp only[iO]at c;rw[c,Oper.uponIn_skip];have:=q l w1 d (eY _);simpa using this
 |enter f args =>
  simp only[UU]at h;simp only[iO]at c;rw[c,Oper.uponIn_enter];refine⟨s.deep,B1 m d.rel h j s ?_⟩;intro k u i
  cases out with
  |ok v=>exact q k u (d.trans i)
  |error C=>exact q k u (d.trans i)
 |round rd =>
  simp only[UU]at h;simp only[iO]at c;obtain⟨fn,c⟩:=c;rw[c,Oper.uponIn_round];refine⟨s.deep,Gm m h l w1 d.rel j.1 j.2 _ _ _ _ s ?_⟩;intro k u i
  cases out with
  |ok v=>exact q k u (d.trans i)
  |error C=>exact q k u (d.trans i)
 |panic v =>simp only[UU,i8,i9]at h;obtain⟨rfl,rfl⟩:=h;simp only[iO]at c;rw[c,Oper.uponIn_panic];exact q l w1 d (fun p z=>by simp at z; subst z; exact j)
def HX(P:ip)(a:ah)(H:aa)(o:Oper)(out:Out)(H1:aa):Prop :=
 ∀(ρ:Ren)(w:i6),Rel P ρ H w->js H.next a->∀(ca:Act),(∀ x∈o.op.operands,ca.eval x=(ρ.act a).eval x) ->
  ∀(F:Fence)(n:Nat)(K:Act->i6->Prop)(Q:Exit->Act->i6->Prop),dx F->Wm P ρ H w ca o.dst out H1 K Q->o.wpIn F n P ca w K Q
def Kw{rec:Rec}(b:Sound P rec){a:ah}{o:Oper}{out:Out}{H1:aa}(h:RL P rec a H o=a9 (out,H1)):HX P a H o out H1 :=
 fun _ _ r d _ c _ _ _ _ f g=>G5 b r d h c f g
def LC{rec:Rec}(b:Sound P rec)(r:Rel P ρ H w){a:ah}(c:js H.next a){o:Oper}{out:Out}{H1:aa}(h:RL P rec a H o=a9 (out,H1))
  {F:Fence} {n:Nat} {K:Act->i6->Prop} {Q:Exit->Act->i6->Prop} (d:dx F) (f:Wm P ρ H w (ρ.act a) o.dst out H1 K Q):o.wpIn F n P (ρ.act a) w K Q :=
 G5 b r c h (fun _ _=>rfl) d f
def Az(r:Rel P ρ H w){a:ah}(p:js H.next a){o:Oper}{d:Deferred}(h:p8 P a o.op=a9 d):(execOp (ρ.act a).eval o).run P w=.ok (.defer (ρ.tq d)) w/\TY H.next d:=by
 obtain⟨dst,v,ty,after,x,ps⟩:=o;simp only at h;unfold p8 at h;split at h
 .rename_i c;split at h
  .rename_i f j;simp only[zA1,zA2]at h;obtain⟨args,i,y,l,h⟩:=h;unfold I6 at h;split at h
   .rename_i g first b
    simp only[i8]at h;subst h;have m:=cS r.glob.1 p l;simp only[aV,zA6]at m;refine⟨?_,.inr ⟨g,b,_,rfl,m.2,?_⟩⟩
    .have s:=aL r l;have q:=mw r i;obtain⟨n,k,t⟩:=c;simp only at j q;subst j;simp only[execOp,resolve,s,Ren.val,Deferred.ofValue,Ren.fn,Sem.run_bind,Sem.run_pure,Result.andThen_ok,Ren.tq];congr 3;rw[yp,yp,List.map_append];have u:k.map (ρ.act a).eval=(args.map ρ.val).toArray:=by apply Array.ext';simpa using q
     rw[u]; simp
    .obtain⟨z⟩:=first
     rw[fL]at m ⊢;exact cb m.1 (nH r.glob.1 p i)
   .cases h
  .cases h
 .cases h
def pd{rec:Rec}(b:Sound P rec){top:Bool}{ops:Array Oper}{F:Fence}{n:Nat}{Q:Exit->Act->i6->Prop}(m:dx F)(j:top=bv->F.round=bi) :
  ∀(rest:List Oper)(k:Nat)(ρ:Ren)(H:aa)(w:i6)(a:ah)(e:Exit)(a1:ah)(H1:aa),ops.toList.drop k=rest->lv P rec top ops rest a H=a9 (e,a1,H1)->Rel P ρ H w->js H.next a ->
   (∀ i w1,St P ρ H w i H1 w1->js H1.next a1->O9 H1.next e->Q (i.exit e) (i.act a1) w1)->wpOpsIn F n P ops Q (List.range' k rest.length) (ρ.act a) w
 |[],k,ρ,H,w,a,e,a1,H1,_,h,r,l,s=>by simp only[lv,i8,i9]at h;obtain⟨rfl,rfl,rfl⟩:=h;exact s ρ w (St.refl r) l trivial
 |o::rest,k,ρ,H,w,a,e,a1,H1,I,h,r,l,s=>by
  have J:ops[k]?=a9 o:=by have:=congrArg (·[0]?) I;simpa using this
  have hd':ops.toList.drop (k+1)=rest:=by have:=congrArg List.tail I;simpa using this
  simp only[zA9,List.range'_succ,wpOpsIn,J];simp only[lv]at h;split at h
  .rename_i y;rw[gS ρ y,if_pos rfl];split at h
   .rename_i v g p;refine LC b r l p m ?_;intro i w1 c q;have z:js g.next a:=l.mono c.le.next;rw[<-gM c.ext l,km];refine pd b m j rest (k+1) i g w1 (a.put o.dst v) e a1 H1 hd' h c.rel (z.put _ q) ?_;intro B K t L M;exact s B K (c.trans t) L M
   .rename_i R g p;simp only[i8,i9]at h;obtain⟨rfl,rfl,rfl⟩:=h;refine LC b r l p m ?_;intro i w1 c q;have:=s i w1 c (l.mono c.le.next) q;rw[gM c.ext l]at this;exact this
   .split at h
    .rename_i d C;obtain⟨u,E⟩:=Az r l C;refine⟨fun f _=>m.fn f,?_⟩;rw[j rfl,Oper.semAt_none,u];have x:=km ρ ⟨a.env,d::a.defers⟩ o.dst undef;rw[Ren.val_undef]at x
     have G:js H.next ⟨a.env,d::a.defers⟩:=⟨l.1,fun O hd'=>by
      rcases zA8.1 hd' with rfl|hd'
      .exact E
      .exact l.2 O hd'⟩
     have:=pd (n:=n) (Q:=Q) b m j rest (k+1) ρ H w (ah.put ⟨a.env,d::a.defers⟩ o.dst undef) e a1 H1 hd' h r (G.put _ (eY _)) s;rw[<-x]at this;exact this
    .cases h
  .rename_i y;rw[gS ρ y];simp only[zD2,if_false];refine⟨fun f _=>m.fn f,?_⟩;have x:=km ρ a o.dst undef;rw[Ren.val_undef]at x;rw[x];exact pd b m j rest (k+1) ρ H w (a.put o.dst undef) e a1 H1 hd' h r (l.put _ (eY _)) s
  .cases h
def rJ(r:Rel P ρ H w){ro:Option Nat}{a:ah}{ps:Array Tmp}{assign body:Code}{l:Nat}{mark:List Deferred}{H1:aa}(q:∀ l,ro=a9 l->l<H.next)(b:∀ i,i<a.env.n->aV H.next (a.env.get i)=bv)
  (h:enterLoop ro a ps assign body H=a9 (l,mark,H1)) (fn:FuncId) :
  ∃ f w1,St P ρ H w f H1 w1/\(Instr.enterLoop fn (ρ.act a).tmps ps assign body (ro.map ρ.blk)).run P w=.ok (f.blk l,mark.map f.tq) w1/\l<H1.next/\∀ d∈mark,TY H1.next d:=by
 unfold enterLoop at h
 .split at h
  .simp only[i8,i9]at h;obtain⟨rfl,rfl,rfl⟩:=h;have m:=St.new r ⟨.deferred (a9 []),ci,⟨[],0⟩⟩ (.deferred (a9 [])) 0 0 (by simp[l6]) (by simp[Fits]);have g:(H.new ⟨.deferred (a9 []),ci,⟨[],0⟩⟩).next=H.next+1:=rfl
   have s2:=St.new m.rel (lO a ps assign body H.next)
    (.loop {state:=.ready,pending:=bi,fn:=fn,tmps:=ρ.tmps a.env,params:=ps,assign,body,defers:=w.heap.size}) 0 0
    (by
     simp only[lO,l6,g]
     exact⟨zF3 _,fun i hi=>cU (Nat.le_succ _) _ (b i hi)⟩)
    (by
     simp only[lO,Fits,g];refine⟨fn,?_⟩
     have s:Ext H.next ρ ((ρ.at H.next w.heap.size 0 0).at (H.next+1) (w.alloc (.deferred (a9 []))).heap.size 0 0) :=
      (Ren.lr ρ H.next w.heap.size 0 0).trans (Ren.lr _ (H.next+1) _ 0 0) (Nat.le_succ _)
     rw[Ren.ug s _ b,(Ren.lr (ρ.at H.next w.heap.size 0 0) (H.next+1) _ 0 0).blk _ (zF3 _),Ren.at_blk])
   refine⟨_,_,m.trans s2,?_,zF3 _,fun d c=>by simp at c; subst c; exact .inl ⟨_,rfl,by show H.next<H.next+1+1; omega⟩⟩;have t:((ρ.at H.next w.heap.size 0 0).at (H.next+1) (w.alloc (.deferred (a9 []))).heap.size 0 0).blk (H.next+1)=w.heap.size+1:=by rw[Ren.at_blk]; simp
   have j:((ρ.at H.next w.heap.size 0 0).at (H.next+1) (w.alloc (.deferred (a9 []))).heap.size 0 0).blk H.next=w.heap.size:=by rw[(Ren.lr (ρ.at H.next w.heap.size 0 0) (H.next+1) _ 0 0).blk _ (zF3 _),Ren.at_blk]
   simp only[Instr.enterLoop,Option.map_none,Sem.run_bind,run_newObj,Result.andThen_ok,Sem.run_pure,g,t];simp only[zB8,zE7,Ren.tq,j];simp[Ren.act];rfl
  .rename_i y;simp only[zA1,zA2]at h;obtain⟨⟨p,le⟩,hlp,h⟩:=h;simp only at h;split at h
   .rename_i c;have c:=bT c;simp only[i8,i9]at h;obtain⟨rfl,rfl,rfl⟩:=h;obtain⟨o,u⟩:=xk hlp;obtain⟨v,x,k⟩:=pM r u
    have s2:=St.new r (lO a ps assign body p.defers)
     (.loop {state:=.ready,pending:=bi,fn:=fn,tmps:=ρ.tmps a.env,params:=ps,assign,body,defers:=ρ.blk p.defers}) 0 0
     (by
      simp only[lO,l6]
      exact⟨c,b⟩)
     (by
      simp only[lO,Fits];refine⟨fn,?_⟩
      rw[Ren.ug (Ren.lr ρ H.next w.heap.size 0 0) _ b,(Ren.lr ρ H.next w.heap.size 0 0).blk _ c])
    refine⟨_,_,s2,?_,zF3 _,fun d c=>by cases c⟩;simp only[Instr.enterLoop,zB2,Sem.run_bind,k,run_newObj,Result.andThen_ok,Sem.run_pure,Ren.at_blk,zE7];simp[Ren.act]
   .cases h
end
mutual
def fY{N:Nat}:∀ v,aV N v=bv->∀ n∈ae v,n<N
 |.bool _,_,n,hn=>by simp[ae]at hn
 |.int _ _,_,n,hn=>by simp[ae]at hn
 |.float _ _,_,n,hn=>by simp[ae]at hn
 |.complex _ _ _,_,n,hn=>by simp[ae]at hn
 |.string _,_,n,hn=>by simp[ae]at hn
 |li bi,_,n,hn=>by simp[ae]at hn
 |li (a9 a),h,n,hn=>by simp only[ae,zA5]at hn;subst hn;exact bT (by simpa[aV]using h)
 |lm bi _ _,_,n,hn=>by simp[ae]at hn
 |lm (a9 a) _ _,h,n,hn=>by simp only[ae,zA5]at hn;subst hn;exact bT (by simpa[aV]using h)
 |.map bi,_,n,hn=>by simp[ae]at hn
 |.map (a9 r),h,n,hn=>by simp only[ae,zA5]at hn;subst hn;exact bT (by simpa[aV]using h)
 |.chan bi,_,n,hn=>by simp[ae]at hn
 |.chan (a9 r),h,n,hn=>by simp only[ae,zA5]at hn;subst hn;exact bT (by simpa[aV]using h)
 |.func f a b,h,n,hn=>by
  cases f with
  |yield l =>
   simp only[aV,zA6]at h;simp only[ae,zA8,zB1]at hn;rcases hn with rfl|hn|hn
   .exact bT h.1.1
   .exact jy a h.1.2 n hn
   .exact jy b h.2 n hn
  |_ =>
   simp only[aV,zA6]at h;simp only[ae,zB1]at hn;rcases hn with hn|hn
   .exact jy a h.1 n hn
   .exact jy b h.2 n hn
 |.nilFunc,_,n,hn=>by simp[ae]at hn
 |.iface t v,h,n,hn=>fY v (by simpa[aV]using h) n (by simpa[ae]using hn)
 |.nilIface,_,n,hn=>by simp[ae]at hn
 |.agg cs,h,n,hn=>jy cs (by simpa[aV]using h) n (by simpa[ae]using hn)
 |.tuple cs,h,n,hn=>jy cs (by simpa[aV]using h) n (by simpa[ae]using hn)
def jy{N:Nat}:∀ c,fL N c=bv->∀ n∈tB c,n<N
 |⟨l⟩,h,n,b=>xh l (by simpa[fL]using h) n (by simpa[tB]using b)
def xh{N:Nat}:∀ l,aT N l=bv->∀ n∈ir l,n<N
 |[],_,n,hn=>by simp[ir]at hn
 |v::r,h,n,hn=>by
  simp only[aT,zA6]at h;simp only[ir,zB1]at hn;rcases hn with hn|hn
  .exact fY v h.1 n hn
  .exact xh r h.2 n hn
end
def oh(ρ b:Ren)(n:Nat):Prop:=b.blk n=ρ.blk n/\b.sh n=ρ.sh n/\b.ex n=ρ.ex n/\b.op n=ρ.op n
mutual
def pg{ρ g:Ren}:∀ v,(∀ n∈ae v,oh ρ g n)->g.val v=ρ.val v
 |.bool _,_=>by rw[Ren.val,Ren.val]
 |.int _ _,_=>by rw[Ren.val,Ren.val]
 |.float _ _,_=>by rw[Ren.val,Ren.val]
 |.complex _ _ _,_=>by rw[Ren.val,Ren.val]
 |.string _,_=>by rw[Ren.val,Ren.val]
 |li bi,_=>by rw[Ren.val,Ren.val]
 |li (a9 a),h=>by obtain⟨d,i,k,j⟩:=h a.block pm;simp only[Ren.val,d,i]
 |lm bi _ _,_=>by rw[Ren.val,Ren.val]
 |lm (a9 a) _ _,h=>by obtain⟨d,i,k,j⟩:=h a.block pm;simp only[Ren.val,Ren.pJ,Ren.rB,Ren.C2,d,i,k,j]
 |.map bi,_=>by rw[Ren.val,Ren.val]
 |.map (a9 r),h=>by obtain⟨d,i,k,j⟩:=h r pm;simp only[Ren.val,d]
 |.chan bi,_=>by rw[Ren.val,Ren.val]
 |.chan (a9 r),h=>by obtain⟨d,i,k,j⟩:=h r pm;simp only[Ren.val,j]
 |.func f a b,h=>by
  cases f with
  |yield l =>simp only[ae,zA8,zB1]at h;simp only[Ren.val,Ren.fn,(h l (.inl rfl)).1,nE a (fun n c=>h n (.inr (.inl c))),nE b (fun n c=>h n (.inr (.inr c)))]
  |_ =>simp only[ae,zB1]at h;simp only[Ren.val,Ren.fn,nE a (fun n c=>h n (.inl c)),nE b (fun n c=>h n (.inr c))]
 |.nilFunc,_=>by rw[Ren.val,Ren.val]
 |.iface t v,h=>by rw[Ren.val,Ren.val,pg v (fun n c=>h n (by simpa[ae]using c))]
 |.nilIface,_=>by rw[Ren.val,Ren.val]
 |.agg cs,h=>by rw[Ren.val,Ren.val,nE cs (fun n c=>h n (by simpa[ae]using c))]
 |.tuple cs,h=>by rw[Ren.val,Ren.val,nE cs (fun n c=>h n (by simpa[ae]using c))]
def nE{ρ b:Ren}:∀ c,(∀ n∈tB c,oh ρ b n)->b.eV c=ρ.eV c
 |⟨l⟩,h=>by rw[Ren.eV,Ren.eV,Gs l (fun n d=>h n (by simpa[tB]using d))]
def Gs{ρ b:Ren}:∀ l,(∀ n∈ir l,oh ρ b n)->b.iU l=ρ.iU l
 |[],_=>rfl
 |v::r,h=>by simp only[ir,zB1]at h;rw[Ren.iU,Ren.iU,pg v (fun n c=>h n (.inl c)),Gs r (fun n c=>h n (.inr c))]
end
def GV{l:List go}{v:go}(h:v∈l){n:Nat}(b:n∈ae v):n∈ir l:=by
 induction l with
 |nil=>cases h
 |cons x r c =>
  simp only[ir,zB1];rcases zA8.1 h with rfl|h
  .exact .inl b
  .exact .inr (c h)
def wN{l:List go}{n:Nat}(hn:n∈ir l):∃ v∈l,n∈ae v:=by
 induction l with
 |nil=>simp[ir]at hn
 |cons x r b =>
  simp only[ir,zB1]at hn;rcases hn with hn|hn
  .exact⟨x,zF2 ..,hn⟩
  .obtain⟨v,c,h⟩:=b hn; exact⟨v,zB9 _ c,h⟩
def G6{v:RV}{i:Nat}(h:i<v.n):v.get i∈v.ky 0 v.n:=by rw[RV.iI];exact zC1.2 ⟨i,zF7.2 h,by simp⟩
def xr{v:RV}{x:go}(h:x∈v.ky 0 v.n):∃ i,i<v.n/\x=v.get i:=by rw[RV.iI]at h;obtain⟨i,hi,rfl⟩:=zC1.1 h;exact⟨i,zF7.1 hi,by simp⟩
def Tv{k:go}(h:qg k=bv):ae k=[]:=by cases k<;>simp_all [qg,ae]
def sX{N:Nat}{o:dO}(h:l6 N o):∀ n∈rq o,n<N:=by
 obtain⟨g,k,v⟩:=o;intro n hn
 cases g with
 |cells c e f =>simp only[l6]at h;simp only[rq]at hn;obtain⟨x,hx,b⟩:=wN hn;obtain⟨i,hi,rfl⟩:=xr hx;exact fY _ (h i hi) n b
 |map l d =>simp only[l6]at h;simp only[rq,zG3]at hn;obtain⟨e,j,hn⟩:=hn;have:=h e (by simpa using j);rw[Tv this.1,zB6]at hn;exact fY _ this.2 n hn
 |loop r =>
  simp only[l6]at h;simp only[rq,zA8]at hn;rcases hn with rfl|hn
  .exact h.1
  .obtain⟨x,hx,b⟩:=wN hn;obtain⟨i,hi,rfl⟩:=xr hx;exact fY _ (h.2 i hi) n b
 |_=>simp[rq]at hn
def Fits.agree{P:ip}{ρ b:Ren}{n:Nat}{o:dO}{o':Obj}(h:Fits P ρ n o o')(d:oh ρ b n)(hi:∀ k∈rq o,oh ρ b k):Fits P b n o o':=by
 obtain⟨m,F,v⟩:=o
 cases m with
 |cells G t I =>
  simp only[Fits]at h ⊢;obtain⟨c,q,u,y,z,B⟩:=h;refine⟨c,q,u,fun i f=>?_,?_,?_⟩
  .rw[d.2.1,y i f,pg _ (fun k g=>hi k (by simp only[rq]; exact GV (G6 f) g))]
  .rw[d.2.1,d.2.2.1]; exact z
  .rw[d.2.1,d.2.2.1]; exact B
 |map J j =>simp only[Fits]at h ⊢;rw[h];congr 1;apply Array.map_congr_left;intro x hx;simp only[Ren.entry];rw[pg _ (fun k g=>hi k (by simp only[rq,zG3]; exact⟨x,by simpa using hx,zG6 _ g⟩))]
 |loop r =>
  simp only[Fits]at h ⊢;obtain⟨fn,h⟩:=h;refine⟨fn,?_⟩;have C:b.tmps v=ρ.tmps v:=by unfold Ren.tmps;congr 1;funext i;exact pg _ (fun k g=>hi k (by simp only[rq,zA8]; exact .inr (GV (G6 i.2) g)))
  rw[h,C,(hi r.defers (by simp[rq])).1]
 |stringIter s p=>exact⟨h.1,by rw[d.2.1]; exact h.2⟩
 |deferred E =>
  cases E with
  |none=>exact h
  |some l=>cases l<;>exact h
 |_=>exact h
def zD{n:Nat}{l:List Nat}:F8 n l=bv ↔ n∈l:=by
 induction l with
 |nil=>simp[F8]
 |cons m r b =>
  rw[F8,zH5,b,zA8];constructor
  .rintro (h|h)
   .exact .inl (Nat.eq_of_beq_eq_true h).symm
   .exact .inr h
  .rintro (h|h)
   .exact .inl (by rw[h]; exact Nat.beq_refl m)
   .exact .inr h
def KU(H:aa):∀(F:List Nat)(g:aa)(n:Nat),(aa.lay g H F).get n=if n∈F then H.get n else g.get n
 |[],g,n=>by simp[aa.lay]
 |m::r,g,n=>by
  rw[aa.lay,KU H r,aa.qW];by_cases b:n∈r
  .simp[b]
  .by_cases c:n=m
   .subst c; simp
   .simp[b,c]
def qf(N n:Nat):(aa.none N).get n=none:=by simp[aa.none,aa.get]
def aU(H:aa)(F:List Nat)(n:Nat):(H.restrict F).get n=if n∈F then H.get n else none:=by rw[aa.restrict,KU,qf]
def HU(H:aa):∀(F:List Nat)(g:aa),(aa.lay g H F).next=g.next/\(aa.lay g H F).base=g.base/\(aa.lay g H F).dirty=g.dirty
 |[],g=>⟨rfl,rfl,rfl⟩
 |m::r,g=>HU H r (g.put m (H.get m))
def aK(H:aa)(F:List Nat):(H.restrict F).next=H.next/\(H.restrict F).base=H.next/\(H.restrict F).dirty=[]:=HU H F _
def A5(g:aa):∀(W:List Nat)(H:aa)(n:Nat),(aa.eR H g W).get n=if n∈W then g.get n else H.get n
 |[],H,n=>by simp[aa.eR]
 |m::r,H,n=>by
  rw[aa.eR,A5 g r,aa.fC];by_cases b:n∈r
  .simp[b]
  .by_cases c:n=m
   .subst c; simp
   .simp[b,c]
def xd(g:aa):∀(W:List Nat)(H:aa),(aa.eR H g W).next=H.next/\(aa.eR H g W).base=H.base/\(∀ n,n∈H.dirty->n∈(aa.eR H g W).dirty)/\(∀ n∈W,n<H.base->n∈(aa.eR H g W).dirty)
 |[],H=>⟨rfl,rfl,fun _ h=>h,fun _ h=>by cases h⟩
 |m::r,H=>by
  obtain⟨d,f,b,i⟩:=xd g r (H.cH m (g.get m));refine⟨d,f,fun n hn=>b n ?_,fun n hn c=>?_⟩
  .simp only[aa.eT]; split
   .exact zB9 _ hn
   .exact hn
  .rcases zA8.1 hn with rfl|hn
   .exact b n (by simp[aa.eT,bd c])
   .exact i n hn c
def zg(g:aa):∀(k b:Nat)(H:aa)(n:Nat),(aa.cV H g b k).get n=if b<=n/\n<b+k then g.get n else H.get n
 |0,b,H,n=>by rw[aa.cV,if_neg lw]
 |k+1,b,H,n=>by
  rw[aa.cV,zg g k (b+1),aa.qW];by_cases c:b+1<=n/\n<b+1+k
  .rw[if_pos c,if_pos lw]
  .rw[if_neg c];by_cases d:n=b
   .subst d; rw[if_pos rfl,if_pos lw]
   .rw[if_neg d,if_neg lw]
def ng(g:aa):∀(k b:Nat)(H:aa),(aa.cV H g b k).base=H.base/\(aa.cV H g b k).dirty=H.dirty
 |0,b,H=>⟨rfl,rfl⟩
 |k+1,b,H=>ng g k (b+1) (H.put b (g.get b))
def KV(H g:aa)(n:Nat):Prop:=n∈g.dirty\/(H.next<=n/\n<g.next)
instance (H g:aa) (n:Nat):Decidable (KV H g n):=by unfold KV; exact inferInstance
def vJ(H g:aa)(f:H.next<=g.next)(n:Nat):(H.merge g).get n=if KV H g n then g.get n else H.get n:=by
 have h:(H.merge g).get n=(aa.cV (aa.eR H g g.dirty) g H.next (g.next-H.next)).get n:=rfl;rw[h,zg,A5];by_cases d:H.next<=n/\n<g.next
 .have b:KV H g n:=Or.inr d;rw[if_pos lw,if_pos b]
 .rw[if_neg lw];by_cases c:n∈g.dirty
  .have b:KV H g n:=Or.inl c;rw[if_pos c,if_pos b]
  .have b:¬KV H g n:=fun h=>h.elim c d;rw[if_neg c,if_neg b]
def kP(H g:aa):(H.merge g).next=g.next/\(H.merge g).base=H.base/\(∀ n,n∈H.dirty->n∈(H.merge g).dirty)/\(∀ n∈g.dirty,n<H.base->n∈(H.merge g).dirty):=by
 obtain⟨k,d,f,h⟩:=xd g g.dirty H;obtain⟨i,c⟩:=ng g (g.next-H.next) H.next (aa.eR H g g.dirty);refine⟨rfl,i.trans d,fun n b=>?_,fun n b j=>?_⟩
 .show n∈(aa.cV (aa.eR H g g.dirty) g H.next (g.next-H.next)).dirty;rw[c]; exact f n b
 .show n∈(aa.cV (aa.eR H g g.dirty) g H.next (g.next-H.next)).dirty;rw[c]; exact h n b j
def uK(g:aa):∀(l:List Nat)(H:aa)(n:Nat),n∈(aa.eR H g l).dirty->n∈H.dirty\/n∈l
 |[],H,n,h=>.inl h
 |m::l,H,n,h=>by
  rcases uK g l _ n h with h|h
  .simp only[aa.eT]at h;split at h
   .rcases zA8.1 h with h|h
    .exact .inr py
    .exact .inl h
   .exact .inl h
  .exact .inr py
def GI(H g:aa){n:Nat}(h:n∈(H.merge g).dirty):n∈H.dirty\/n∈g.dirty:=by have h:n∈(aa.cV (aa.eR H g g.dirty) g H.next (g.next-H.next)).dirty:=h;rw[(ng g (g.next-H.next) H.next (aa.eR H g g.dirty)).2]at h;exact uK g _ _ _ h
def l9(H g:aa)(b:H.next<=g.next){n:Nat}(h:KV H g n):(H.merge g).get n=g.get n:=by rw[vJ H g b,if_pos h]
def gu(H g:aa)(b:H.next<=g.next){n:Nat}(h:¬KV H g n):(H.merge g).get n=H.get n:=by rw[vJ H g b,if_neg h]
section
variable{P:ip}{ρ:Ren}{H:aa}{w:i6}
def tK(r:Rel P ρ H w)(F:List Nat):Rel P ρ (H.restrict F) w:=by
 obtain⟨g,l,q⟩:=aK H F
 have i:∀ n o,(H.restrict F).get n=a9 o->H.get n=a9 o:=fun n o h=>by
  rw[aU]at h;split at h
  .exact h
  .cases h
 have c:∀ n,(H.restrict F).get n≠bi->H.get n≠none:=fun n h=>by
  cases e:(H.restrict F).get n with
  |none=>exact absurd e h
  |some o=>exact bJ (i n o e)
 have d:∀ n,(H.restrict F).get n≠bi->(H.restrict F).get n=H.get n:=fun n h=>by
  rw[aU]at h ⊢;split at h
  .rename_i f; rw[if_pos f]
  .exact absurd rfl h
 refine⟨by rw[g,l]; exact zA4 _,by rw[g]; exact r.glob,fun m n k f p=>(r.inj m n (c m k) (c n f) p).imp id fun⟨a,b⟩=>⟨by rw[d m k]; exact a,by rw[d n f]; exact b⟩,fun n o j=>?_,fun n o j=>r.obj n o (i n o j)⟩;rw[g]; exact r.dom n o (i n o j)
def Ol(r:Rel P ρ H w){F:List Nat}{u:Ren}{g:aa}{w1:i6}(O:∀ n∈F,H.get n≠bi)(s:St P ρ (H.restrict F) w u g w1)(hd:∀ n∈g.dirty,n∈F) :
  St P ρ H w u (H.merge g) w1:=by
 obtain⟨M,Z,k3⟩:=aK H F;have c:H.next<=g.next:=by have:=s.le.next; rw[M]at this; exact this
 obtain⟨m1,m2,m3,m4⟩:=kP H g;have v:∀ n,n∈F->(H.restrict F).get n=H.get n:=fun n k=>by rw[aU,if_pos k]
 have j:∀ n,n∉F->(H.restrict F).get n=none:=fun n k=>by rw[aU,if_neg k]
 -- of a block that was not written: it lies in the part unturned, or outside
 have Q:∀ n,n∈F->¬KV H g n->g.get n=H.get n:=fun n k l=>by rw[<-v n k];exact s.le.gH n (by rw[Z]; exact r.lt (O n k)) (fun h=>l (.inl h))
 have J:∀ n∈F,Fz (H.get n)->n∉g.dirty/\g.get n=H.get n:=fun n k h=>by obtain⟨a,b⟩:=s.ro n (by rw[v n k]; exact h);rw[k3]at a;exact⟨fun h=>(by cases a h),by rw[b,v n k]⟩
 have d:Ext H.next ρ u:=by have:=s.ext; rw[M]at this; exact this
 -- where a block of the merged heap comes from
 have f:∀ n o,(H.merge g).get n=a9 o->(g.get n=a9 o/\(n∈F\/H.next<=n))\/(n∉F/\n<H.next/\H.get n=a9 o):=by
  intro n o t;by_cases l:KV H g n
  .rw[l9 H g c l]at t;refine .inl ⟨t,?_⟩;rcases l with h|h
   .exact .inl (hd n h)
   .exact .inr h.1
  .rw[gu H g c l]at t;by_cases R:n∈F
   .exact .inl ⟨by rw[Q n R l]; exact t,.inl R⟩
   .exact .inr ⟨R,(r.dom n o t).1,t⟩
 have hout:∀ n,n∉F->H.get n≠bi->w1.heap[ρ.blk n]?=w.heap[ρ.blk n]?:=fun n R k=>by
  refine s.gO _ (r.wq k) fun m hm q S=>?_;rw[M]at hm
  have i:m∈F:=by
   rcases Classical.em (m∈F) with h|h
   .exact h
   .exact absurd (j m h) S
  have T:m∈g.dirty:=q.elim (fun h=>by rw[Z]at h; omega) id;exact fun e=>(r.inj m n (O m i) k e).elim (fun e=>R (e▸i)) fun h=>(J m i h.1).1 T
 refine⟨d,⟨by rw[m1]; exact c,m2,m3,fun n hb k=>?_,fun n k h0=>?_⟩,⟨?_,?_,?_,?_,?_⟩,s.os,s.tape,s.output,s.size,?_,?_,fun n hz=>?_⟩
 .refine gu H g c (fun l=>?_);rcases l with h|h
  .exact k (m4 n h hb)
  .have:=r.base; omega
 .by_cases l:KV H g n
  .rw[l9 H g c l];rcases l with h|h
   .exact absurd h0 (O n (hd n h))
   .omega
  .rw[gu H g c l]; exact h0
 .rw[m1,m2]; exact zC4 r.base c
 .rw[m1]; exact⟨zC4 r.glob.1 c,s.rel.glob.2⟩
 .-- one to one
  intro a b ha hb z;obtain⟨oa,B⟩:∃ o,(H.merge g).get a=a9 o:=Option.ne_none_iff_exists'.1 ha;obtain⟨ob,C⟩:∃ o,(H.merge g).get b=a9 o:=Option.ne_none_iff_exists'.1 hb
  have E:∀ x y ox oy,g.get x=a9 ox->(x∈F\/H.next<=x)->y∉F->y<H.next->H.get y=a9 oy->u.blk x=u.blk y->Fz (g.get x)/\Fz (H.get y):=by
   intro x y ox oy hx G hy hyn U z;rw[d.blk y hyn]at z;rcases zC0 x H.next with hlt|hge
   .have G:x∈F:=G.elim id (fun h=>by omega);rw[d.blk x hlt]at z
    rcases r.inj x y (O x G) (bJ U) z with e|⟨e1,e2⟩
    .exact absurd (e▸G) hy
    .exact⟨by rw[(J x G e1).2]; exact e1,e2⟩
   .rcases s.fresh x (by rw[M]; exact hge) (bJ hx) with h|⟨m,K,V,W,X⟩
    .have:=r.wq (bJ U); omega
    .rw[X]at z
     have i:m∈F:=by
      rcases Classical.em (m∈F) with h|h
      .exact h
      .exact absurd (j m h) V
     have T:m∈g.dirty:=W.elim (fun h=>by rw[Z]at h; rw[M]at K; omega) id;exact (r.inj m y (O m i) (bJ U) z).elim (fun e=>absurd (e▸i) hy) fun h=>absurd T (J m i h.1).1
  rcases f a oa B with⟨p,L⟩|⟨p,L,I⟩<;>rcases f b ob C with⟨Y,j2⟩|⟨Y,j2,j3⟩
  .rw[B,C,<-p,<-Y]; exact s.rel.inj a b (bJ p) (bJ Y) z
  .rw[B,C,<-p,<-j3]; exact .inr (E a b oa ob p L Y j2 j3 z)
  .rw[B,C,<-I,<-Y]; exact .inr (E b a ob oa Y j2 p L I z.symm).symm
  .rw[d.blk a L,d.blk b j2]at z;rw[B,C,<-I,<-j3]; exact r.inj a b (bJ I) (bJ j3) z
 .intro n o t;rw[m1]
  rcases f n o t with⟨p,_⟩|⟨_,L,I⟩
  .exact s.rel.dom n o p
  .exact⟨zE0 L c,(r.dom n o I).2.mono c⟩
 .intro n o t
  rcases f n o t with⟨p,_⟩|⟨p,L,I⟩
  .exact s.rel.obj n o p
  .obtain⟨o',l,R⟩:=r.obj n o I;have q:=r.dom n o I;refine⟨o',?_,R.ext q.1 q.2 d⟩;rw[d.blk n L,hout n p (bJ I)]; exact l
 .intro b hb hc;refine s.gO b hb fun m hm q S=>?_;rw[M]at hm
  have i:m∈F:=by
   rcases Classical.em (m∈F) with h|h
   .exact h
   .exact absurd (j m h) S
  rcases q with h|h
  .rw[Z]at h; omega
  .refine hc m hm ?_ (O m i);rcases zC0 m H.base with hb'|hb'
   .exact .inr (m4 m h hb')
   .exact .inl hb'
 .intro n k hgn;obtain⟨o,t⟩:∃ o,(H.merge g).get n=a9 o:=Option.ne_none_iff_exists'.1 hgn
  rcases f n o t with⟨p,_⟩|⟨_,L,_⟩
  .rcases s.fresh n (by rw[M]; exact k) (bJ p) with h|⟨m,K,V,W,X⟩
   .exact .inl h
   .rw[M]at K
    have i:m∈F:=by
     rcases Classical.em (m∈F) with h|h
     .exact h
     .exact absurd (j m h) V
    refine .inr ⟨m,K,O m i,?_,X⟩;rcases W with h|h
    .rw[Z]at h; omega
    .rcases zC0 m H.base with hb'|hb'
     .exact .inr (m4 m h hb')
     .exact .inl hb'
  .omega
 .have hnd:n∉g.dirty:=fun h=>(J n (hd n h) hz).1 h;have l:¬KV H g n:=fun h=>h.elim hnd fun h=>absurd (r.lt hz.ne) lw;exact⟨fun h=>(GI H g h).resolve_right hnd,gu H g c l⟩
end
structure wH where
 on:Bool
 v:go
 F:List Nat
 g:aa
 bad:Bool
def lD(P:ip)(ops:Array Oper)(D:Nat->wH)(A:Nat->ah)(HH:Nat->aa)(i:Nat):Prop :=
 ∃ o,ops[i]?=a9 o/\A (i+1)=(A i).put o.dst (D i).v/\((D i).bad=ci->cN ops (A i) o=a9 (D i).on) /\
  ((D i).on=bv->HX P (A i) ((HH i).restrict (D i).F) o (.ok (D i).v) (D i).g/\(∀ n∈(D i).F,(HH i).get n≠bi)/\(∀ n∈(D i).g.dirty,n∈(D i).F)/\HH (i+1)=(HH i).merge (D i).g) /\
  ((D i).on=ci->(D i).v=undef/\HH (i+1)=HH i)
def rz(D:Nat->wH)(HH:Nat->aa)(i:Nat):Fp:=⟨i,(D i).F,(D i).g.dirty,(HH i).next,(D i).g.next⟩
def cZ(anc:List Nat)(D:Nat->wH)(HH:Nat->aa)(j:Nat)(r:Fp):Prop :=
 (D j).on=bv->vd (anc.getD j 0) (D j).F (D j).v (D j).g (HH j).next r=bv
def oU{P:ip}{rec:Rec}(p:Sound P rec){ops:Array Oper}{anc:List Nat}:∀(rest:List Oper)(k:Nat)(b:List Fp)(a:ah)(H:aa)(a1:ah)(H1:aa),
  (∃ tl,ops.toList.drop k=rest++tl)->lL P rec ops anc rest k b a H=a9 (a1,H1) ->
  ∃ (D:Nat->wH) (A:Nat->ah) (HH:Nat->aa),A k=a/\HH k=H/\A (k+rest.length)=a1/\HH (k+rest.length)=H1 /\
   (∀ i,k<=i->i<k+rest.length->lD P ops D A HH i) /\
   (∀ i j,k<=i->i<j->j<k+rest.length->(D i).on=bv->cZ anc D HH j (rz D HH i)) /\
   (∀ r∈b,∀ j,k<=j->j<k+rest.length->cZ anc D HH j r)/\(∀ i,(D i).bad=ci)
 |[],k,b,a,H,a1,H1,_,h=>by
  simp only[lL,i8,i9]at h;obtain⟨rfl,rfl⟩:=h;refine⟨fun _=>⟨ci,undef,[],H,ci⟩,fun _=>a,fun _=>H,rfl,rfl,rfl,rfl,?_,?_,?_,fun _=>rfl⟩
  .intro i u l; simp at l; omega
  .intro i j u l x; simp at x; omega
  .intro r _ j u l; simp at l; omega
 |o::rest,k,b,a,H,a1,H1,E,h=>by
  obtain⟨tl,E⟩:=E;have U:ops[k]?=a9 o:=by have:=congrArg (·[0]?) E;simpa using this
  have I:∃ tl,ops.toList.drop (k+1)=rest++tl:=⟨tl,by
   have:=congrArg List.tail E
   simpa using this⟩
  -- the operation's own record laid before those of the rest
  have m:∀(d:wH)(c:List Fp)(H2:aa),(∀ r∈b,r∈c)->lL P rec ops anc rest (k+1) c (a.put o.dst d.v) H2=a9 (a1,H1) ->
    cN ops a o=a9 d.on->d.bad=ci ->
    (d.on=bv->HX P a (H.restrict d.F) o (.ok d.v) d.g/\(∀ n∈d.F,H.get n≠bi)/\(∀ n∈d.g.dirty,n∈d.F)/\H2=H.merge d.g/\(⟨k,d.F,d.g.dirty,H.next,d.g.next⟩:Fp)∈c /\
     ∀ r∈b,vd (anc.getD k 0) d.F d.v d.g H.next r=bv) ->
    (d.on=ci->d.v=undef/\H2=H) ->
    ∃ (D:Nat->wH) (A:Nat->ah) (HH:Nat->aa),A k=a/\HH k=H/\A (k+(o::rest).length)=a1/\HH (k+(o::rest).length)=H1 /\
     (∀ i,k<=i->i<k+(o::rest).length->lD P ops D A HH i) /\
     (∀ i j,k<=i->i<j->j<k+(o::rest).length->(D i).on=bv->cZ anc D HH j (rz D HH i)) /\
     (∀ r∈b,∀ j,k<=j->j<k+(o::rest).length->cZ anc D HH j r)/\(∀ i,(D i).bad=ci):=by
   intro d c H2 y z q B s C;obtain⟨D,A,HH,V,Q,W,X,Y,Z,R,f4⟩:=oU p rest (k+1) c _ H2 a1 H1 I z;have f:k+(o::rest).length=k+1+rest.length:=by simp only[zA9]; omega
   have cn:∀ {i},k+1<=i->¬i=k:=fun h=>by omega
   refine⟨fun i=>if i=k then d else D i,fun i=>if i=k then a else A i,fun i=>if i=k then H else HH i,by simp,by simp,?_,?_,?_,?_,?_,fun i=>by by_cases e:i=k<;>simp[e,B,f4]⟩
   .rw[f]; show (if k+1+rest.length=k then a else A (k+1+rest.length))=a1;rw[if_neg lw]; exact W
   .rw[f]; show (if k+1+rest.length=k then H else HH (k+1+rest.length))=H1;rw[if_neg lw]; exact X
   .intro i u l;rw[f]at l;by_cases e:i=k
    .subst e;refine⟨o,U,?_,?_,?_,?_⟩
     .simp only[if_pos,if_neg (show ¬i+1=i by omega)]; rw[V]
     .simp only[if_pos]; exact fun _=>q
     .simp only[if_pos,if_neg (show ¬i+1=i by omega)];intro h; obtain⟨J,K,x3,x4,_⟩:=s h;exact⟨J,K,x3,by rw[Q]; exact x4⟩
     .simp only[if_pos,if_neg (show ¬i+1=i by omega)];intro h; obtain⟨J,K⟩:=C h;exact⟨J,by rw[Q]; exact K⟩
    .obtain⟨o',y1,y2,y3,y4,y5⟩:=Y i lw l;refine⟨o',y1,?_,?_,?_,?_⟩
     .simp only[if_neg e,if_neg (show ¬i+1=k by omega)]; exact y2
     .simp only[if_neg e]; exact y3
     .simp only[if_neg e,if_neg (show ¬i+1=k by omega)]; exact y4
     .simp only[if_neg e,if_neg (show ¬i+1=k by omega)]; exact y5
   .intro i j u l x G;rw[f]at x;have S:¬j=k:=by omega
    by_cases e:i=k
    .subst e;simp only[if_pos]at G;obtain⟨_,_,_,_,x5,_⟩:=s G;have:=R _ x5 j lw x;simp only[cZ,rz,if_neg S,if_pos]at this ⊢;exact this
    .simp only[if_neg e]at G;have:=Z i j lw l x G;simp only[cZ,rz,if_neg S,if_neg e]at this ⊢;exact this
   .intro r t j u l;rw[f]at l;by_cases e:j=k
    .subst e;simp only[cZ,if_pos];intro h;exact (s h).2.2.2.2.2 r t
    .have:=R r (y r t) j lw l;simp only[cZ,if_neg e]at this ⊢;exact this
  simp only[lL]at h;split at h
  .rename_i L;split at h
   .rename_i v g M;split at h
    .rename_i T;simp only[zA6,zC3]at T;obtain⟨⟨c1,c2⟩,c3⟩:=T;refine m ⟨bv,v,sK P o.op a H,g,ci⟩ _ _ (fun r t=>zB9 _ t) h L rfl (fun _=>⟨Kw p M,fun n O=>?_,fun n O=>zD.1 (c2 n O),rfl,zF2 ..,c3⟩) (fun h=>by cases h);have:=c1 n O;intro e;rw[e]at this;cases this
    .cases h
   .cases h
  .rename_i L;exact m ⟨ci,undef,[],H,ci⟩ b H (fun r t=>t) h L rfl (fun h=>by cases h) (fun _=>⟨rfl,rfl⟩)
  .cases h
section
variable{P:ip}{ρ:Ren}{H:aa}{w:i6}
def It:dx Fence.wide:=⟨fun _=>trivial,rfl,rfl⟩
def Ic{n:Nat}{a:Act}{o:Oper}{φ:Prop}(h:o.wpIn Fence.wide n P a w (fun _ _=>φ) (fun _ _ _=>φ)):φ:=by
 obtain⟨_,h⟩:=h;generalize (o.semAt Fence.wide.round a.eval).run P w=j at h
 cases j with
 |ok x w' =>
  cases x with
  |value v=>exact h
  |skip=>exact h
  |defer d=>exact h
  |enter f args =>
   obtain⟨_,_,g⟩:=h;obtain⟨e,w1,m,b,_⟩:=g [] (room_wide _)
   cases e with
   |returned v=>exact b
   |panicked c=>exact b
   |outgrown=>obtain⟨_,_,h⟩:=b; exact h
  |row r args =>obtain⟨_,g⟩:=h;obtain⟨v,w1,b,_⟩:=g default [] (room_wide _);exact b
  |round l f tmps i k =>
   obtain⟨_,_,g⟩:=h;obtain⟨e,w1,b,_⟩:=g default [] (room_wide _)
   cases e with
   |returned v=>exact b
   |panicked c=>exact b
   |outgrown=>obtain⟨_,_,h⟩:=b; exact h
  |_=>exact h.elim
 |halt x w' =>
  cases x with
  |panic v=>exact h
  |_=>exact h.elim
def Rw(r:Rel P ρ H w){a:ah}(f:js H.next a){o:Oper}{v:go}{g:aa}(h:HX P a H o (.ok v) g) :
  ∃ b w1,St P ρ H w b g w1/\aV g.next v=true:=by
 refine Ic (P:=P) (w:=w) (n:=0) (o:=o) (a:=ρ.act a) (h ρ w r f _ (fun _ _=>rfl) _ _ _ _ It ?_);intro b w1 c d;exact⟨b,w1,c,d⟩
def yL(r:Rel P ρ H w){ops:Array Oper}{D:Nat->wH}{A:Nat->ah}{HH:Nat->aa}{m:Nat}(q:HH 0=H)(x:js H.next (A 0))
  (y:∀ i,i<m->lD P ops D A HH i):∀ i,i<=m->∃ c k,St P ρ H w c (HH i) k/\js (HH i).next (A i):=by
 intro i
 induction i with
 |zero=>intro _; exact⟨ρ,w,by rw[q]; exact St.refl r,by rw[q]; exact x⟩
 |succ i z =>
  intro hi;obtain⟨c,k,b,d⟩:=z lw;obtain⟨o,G,s,I,B,C⟩:=y i lw
  cases f:(D i).on with
  |true =>obtain⟨l,j,E,t⟩:=B f;obtain⟨n,w1,h,p⟩:=Rw (tK b.rel (D i).F) (by rw[(aK _ _).1]; exact d) l;have u:=Ol b.rel j h E;have v:((HH i).merge (D i).g).next=(D i).g.next:=(kP _ _).1;refine⟨n,w1,by rw[t]; exact b.trans u,?_⟩;rw[t,v,s];refine (d.mono ?_).put _ p;have:=u.le.next;rw[v]at this;exact this
  |false =>obtain⟨l,j⟩:=C f;refine⟨c,k,by rw[j]; exact b,?_⟩;rw[j,s,l];exact d.put _ (eY _)
end
def rH{b:List Nat}{k:Nat}:∀(c:List Edge)(s:Nat),(qi b c s).testBit k=bv->s.testBit k=bv\/∃ e∈c,Region.binds .any e=bv/\(k=e.on\/(b.getD e.on 0).testBit k=bv)
 |[],s,h=>.inl h
 |e::c,s,h=>by
  rcases rH c _ h with h|⟨f,g,d,i⟩
  .split at h
   .rename_i d;rw[Nat.testBit_or,Nat.testBit_or,zH5,zH5]at h;rcases h with (h|h)|h
    .exact .inl h
    .refine .inr ⟨e,zF2 ..,d,.inl ?_⟩;rw[Nat.testBit_shiftLeft,zA6]at h;have m:e.on<=k:=by simpa using h.1
     have n:k-e.on=0:=by
      have:=h.2;rcases Nat.eq_zero_or_pos (k-e.on) with h0|h0
      .exact h0
      .obtain⟨j,l⟩:∃ j,k-e.on=j+1:=⟨k-e.on-1,by omega⟩
       rw[l,Nat.testBit_succ]at this;simp at this
     omega
    .exact .inr ⟨e,zF2 ..,d,.inr h⟩
   .exact .inl h
  .exact .inr ⟨f,zB9 _ g,d,i⟩
def rM:∀(l:List Oper)(b:List Nat),(∀ j,j<b.length->(ku l b).getD j 0=b.getD j 0)/\(ku l b).length=b.length+l.length /\
  ∀ i o,l[i]?=a9 o->∃ c,(ku l b).getD (b.length+i) 0=qi c o.after.toList 0/\∀ j,(c.getD j 0)≠0->c.getD j 0=(ku l b).getD j 0
 |[],b=>⟨fun _ _=>rfl,by simp[ku],fun i o h=>by simp at h⟩
 |o::l,b=>by
  obtain⟨f,m,n⟩:=rM l (b++[qi b o.after.toList 0]);simp only[ku];refine⟨fun j g=>?_,?_,fun i o' d=>?_⟩
  .rw[f j pp,List.getD,List.getD,List.getElem?_append_left g]
  .rw[m]; simp; omega
  .cases i with
   |zero =>
    simp only[zG1,i8]at d;subst d;refine⟨b,?_,fun j g=>?_⟩
    .rw[zD5,f b.length nl,List.getD,zG5 (zA4 _)]; simp
    .have k:j<b.length:=by
      rcases zC0 j b.length with h|h
      .exact h
      .exact absurd (by simp[List.getD,zD3 h]) g
     rw[f j pp,List.getD,List.getD,List.getElem?_append_left k]
   |succ i =>simp only[zH8]at d;obtain⟨c,p,q⟩:=n i o' d;refine⟨c,?_,q⟩;rw[<-p];congr 1;simp; omega
def B5{ops:Array Oper}{j k:Nat}{o:Oper}(f:ops[j]?=a9 o)(h:((iZ ops).getD j 0).testBit k=bv) :
  ∃ e∈o.after,Region.binds .any e=bv/\(k=e.on\/((iZ ops).getD e.on 0).testBit k=bv):=by
 obtain⟨_,_,g⟩:=rM ops.toList [];obtain⟨c,d,i⟩:=g j o (by simpa using f);simp only[zB4,zC2]at d;unfold iZ at h ⊢;rw[d]at h
 rcases rH _ _ h with h|⟨e,l,m,b⟩
 .simp at h
 .refine⟨e,by simpa using l,m,b.imp id (fun b=>?_)⟩;rw[<-i e.on (fun n=>by rw[n]at b; simp at b)]; exact b
def lR{t:Nat}:∀(l:List Nat),(xw l).testBit t=bv ↔ t∈l
 |[]=>by simp[xw]
 |u::l=>by
  rw[xw,Nat.testBit_or,zH5,lR l,zA8];refine or_congr ?_ Iff.rfl;rw[Nat.testBit_shiftLeft,zA6];constructor
  .rintro⟨b,c⟩;have b:u<=t:=by simpa using b
   rcases Nat.eq_zero_or_pos (t-u) with h0|h0
   .omega
   .obtain⟨k,d⟩:∃ k,t-u=k+1:=⟨t-u-1,by omega⟩
    rw[d,Nat.testBit_succ]at c;simp at c
  .rintro rfl;simp
def and_zero{x y:Nat}(h:Nat.beq (x &&& y) 0=bv){t:Nat}(hx:x.testBit t=bv):y.testBit t=false:=by have b:=Nat.eq_of_beq_eq_true h;have:=Nat.testBit_and x y t;rw[b,hx,Nat.zero_testBit]at this;simpa using this.symm
def ED{ops:Array Oper}{x y:Oper}(h:Eg (uS ops x) (uS ops y)=bv):x.apart ops y=true:=by
 simp only[Eg,uS,zA6]at h;obtain⟨g,i⟩:=h
 have a1:∀ d,x.dst=a9 d->d∉y.looksAt ops/\y.dst≠a9 d:=by
  intro d b;have f:(xw x.dst.toList).testBit d=true:=(lR _).2 (by simp[b]);have:=and_zero g f;rw[Nat.testBit_or,Bool.or_eq_false_iff]at this;refine⟨fun c=>?_,fun c=>?_⟩
  .rw[(lR _).2 c]at this; cases this.1
  .rw[(lR (t:=d) y.dst.toList).2 (by simp[c])]at this; cases this.2
 have a2:∀ d,y.dst=a9 d->d∉x.looksAt ops:=by intro d b c;have f:(xw y.dst.toList).testBit d=true:=(lR _).2 (by simp[b]);have:=and_zero i f;rw[(lR _).2 c]at this; cases this
 unfold Oper.apart;rw[zA6];constructor
 .cases b:x.dst with
  |none=>rfl
  |some d =>obtain⟨j,k⟩:=a1 d b;simp only[zA6,Bool.not_eq_true',bne_iff_ne,ne_eq];exact⟨by simpa using j,k⟩
 .cases b:y.dst with
  |none=>rfl
  |some d=>simpa using a2 d b
def wI(ops:Array Oper):∀(l:List Oper)(i:Nat),(Go.Ax.wQ ops l)[i]?=(l[i]?).map (uS ops)
 |[],i=>by simp[Go.Ax.wQ]
 |o::l,0=>by simp[Go.Ax.wQ]
 |o::l,i+1=>by simp only[Go.Ax.wQ,zH8]; exact wI ops l i
def uz{j:Nat}:∀(l:List Edge),yu j l=bv->∀ e∈l,Region.binds .any e=bv->e.on<j
 |[],_,e,he,_=>by cases he
 |x::l,h,e,he,b=>by
  simp only[yu,zA6]at h;rcases zA8.1 he with rfl|he
  .have:=h.1;rw[b]at this;simp only[zD1,Bool.false_or]at this;exact bT this
  .exact uz l h.2 e he b
def kR{ops:Array Oper}{anc:List Nat}:∀(l:List Oper)(k:Nat),ops.toList.drop k=l->ph (Go.Ax.wQ ops ops.toList) anc l k=bv ->
  ∀ j c,k<=j->ops[j]?=a9 c->(∀ i f,i<j->ops[i]?=a9 f->(anc.getD j 0).testBit i=bv\/f.apart ops c=bv)/\∀ e∈c.after,Region.binds .any e=bv->e.on<j
 |[],k,g,_,j,c,v,d=>by
  have:ops.size<=k:=by have:=congrArg List.length g;simp at this;omega
  have y:j<ops.size:=by
   rcases zC0 j ops.size with h|h
   .exact h
   .simp[Array.getElem?_eq_none h]at d
  omega
 |o::l,k,g,h,j,c,v,d=>by
  have t:ops[k]?=a9 o:=by have:=congrArg (·[0]?) g;simpa using this
  have n:ops.toList.drop (k+1)=l:=by have:=congrArg List.tail g;simpa using this
  simp only[ph,zA6]at h;obtain⟨⟨u,z⟩,h3⟩:=h;by_cases e:j=k
  .subst e;rw[t]at d;cases d;have p:(Go.Ax.wQ ops ops.toList).getD j ⟨0,0⟩=uS ops o:=by rw[List.getD,wI]; simp[t]
   rw[p]at u;refine⟨fun i f hi q=>?_,fun e B C=>uz _ z e (by simpa using B) C⟩
   have r:∀(l:List Mask)(b i:Nat)(m:Mask),yr (uS ops o) (anc.getD j 0) l b=bv->l[i]?=a9 m->(anc.getD j 0).testBit (b+i)=bv\/Eg m (uS ops o)=true:=by
    intro l
    induction l with
    |nil=>intro b i m _ h; simp at h
    |cons x l E =>
     intro b i m s hx;simp only[yr,zA6,zH5]at s
     cases i with
     |zero=>simp at hx; subst hx; exact s.1
     |succ i =>have:=E (b+1) i m s.2 (by simpa using hx);rw[show b+(i+1)=b+1+i from by omega]; exact this
   have:=r _ 0 i (uS ops f) u (by rw[List.getElem?_take_of_lt hi,wI]; simp[q]);rw[zC2]at this;exact this.imp id ED
  .exact kR l (k+1) n h3 j c lw d
def ta(D:Nat->wH)(HH:Nat->aa)(i n:Nat):Prop:=(D i).on=bv/\KV (HH i) (D i).g n
instance (D:Nat->wH) (HH:Nat->aa) (i n:Nat):Decidable (ta D HH i n):=by unfold ta; exact inferInstance
def hx(D:Nat->wH)(HH:Nat->aa)(X:Nat->Bool):Nat->Nat->Option dO
 |0,n=>(HH 0).get n
 |k+1,n=>if X k=bv/\ta D HH k n then (D k).g.get n else hx D HH X k n
def iR(ops:Array Oper)(k:Nat):Option Tmp:=(ops[k]?).bind (·.dst)
def ax(ops:Array Oper)(D:Nat->wH)(a:ah)(X:Nat->Bool):Nat->ah
 |0=>a
 |k+1=>if X k=bv then (ax ops D a X k).put (iR ops k) (D k).v else ax ops D a X k
def Og(a:ah)(d:Option Tmp)(v:go):(a.put d v).env.n=a.env.n/\(a.put d v).defers=a.defers:=by
 cases d with
 |none=>exact⟨rfl,rfl⟩
 |some d=>simp only[ah.put_eq]; split<;>exact⟨rfl,rfl⟩
def lJ(a:ah)(d:Option Tmp)(v:go)(t:Nat)(b:t<a.env.n):(a.put d v).env.get t=if d=a9 t then v else a.env.get t:=by
 cases d with
 |none=>simp[ah.put_eq]
 |some d =>
  simp only[ah.put_eq];by_cases h:d<a.env.n
  .rw[if_pos (bd h)];simp only[RV.uh,i8];by_cases e:t=d
   .subst e; simp
   .rw[if_neg e,if_neg (fun h=>e h.symm)]
  .rw[if_neg (by rw[od h]; simp)];rw[if_neg (fun e=>h (by cases e; exact b))]
section
variable{ops:Array Oper}{D:Nat -> wH}{HH:Nat -> aa}{a:ah}
def nF{X Y:Nat->Bool}{n:Nat}:∀ k,(∀ j,j<k->ta D HH j n->X j=Y j)->hx D HH X k n=hx D HH Y k n
 |0,_=>rfl
 |k+1,h=>by
  rw[hx,hx,nF k (fun j c=>h j lw)];by_cases b:ta D HH k n
  .rw[h k (zF3 _) b]
  .simp[b]
def JY{i n:Nat}:∀ k,i<=k->hx D HH (fun j=>f7 (j<i)) k n=hx D HH (fun _=>bv) i n
 |0,h=>by
  have:i=0:=by omega
  subst this; rfl
 |k+1,h=>by
  by_cases e:i=k+1
  .subst e;exact nF (k+1) (fun j b _=>by simp[b])
  .rw[hx,if_neg pp];exact JY k lw
def C4{X f:Nat->Bool}{i n:Nat}(hi:X i=ci)(d:f i=bv)(l:∀ j,j≠i->f j=X j):∀ k,i<k->(∀ j,i<j->j<k->ta D HH j n->ta D HH i n->X j=ci) ->
  hx D HH f k n=if ta D HH i n then (D i).g.get n else hx D HH X k n
 |0,h,_=>by omega
 |k+1,h,m=>by
  by_cases e:k=i
  .subst e;rw[hx,hx,nF (X:=f) (Y:=X) k (fun j p _=>l j lw)];by_cases b:ta D HH k n
   .rw[if_pos ⟨d,b⟩,if_pos b]
   .rw[if_neg (fun h=>b h.2),if_neg b,if_neg (fun h=>b h.2)]
  .rw[hx,hx,C4 hi d l k lw (fun j o q=>m j o lw),l k e];by_cases c:X k=bv/\ta D HH k n
   .rw[if_pos c,if_pos c];by_cases b:ta D HH i n
    .have:=m k lw (zF3 _) c.2 b;rw[c.1]at this; cases this
    .rw[if_neg b]
   .rw[if_neg c,if_neg c]
def rD{X:Nat->Bool}:∀ k,(ax ops D a X k).env.n=a.env.n/\(ax ops D a X k).defers=a.defers
 |0=>⟨rfl,rfl⟩
 |k+1=>by
  rw[ax];split
  .obtain⟨b,c⟩:=Og (ax ops D a X k) (iR ops k) (D k).v;obtain⟨d,f⟩:=rD (X:=X) k;exact⟨b.trans d,c.trans f⟩
  .exact rD k
def mn{X Y:Nat->Bool}{t:Nat}(b:t<a.env.n):∀ k,(∀ j,j<k->iR ops j=a9 t->X j=Y j)->(ax ops D a X k).env.get t=(ax ops D a Y k).env.get t
 |0,_=>rfl
 |k+1,h=>by
  have g:=mn b k (fun j m=>h j lw);have c:=(rD (ops:=ops) (D:=D) (a:=a) (X:=X) k).1;have d:=(rD (ops:=ops) (D:=D) (a:=a) (X:=Y) k).1;rw[ax,ax];by_cases f:iR ops k=a9 t
  .rw[h k (zF3 _) f];split
   .rw[lJ _ _ _ _ (by rw[c]; exact b),lJ _ _ _ _ (by rw[d]; exact b),if_pos f,if_pos f]
   .exact g
  .have i:(if X k=bv then (ax ops D a X k).put (iR ops k) (D k).v else ax ops D a X k).env.get t=(ax ops D a X k).env.get t:=by
    split
    .rw[lJ _ _ _ _ (by rw[c]; exact b),if_neg f]
    .rfl
   have l:(if Y k=bv then (ax ops D a Y k).put (iR ops k) (D k).v else ax ops D a Y k).env.get t=(ax ops D a Y k).env.get t:=by
    split
    .rw[lJ _ _ _ _ (by rw[d]; exact b),if_neg f]
    .rfl
   rw[i,l,g]
def yH{i t:Nat}(b:t<a.env.n):∀ k,i<=k->(ax ops D a (fun j=>f7 (j<i)) k).env.get t=(ax ops D a (fun _=>bv) i).env.get t
 |0,h=>by
  have:i=0:=by omega
  subst this; rfl
 |k+1,h=>by
  by_cases e:i=k+1
  .subst e;exact mn b (k+1) (fun j c _=>by simp[c])
  .rw[ax,if_neg pp];exact yH b k lw
def vV{X c:Nat->Bool}{i t:Nat}(d:t<a.env.n)(hi:X i=ci)(f:c i=bv)(p:∀ j,j≠i->c j=X j):∀ k,i<k->(∀ j,i<j->j<k->iR ops j=a9 t->iR ops i=a9 t->X j=ci) ->
  (ax ops D a c k).env.get t=if iR ops i=a9 t then (D i).v else (ax ops D a X k).env.get t
 |0,h,_=>by omega
 |k+1,h,r=>by
  have q:=(rD (ops:=ops) (D:=D) (a:=a) (X:=X) k).1;have g:=(rD (ops:=ops) (D:=D) (a:=a) (X:=c) k).1;by_cases e:k=i
  .subst e;have b:=mn (ops:=ops) (D:=D) (X:=c) (Y:=X) d k (fun j x _=>p j lw);rw[ax,ax,if_pos f,if_neg (show ¬X k=bv by rw[hi]; simp),lJ _ _ _ _ (by rw[g]; exact d),b]
  .have s:=vV d hi f p k lw (fun j u y=>r j u lw);rw[ax,ax,p k e];by_cases l:X k=bv
   .rw[if_pos l,if_pos l,lJ _ _ _ _ (by rw[g]; exact d),lJ _ _ _ _ (by rw[q]; exact d),s];by_cases m:iR ops k=a9 t
    .rw[if_pos m,if_pos m];by_cases o:iR ops i=a9 t
     .have:=r k lw (zF3 _) m o;rw[l]at this; cases this
     .rw[if_neg o]
    .rw[if_neg m,if_neg m]
   .rw[if_neg l,if_neg l]; exact s
end
def Vy(ρ b:Ren)(p:Prop)[Decidable p](n:Nat):Wu (if p then b.op n else ρ.op n)=true:=by
 split
 .exact b.op1 n
 .exact ρ.op1 n
def Ren.mix(ρ b:Ren)(lo hi:Nat):Ren :=
 ⟨fun n=>if lo<=n/\n<hi then b.blk n else ρ.blk n,fun n=>if lo<=n/\n<hi then b.sh n else ρ.sh n,fun n=>if lo<=n/\n<hi then b.ex n else ρ.ex n,fun n=>if lo<=n/\n<hi then b.op n else ρ.op n,fun n=>(Vy ρ b _ n)⟩
def SZ(ρ b:Ren){lo hi n:Nat}(h:¬(lo<=n/\n<hi)):oh ρ (ρ.mix b lo hi) n:=by simp only[oh,Ren.mix,if_neg h,and_self]
def U4(ρ b:Ren){lo hi n:Nat}(c:Ext lo ρ b)(h:n<hi):oh b (ρ.mix b lo hi) n:=by
 by_cases d:lo<=n
 .simp only[oh,Ren.mix,if_pos (zA0 d h),and_self]
 .have:¬(lo<=n/\n<hi):=fun h=>d h.1;simp only[oh,Ren.mix,if_neg this,c.blk n lw,c.sh n lw,c.ex n lw,c.op n lw,and_self]
def KR(p q:Nat->Bool):∀(l:List Nat),(∀ j∈l,q j=bv->p j=bv)->∀ i∈l,p i=bv->q i=ci->(l.filter q).length<(l.filter p).length
 |[],_,i,hi,_,_=>by cases hi
 |x::l,h,i,hi,k,m=>by
  have f:∀ l:List Nat,(∀ j∈l,q j=bv->p j=bv)->(l.filter q).length<=(l.filter p).length:=by
   intro l
   induction l with
   |nil=>intro _; simp
   |cons y l g =>
    intro h;have:=g (fun j d=>h j (zB9 _ d));by_cases c:q y=bv
    .have b:=h y (zF2 ..) c;simp[c,b,this]
    .by_cases b:p y=bv
     .simp[c,b]; omega
     .simp[c,b]; omega
  rcases zA8.1 hi with rfl|hi
  .have:=f l (fun j d=>h j (zB9 _ d));simp only[List.filter_cons,k,m,if_true,zD2,if_false,zA9];omega
  .have g:=KR p q l (fun j d=>h j (zB9 _ d)) i hi k m;by_cases c:q x=bv
   .have b:=h x (zF2 ..) c;simp[c,b,g]
   .by_cases b:p x=bv
    .simp[c,b]; omega
    .simp[c,b]; omega
def CZ{a b:List Nat}(h:Tu a b=bv){n:Nat}(c:n∈a):n∉b:=fun d=>by have:=zC3.1 h n c;rw[zD.2 d]at this;cases this
def wT{lo hi:Nat}{l:List Nat}(h:Ef lo hi l=bv){n:Nat}(b:n∈l):n<lo\/hi<=n:=by have:=zC3.1 h n b;simp only[zH5]at this;exact this.imp bT jl
def qS{anc:Nat}{F:List Nat}{v:go}{g:aa}{next:Nat}{r:Fp}(h:vd anc F v g next r=bv)(c:anc.testBit r.i=ci) :
  (∀ n∈r.W,n∉F)/\(∀ n∈r.F,n∉g.dirty)/\(r.lo<r.hi->(∀ n∈F,n<r.lo\/r.hi<=n)/\∀ n∈gZ v g next,n<r.lo\/r.hi<=n):=by
 simp only[vd,c,Bool.false_or,zA6]at h;obtain⟨⟨d,f⟩,h3⟩:=h;refine⟨fun n b=>CZ d b,fun n b=>CZ f b,fun j=>?_⟩;simp only[zH5,zA6]at h3;rcases h3 with h3|h3
 .have:=jl h3; omega
 .exact⟨fun n b=>wT h3.1 b,fun n b=>wT h3.2 b⟩
def sd{n:Nat}:∀(k a:Nat),a<=n->n<a+k->n∈dH a k
 |0,a,b,c=>by omega
 |k+1,a,b,c=>by
  rw[dH,zA8];by_cases e:n=a
  .exact .inl e
  .exact .inr (sd k (a+1) lw lw)
structure mo (P:ip) (ops:Array Oper) (D:Nat->wH) (A:Nat->ah) (HH:Nat->aa) (ρ0:Ren) (w0:i6):Prop where
 rel:Rel P ρ0 (HH 0) w0
 sc:js (HH 0).next (A 0)
 fact:∀ i,i<ops.size->lD P ops D A HH i
 pair:∀ i j,i<j->j<ops.size->(D i).on=bv->cZ (iZ ops) D HH j (rz D HH i)
 stat:∀ j oj,ops[j]?=a9 oj->(∀ i oi,i<j->ops[i]?=a9 oi->((iZ ops).getD j 0).testBit i=bv\/oi.apart ops oj=bv)/\∀ e∈oj.after,Region.binds .any e=bv->e.on<j
 ex:∀ i,i<=ops.size->∃ ρi wi,St P ρ0 (HH 0) w0 ρi (HH i) wi/\js (HH i).next (A i)
section
variable{P:ip}{ops:Array Oper}{D:Nat -> wH}{A:Nat -> ah}{HH:Nat -> aa}{ρ0:Ren}{w0:i6}
structure Loc (P:ip) (D:Nat->wH) (HH:Nat->aa) (i:Nat):Prop where
 F:∀ n∈(D i).F,(HH i).get n≠bi
 W:∀ n∈(D i).g.dirty,n∈(D i).F
 merge:HH (i+1)=(HH i).merge (D i).g
 le:(HH i).next<=(D i).g.next
 lt:∀ n,(HH i).get n≠bi->n<(HH i).next
 dom:∀ n o,(D i).g.get n=a9 o->n<(D i).g.next/\l6 (D i).g.next o
 domH:∀ n o,(HH i).get n=a9 o->n<(HH i).next/\l6 (HH i).next o
 gH:∀ n,n∈(D i).F->n∉(D i).g.dirty->(D i).g.get n=(HH i).get n
 gone:∀ n,n<(HH i).next->n∉(D i).F->(D i).g.get n=bi
 v:aV (D i).g.next (D i).v=bv
 glob:P.globals.size<=(HH i).next
def mo.loc(T:mo P ops D A HH ρ0 w0){i:Nat}(hi:i<ops.size)(d:(D i).on=bv):Loc P D HH i:=by
 obtain⟨o,x,y,z,k,_⟩:=T.fact i hi;obtain⟨l,h,m,p⟩:=k d;obtain⟨q,B,b,f⟩:=T.ex i lw;obtain⟨r,w1,s,g⟩:=Rw (tK b.rel (D i).F) (by rw[(aK _ _).1]; exact f) l;obtain⟨j,t,C⟩:=aK (HH i) (D i).F;refine⟨h,m,p,by have:=s.le.next; rw[j]at this; exact this,fun n c=>b.rel.lt c,s.rel.dom,b.rel.dom,fun n c u=>?_,fun n c v=>?_,g,b.rel.glob.1⟩
 .rw[s.le.gH n (by rw[t]; exact b.rel.lt (h n c)) u,aU,if_pos c]
 .exact s.le.gone n (by rw[j]; exact c) (by rw[aU,if_neg v])
def mo.step(T:mo P ops D A HH ρ0 w0){i:Nat}(hi:i<ops.size) :
  (HH i).next<=(HH (i+1)).next/\((D i).on=bv->(HH (i+1)).next=(D i).g.next)/\((D i).on=ci->HH (i+1)=HH i)/\(HH (i+1)).base=(HH i).base/\(∀ n,n∈(HH i).dirty->n∈(HH (i+1)).dirty) /\
   ((D i).on=bv->∀ n∈(D i).g.dirty,n<(HH i).base->n∈(HH (i+1)).dirty):=by
 obtain⟨o,l,m,p,q,d⟩:=T.fact i hi
 cases b:(D i).on with
 |true =>have L:=T.loc hi b;obtain⟨c,m2,f,j⟩:=kP (HH i) (D i).g;rw[L.merge];exact⟨by rw[c]; exact L.le,fun _=>c,(fun h=>by cases h),m2,f,fun _=>j⟩
 |false =>obtain⟨r,k⟩:=d b;rw[k];exact⟨zA4 _,(fun h=>by cases h),fun _=>rfl,rfl,fun _ h=>h,(fun h=>by cases h)⟩
def mo.mono(T:mo P ops D A HH ρ0 w0){i:Nat}:∀ {j:Nat},i<=j->j<=ops.size->(HH i).next<=(HH j).next/\(HH j).base=(HH i).base/\∀ n,n∈(HH i).dirty->n∈(HH j).dirty
 |0,h,_=>by
  have:i=0:=by omega
  subst this; exact⟨zA4 _,rfl,fun _ h=>h⟩
 |j+1,h,m=>by
  by_cases e:i=j+1
  .subst e; exact⟨zA4 _,rfl,fun _ h=>h⟩
  .obtain⟨b,c,d⟩:=mo.mono T (i:=i) (j:=j) lw lw;obtain⟨f,_,_,g,k,_⟩:=T.step (i:=j) lw;exact⟨zC4 b f,g.trans c,fun n l=>k n (d n l)⟩
def mo.Jd(T:mo P ops D A HH ρ0 w0){n:Nat}:∀ k,k<=ops.size->hx D HH (fun _=>bv) k n=(HH k).get n
 |0,_=>rfl
 |k+1,d=>by
  rw[hx,mo.Jd T k lw]
  cases b:(D k).on with
  |true =>
   have L:=T.loc (i:=k) lw b;rw[L.merge,vJ _ _ L.le];by_cases c:KV (HH k) (D k).g n
   .rw[if_pos ⟨rfl,b,c⟩,if_pos c]
   .rw[if_neg (fun h=>c h.2.2),if_neg c]
  |false =>rw[if_neg (fun h=>by have:=h.2.1; rw[b]at this; cases this),(T.step (i:=k) lw).2.2.1 b]
def mo.vh(T:mo P ops D A HH ρ0 w0):∀ k,k<=ops.size->ax ops D (A 0) (fun _=>bv) k=A k
 |0,_=>rfl
 |k+1,d=>by obtain⟨o,b,c,_⟩:=T.fact k lw;rw[ax,if_pos rfl,mo.vh T k lw,c,iR,b];rfl
def mo.K9(T:mo P ops D A HH ρ0 w0){k:Nat}(b:k<=ops.size):(A k).env.n=(A 0).env.n/\(A k).defers=(A 0).defers:=by rw[<-T.vh k b]; exact rD k
def zi(ops:Array Oper)(X:Nat->Bool):Prop:=∀ j b,ops[j]?=a9 b->X j=bv->∀ e∈b.after,Region.binds .any e=bv->X e.on=bv
def mo.anc(T:mo P ops D A HH ρ0 w0){X:Nat->Bool}(l:zi ops X){k:Nat}:∀(j:Nat),j<ops.size->X j=bv->((iZ ops).getD j 0).testBit k=bv->X k=true:=by
 intro j
 induction j using Nat.strongRecOn with
 |_ j m =>
  intro n p h
  obtain⟨f,b⟩:∃ o,ops[j]?=a9 o:=⟨ops[j],by simp[n]⟩
  obtain⟨e,g,i,hk⟩:=B5 b h;have d:=(T.stat j f b).2 e g i;have c:=l j f b p e g i;rcases hk with rfl|hk
  .exact c
  .exact m e.on d lw c hk
def mo.n9(T:mo P ops D A HH ρ0 w0){X:Nat->Bool}(g:zi ops X){i k:Nat}{o:Oper}(d:ops[i]?=a9 o)(f:∀ e∈o.after,Region.binds .any e=bv->X e.on=bv)(hi:i<ops.size)
  (h:((iZ ops).getD i 0).testBit k=bv):X k=true:=by
 obtain⟨e,b,c,hk⟩:=B5 d h;have j:=(T.stat i o d).2 e b c;rcases hk with rfl|hk
 .exact f e b c
 .exact T.anc g e.on lw (f e b c) hk
def se(ops:Array Oper)(HH:Nat->aa)(X:Nat->Bool)(n:Nat):Prop:=n<(HH 0).next\/∃ k,k<ops.size/\X k=bv/\(HH k).next<=n/\n<(HH (k+1)).next
def mo.part(T:mo P ops D A HH ρ0 w0){n:Nat}:∀ k,k<=ops.size->n<(HH k).next->n<(HH 0).next\/∃ j,j<k/\(HH j).next<=n/\n<(HH (j+1)).next
 |0,_,h=>.inl h
 |k+1,d,h=>by
  rcases zC0 n (HH k).next with h1|h1
  .rcases mo.part T k lw h1 with b|⟨j,b,c⟩
   .exact .inl b
   .exact .inr ⟨j,by omega,c⟩
  .exact .inr ⟨k,zF3 _,h1,h⟩
structure eD (ops:Array Oper) (X X':Nat->Bool) (i:Nat) (o:Oper):Prop where
 lt:i<ops.size
 at_:ops[i]?=a9 o
 not:X i=ci
 now:X' i=bv
 rest:∀ j,j≠i->X' j=X j
 edges:∀ e∈o.after,Region.binds .any e=bv->X e.on=bv
 closed:zi ops X
def eD.after(T:mo P ops D A HH ρ0 w0){X b:Nat->Bool}{i:Nat}{o:Oper}(r:eD ops X b i o){j:Nat}(c:j<ops.size)(d:X j=bv):((iZ ops).getD j 0).testBit i=false:=by
 cases h:((iZ ops).getD j 0).testBit i with
 |false=>rfl
 |true =>have:=T.anc r.closed j c d h;rw[r.not]at this; cases this
def eD.sK(T:mo P ops D A HH ρ0 w0){X q:Nat->Bool}{i:Nat}{o:Oper}(r:eD ops X q i o)(b:(D i).on=bv){n:Nat}(d:n∈(D i).F){j:Nat}(f:j<ops.size)(hw:ta D HH j n) :
  X j=f7 (j<i):=by
 have L:=T.loc r.lt b;obtain⟨c,hw⟩:=hw;rcases Nat.lt_trichotomy j i with h|h|h
 .rw[decide_eq_true h]
  cases k:((iZ ops).getD i 0).testBit j with
  |true=>exact T.n9 r.closed r.at_ r.edges r.lt k
  |false =>
   obtain⟨l,m,p⟩:=qS (T.pair j i h r.lt c b) k;rcases hw with hw|hw
   .exact absurd d (l n hw)
   .have:=(p (by show (HH j).next<(D j).g.next; omega)).1 n d;simp only[rz]at this;omega
 .subst h; rw[r.not]; simp
 .rw[decide_eq_false lw]
  cases s:X j with
  |false=>rfl
  |true =>
   obtain⟨l,m,p⟩:=qS (T.pair i j h f b c) (r.after T f s);rcases hw with hw|hw
   .exact absurd hw (m n d)
   .have t:=L.lt n (L.F n d);have u:=(T.mono (i:=i) (j:=j) lw lw).1;omega
def eD.ins(T:mo P ops D A HH ρ0 w0){X k:Nat->Bool}{i:Nat}{o:Oper}(r:eD ops X k i o){n j:Nat}(d:i<j)(f:j<ops.size)(hw:ta D HH j n)(hwi:ta D HH i n):X j=false:=by
 obtain⟨c,hw⟩:=hw;obtain⟨b,hwi⟩:=hwi;have L:=T.loc r.lt b;have h:=T.loc f c;have q:=(T.mono (i:=i+1) (j:=j) lw lw).1;have s:=(T.step r.lt).2.1 b
 cases l:X j with
 |false=>rfl
 |true =>
  obtain⟨m,t,p⟩:=qS (T.pair i j d f b c) (r.after T f l);rcases hwi with hwi|hwi<;>rcases hw with hw|hw
  .exact absurd (h.W n hw) (m n hwi)
  .have:=L.lt n (L.F n (L.W n hwi)); have:=L.le; omega
  .have:=(p (by show (HH i).next<(D i).g.next; omega)).1 n (h.W n hw);simp only[rz]at this;omega
  .omega
def eD.looks(T:mo P ops D A HH ρ0 w0){X k:Nat->Bool}{i:Nat}{o:Oper}(r:eD ops X k i o){t:Nat}(f:t∈o.looksAt ops){j:Nat}(g:j<ops.size)(l:iR ops j=a9 t):X j=f7 (j<i):=by
 obtain⟨d,b⟩:∃ o,ops[j]?=a9 o:=⟨ops[j],by simp[g]⟩
 have c:d.dst=a9 t:=by simpa[iR,b]using l
 rcases Nat.lt_trichotomy j i with h|h|h
 .rw[decide_eq_true h];rcases (T.stat i o r.at_).1 j d h b with ha|ha
  .exact T.n9 r.closed r.at_ r.edges r.lt ha
  .exact absurd f ((Oper.apart_spec ha).1 t c)
 .subst h; rw[r.not]; simp
 .rw[decide_eq_false lw]
  cases m:X j with
  |false=>rfl
  |true =>
   rcases (T.stat j d b).1 i o h r.at_ with ha|ha
   .rw[r.after T g m]at ha; cases ha
   .exact absurd f ((Oper.apart_spec ha).2.2 t c)
def eD.dst(T:mo P ops D A HH ρ0 w0){X l:Nat->Bool}{i:Nat}{o:Oper}(r:eD ops X l i o){t j:Nat}(d:i<j)(h:j<ops.size)(m:iR ops j=a9 t)(f:iR ops i=a9 t):X j=false:=by
 obtain⟨k,b⟩:∃ o,ops[j]?=a9 o:=⟨ops[j],by simp[h]⟩
 have g:k.dst=a9 t:=by simpa[iR,b]using m
 have c:o.dst=a9 t:=by simpa[iR,r.at_]using f
 cases n:X j with
 |false=>rfl
 |true =>
  rcases (T.stat j k b).1 i o d r.at_ with ha|ha
  .rw[r.after T h n]at ha; cases ha
  .exact absurd g ((Oper.apart_spec ha).2.1 t c)
def eD.tmp(T:mo P ops D A HH ρ0 w0){X d:Nat->Bool}{i:Nat}{o:Oper}(r:eD ops X d i o){t:Nat}(f:t∈o.looksAt ops):(ax ops D (A 0) X ops.size).tmp t=(A i).tmp t:=by
 have b:=(rD (ops:=ops) (D:=D) (a:=A 0) (X:=X) ops.size).1;have c:=(T.K9 (k:=i) (by have:=r.lt; omega)).1;unfold ah.tmp;rw[b,c];by_cases h:t<(A 0).env.n
 .rw[bd h];simp only[if_true];rw[mn (Y:=fun j=>f7 (j<i)) h ops.size (fun j g l=>r.looks T f g l),yH h ops.size (by have:=r.lt; omega),T.vh i (by have:=r.lt; omega)]
 .rw[od h]; simp
def eD.want(T:mo P ops D A HH ρ0 w0){X c:Nat->Bool}{i:Nat}{o:Oper}(r:eD ops X c i o)(f:(D i).bad=ci)(ρ:Ren):Region.wanted o (yielded ops (ρ.act (ax ops D (A 0) X ops.size)).tmps)=(D i).on:=by
 obtain⟨o',b,m,g,_⟩:=T.fact i r.lt;rw[r.at_]at b;cases b;rw[<-gS ρ (g f)];unfold Region.wanted
 cases h:o.guard with
 |none=>rfl
 |some k =>
  obtain⟨j,want⟩:=k;simp only[xp]
  cases l:(ops[j]?).bind (·.dst) with
  |none=>rfl
  |some d=>simp only[r.tmp T (t:=d) (by simp[Oper.looksAt,h,l])]
def eD.V4(T:mo P ops D A HH ρ0 w0){X b:Nat->Bool}{i:Nat}{o:Oper}(r:eD ops X b i o)(ρ:Ren):∀ x∈o.op.operands,(ρ.act (ax ops D (A 0) X ops.size)).eval x=(ρ.act (A i)).eval x:=by
 intro x hx
 cases x with
 |tmp t =>show (ρ.act (ax ops D (A 0) X ops.size)).tmps.getD t undef=(ρ.act (A i)).tmps.getD t undef;rw[uL,uL,r.tmp T (t:=t) (zF8 _ (List.mem_filterMap.2 ⟨.tmp t,by simpa using hx,rfl⟩))]
 |_=>rfl
end
section
variable{P:ip}{ops:Array Oper}{D:Nat -> wH}{A:Nat -> ah}{HH:Nat -> aa}{ρ0:Ren}{w0:i6}
def Nz(ops:Array Oper)(HH:Nat->aa)(n:Nat):Prop:=(HH 0).base<=n\/n∈(HH ops.size).dirty
structure Inv (P:ip) (ops:Array Oper) (D:Nat->wH) (A:Nat->ah) (HH:Nat->aa) (ρ0:Ren) (w0:i6) (X:Nat->Bool) (ρ:Ren) (w:i6):Prop where
 glob:∀ g,g<P.globals.size->ρ.blk g=g/\ρ.sh g=0
 inj:∀ a b,hx D HH X ops.size a≠bi->hx D HH X ops.size b≠bi->ρ.blk a=ρ.blk b->a=b\/Fz (hx D HH X ops.size a)/\Fz (hx D HH X ops.size b)
 ro:∀ n,Fz ((HH 0).get n)->hx D HH X ops.size n=(HH 0).get n
 dom:∀ n o,hx D HH X ops.size n=a9 o->se ops HH X n/\∀ k∈rq o,se ops HH X k
 obj:∀ n o,hx D HH X ops.size n=a9 o->∃ o',w.heap[ρ.blk n]?=a9 o'/\Fits P ρ n o o'
 env:∀ t,t<(A 0).env.n->∀ k∈ae ((ax ops D (A 0) X ops.size).env.get t),se ops HH X k
 ext:Ext (HH 0).next ρ0 ρ
 os:w.os=w0.os
 tape:w.tape=w0.tape
 output:w.output=w0.output
 size:w0.heap.size<=w.heap.size
 gO:∀ b,b<w0.heap.size->(∀ n,n<(HH 0).next->Nz ops HH n->(HH 0).get n≠bi->ρ0.blk n≠b)->w.heap[b]?=w0.heap[b]?
 fresh:∀ n,(HH 0).next<=n->hx D HH X ops.size n≠bi->w0.heap.size<=ρ.blk n\/∃ k,k<(HH 0).next/\(HH 0).get k≠bi/\Nz ops HH k/\ρ.blk n=ρ0.blk k
 gone:∀ n,n<(HH 0).next->(HH 0).get n=bi->hx D HH X ops.size n=bi
def se.mono{X b:Nat->Bool}(h:∀ j,X j=bv->b j=bv){n:Nat}(c:se ops HH X n):se ops HH b n :=
 c.imp id (fun⟨k,d,f,g⟩=>⟨k,d,h k f,g⟩)
def my(ρ c:Ren){a b:ah}(d:a.env.n=b.env.n)(f:a.defers.map ρ.tq=b.defers.map c.tq)(g:∀ t,t<b.env.n->ρ.val (a.env.get t)=c.val (b.env.get t)):ρ.act a=c.act b:=by
 unfold Ren.act;rw[f];congr 1;apply Array.ext_getElem?;intro i;rw[jT,jT,d];split
 .rename_i h; rw[g i h]
 .rfl
def eD.up{X b:Nat->Bool}{i:Nat}{o:Oper}(r:eD ops X b i o):∀ j,X j=bv->b j=true:=fun j h=>by
 by_cases e:j=i
 .rw[e]; exact r.now
 .rw[r.rest j e]; exact h
def Nr(T:mo P ops D A HH ρ0 w0){ρ b:Ren}(h:Ext (HH 0).next ρ0 ρ)(f:Ext (HH 0).next ρ0 b):(A 0).defers.map b.tq=(A 0).defers.map ρ.tq:=by apply List.map_congr_left;intro d c;rw[uH h (T.sc.2 d c),uH f (T.sc.2 d c)]
def eD.off(T:mo P ops D A HH ρ0 w0){X g:Nat->Bool}{i:Nat}{o:Oper}(r:eD ops X g i o)(d:(D i).on=ci){ρ:Ren}{w:i6}(I:Inv P ops D A HH ρ0 w0 X ρ w) :
  Inv P ops D A HH ρ0 w0 g ρ w/\(ρ.act (ax ops D (A 0) X ops.size)).put o.dst undef=ρ.act (ax ops D (A 0) g ops.size):=by
 have c:∀ n,hx D HH g ops.size n=hx D HH X ops.size n:=fun n=>nF _ (fun j _ s=>r.rest j (fun e=>by rw[e]at s; have:=s.1; rw[d]at this; cases this));obtain⟨o',u,Q,R,S,B⟩:=T.fact i r.lt;rw[r.at_]at u;cases u;have C:=(B d).1;have p:iR ops i=o.dst:=by simp[iR,r.at_]
 have v:∀ t,t<(A 0).env.n->(ax ops D (A 0) g ops.size).env.get t=if o.dst=a9 t then undef else (ax ops D (A 0) X ops.size).env.get t:=fun t f=>by rw[vV f r.not r.now r.rest ops.size r.lt (fun j l m E F=>r.dst T l m E F),p,C]
 refine⟨⟨I.glob,fun a b G J=>by rw[c,c]; exact I.inj a b (by rw[<-c]; exact G) (by rw[<-c]; exact J),fun n K=>by rw[c]; exact I.ro n K,fun n o q=>?_,fun n o q=>I.obj n o (by rw[<-c]; exact q),fun t f k h=>?_,I.ext,I.os,I.tape,I.output,I.size,I.gO,fun n l m=>I.fresh n l (by rw[<-c]; exact m),fun n l m=>by rw[c]; exact I.gone n l m⟩,?_⟩
 .have:=I.dom n o (by rw[<-c]; exact q);exact⟨this.1.mono r.up,fun k h=>(this.2 k h).mono r.up⟩
 .rw[v t f]at h;split at h
  .simp[undef,ae,tB,ir]at h
  .exact (I.env t f k h).mono r.up
 .have x:=km ρ (ax ops D (A 0) X ops.size) o.dst undef;rw[Ren.val_undef]at x;rw[x];obtain⟨L,M⟩:=Og (ax ops D (A 0) X ops.size) o.dst undef;obtain⟨y,O⟩:=rD (ops:=ops) (D:=D) (a:=A 0) (X:=X) ops.size;obtain⟨z,s2⟩:=rD (ops:=ops) (D:=D) (a:=A 0) (X:=g) ops.size;refine my ρ ρ (by rw[L,y,z]) (by rw[M,O,s2]) (fun t f=>?_);rw[z]at f;rw[lJ _ _ _ _ (by rw[y]; exact f),v t f]
def eD.same(T:mo P ops D A HH ρ0 w0){X c:Nat->Bool}{i:Nat}{o:Oper}(r:eD ops X c i o)(b:(D i).on=bv){n:Nat}(d:n∈(D i).F):hx D HH X ops.size n=(HH i).get n:=by have hi:=r.lt;rw[nF (Y:=fun j=>f7 (j<i)) ops.size (fun j f g=>r.sK T b d f g),JY ops.size lw,T.Jd i lw]
def eD.rel(T:mo P ops D A HH ρ0 w0){X t:Nat->Bool}{i:Nat}{o:Oper}(r:eD ops X t i o)(c:(D i).on=bv){ρ:Ren}{w:i6}(I:Inv P ops D A HH ρ0 w0 X ρ w) :
  Rel P ρ ((HH i).restrict (D i).F) w:=by
 have L:=T.loc r.lt c;obtain⟨l,u,G⟩:=aK (HH i) (D i).F
 have f:∀ n x,((HH i).restrict (D i).F).get n=a9 x->n∈(D i).F/\(HH i).get n=a9 x:=fun n x h=>by
  rw[aU]at h;split at h
  .rename_i v; exact⟨v,h⟩
  .cases h
 have g:∀ n,((HH i).restrict (D i).F).get n≠bi->hx D HH X ops.size n≠none:=fun n h=>by obtain⟨x,d⟩:=Option.ne_none_iff_exists'.1 h;obtain⟨m,p⟩:=f n x d;rw[r.same T c m,p]; simp
 refine⟨by rw[l,u]; exact zA4 _,by rw[l]; exact⟨L.glob,I.glob⟩,fun a b q s y=>by
  obtain⟨z,j⟩:=Option.ne_none_iff_exists'.1 q;obtain⟨B,k⟩:=Option.ne_none_iff_exists'.1 s;obtain⟨a1,a2⟩:=f a z j;obtain⟨C,E⟩:=f b B k;have:=I.inj a b (g a q) (g b s) y;rw[r.same T c a1,r.same T c C,a2,E]at this
  rw[j,k]; exact this,fun n x d=>?_,fun n x d=>?_⟩
 .rw[l]; exact L.domH n x (f n x d).2
 .obtain⟨m,p⟩:=f n x d;exact I.obj n x (by rw[r.same T c m]; exact p)
def eD.out(T:mo P ops D A HH ρ0 w0){X l:Nat->Bool}{i:Nat}{o:Oper}(r:eD ops X l i o)(c:(D i).on=bv){n:Nat}(hn:n∈gZ (D i).v (D i).g (HH i).next):se ops HH l n:=by
 have L:=T.loc r.lt c;have hi:=r.lt;have q:=(T.step r.lt).2.1 c
 have d:n<(D i).g.next:=by
  rw[gZ,zB1]at hn;rcases hn with hn|hn
  .exact fY _ L.v n hn
  .obtain⟨x,_,hx⟩:=zG3.1 hn;unfold fM at hx;split at hx
   .rename_i s f; exact sX (L.dom x s f).2 n hx
   .cases hx
 rcases T.part (i+1) lw (by rw[q]; exact d) with h|⟨j,z,m,k⟩
 .exact .inl h
 .by_cases e:j=i
  .subst e; exact .inr ⟨j,r.lt,r.now,m,k⟩
  .have t:j<i:=by omega
   refine .inr ⟨j,by omega,?_,m,k⟩;rw[r.rest j e]
   cases p:((iZ ops).getD i 0).testBit j with
   |true=>exact T.n9 r.closed r.at_ r.edges r.lt p
   |false =>
    have b:(D j).on=true:=by
     cases b:(D j).on with
     |true=>rfl
     |false =>have:=(T.step (i:=j) lw).2.2.1 b;rw[this]at k; omega
    have u:=(T.step (i:=j) lw).2.1 b;obtain⟨B,C,y⟩:=qS (T.pair j i t r.lt b c) p;have:=(y (by show (HH j).next<(D j).g.next; omega)).2 n hn;simp only[rz]at this;omega
def eD.U1(T:mo P ops D A HH ρ0 w0){X d:Nat->Bool}{i:Nat}{o:Oper}(r:eD ops X d i o)(b:(D i).on=bv){n:Nat}(f:se ops HH X n):¬((HH i).next<=n/\n<(D i).g.next):=by
 have hi:=r.lt;have l:=(T.step r.lt).2.1 b
 rcases f with h|⟨k,m,c,p,q⟩
 .have:=(T.mono (i:=0) (j:=i) lw lw).1; omega
 .rcases Nat.lt_trichotomy k i with h|h|h
  .have:=(T.mono (i:=k+1) (j:=i) lw lw).1; omega
  .subst h; rw[r.not]at c; cases c
  .have:=(T.mono (i:=i+1) (j:=k) lw lw).1; omega
def mo.own(T:mo P ops D A HH ρ0 w0){i:Nat}(hi:i<ops.size)(b:(D i).on=bv){n:Nat}(c:n∈(D i).g.dirty):Nz ops HH n:=by
 have d:=(T.mono (i:=0) (j:=i) lw lw).2.1;rcases zC0 n (HH 0).base with h|h
 .right;have:=(T.step hi).2.2.2.2.2 b n c (by rw[d]; exact h);exact (T.mono (i:=i+1) (j:=ops.size) lw lw).2.2 n this
 .exact .inl h
def eD.on(T:mo P ops D A HH ρ0 w0){X X':Nat->Bool}{i:Nat}{o:Oper}(r:eD ops X X' i o)(z:(D i).on=bv){ρ:Ren}{w:i6}(I:Inv P ops D A HH ρ0 w0 X ρ w)
  {d:Ren} {w1:i6} (s:St P ρ ((HH i).restrict (D i).F) w d (D i).g w1) :
  Inv P ops D A HH ρ0 w0 X' (ρ.mix d (HH i).next (D i).g.next) w1/\(ρ.act (ax ops D (A 0) X ops.size)).put o.dst (d.val (D i).v)=(ρ.mix d (HH i).next (D i).g.next).act (ax ops D (A 0) X' ops.size):=by
 have L:=T.loc r.lt z;have hi:=r.lt;have hs:=(T.step r.lt).2.1 z;have hlo:=(T.mono (i:=0) (j:=i) lw lw).1;obtain⟨k1,k2,k3⟩:=aK (HH i) (D i).F;have J:Ext (HH i).next ρ d:=by have:=s.ext; rw[k1]at this; exact this
 obtain⟨o',f1,f2,f3,f4,f5⟩:=T.fact i r.lt;rw[r.at_]at f1;cases f1;have hdi:iR ops i=o.dst:=by simp[iR,r.at_]
 have hLF:∀ m,((HH i).restrict (D i).F).get m≠bi->m∈(D i).F:=fun m h=>by
  rw[aU]at h;split at h
  .rename_i hm; exact hm
  .exact absurd rfl h
 have B:∀ n∈(D i).F,hx D HH X ops.size n≠none:=fun n f=>by rw[r.same T z f]; exact L.F n f
 -- memory behind the operation
 have hh:∀ n,hx D HH X' ops.size n=if ta D HH i n then (D i).g.get n else hx D HH X ops.size n:=fun n =>
  C4 r.not r.now r.rest ops.size r.lt (fun j l p h3 Z=>r.ins T l p h3 Z)
 have C:∀ n x,hx D HH X' ops.size n=a9 x->((D i).g.get n=a9 x/\(n∈(D i).F\/(HH i).next<=n))\/(n∉(D i).F/\hx D HH X ops.size n=a9 x):=fun n x c=>by
  rw[hh]at c;split at c
  .rename_i V;refine .inl ⟨c,?_⟩;rcases V.2 with h|h
   .exact .inl (L.W n h)
   .exact .inr h.1
  .rename_i V;by_cases hf:n∈(D i).F
   .refine .inl ⟨?_,.inl hf⟩;rw[L.gH n hf (fun h=>V ⟨z,.inl h⟩),<-r.same T z hf]; exact c
   .exact .inr ⟨hf,c⟩
 -- how the renamings agree
 have g1:∀ n,n<(D i).g.next->oh d (ρ.mix d (HH i).next (D i).g.next) n:=fun n f=>U4 ρ d J f;have Y:∀ n,se ops HH X n->oh ρ (ρ.mix d (HH i).next (D i).g.next) n:=fun n f=>SZ ρ d (r.U1 T z f)
 have hblk:∀ n,hx D HH X ops.size n≠bi->ρ.blk n<w.heap.size:=fun n f=>by
  obtain⟨x,c⟩:=Option.ne_none_iff_exists'.1 f;obtain⟨y,hy,_⟩:=I.obj n x c;rcases zC0 (ρ.blk n) w.heap.size with h|h
  .exact h
  .simp[Array.getElem?_eq_none h]at hy
 have hFL:∀ m∈(D i).F,((HH i).restrict (D i).F).get m=(HH i).get m:=fun m h=>by rw[aU,if_pos h]
 have hro:∀ m∈(D i).F,Fz (hx D HH X ops.size m)->m∉(D i).g.dirty/\(D i).g.get m=hx D HH X ops.size m:=fun m h hz=>by rw[r.same T z h]at hz ⊢;obtain⟨a,b⟩:=s.ro m (by rw[hFL m h]; exact hz);rw[k3]at a;exact⟨fun h=>(by cases a h),by rw[b,hFL m h]⟩
 -- the blocks that the operation has written or made anew, by where they came from
 have hnew:∀ n x,(D i).g.get n=a9 x->(HH i).next<=n->w.heap.size<=d.blk n\/∃ m,m∈(D i).F/\m∈(D i).g.dirty/\m<(HH i).next/\d.blk n=ρ.blk m:=fun n x c f=>by
  rcases s.fresh n (by rw[k1]; exact f) (bJ c) with h|⟨m,l,p,h3,Z⟩
  .exact .inl h
  .refine .inr ⟨m,hLF m p,?_,by rw[k1]at l; exact l,Z⟩;rcases h3 with h3|h3
   .rw[k2]at h3; rw[k1]at l; omega
   .exact h3
 have he:∀ t,t<(A 0).env.n->(ax ops D (A 0) X' ops.size).env.get t=if o.dst=a9 t then (D i).v else (ax ops D (A 0) X ops.size).env.get t:=fun t K=>by rw[vV K r.not r.now r.rest ops.size r.lt (fun j l p h3 Z=>r.dst T l p h3 Z),hdi]
 have hvout:∀ k∈ae (D i).v,se ops HH X' k:=fun k E=>r.out T z (by rw[gZ]; exact zF8 _ E);have M:Ext (HH 0).next ρ0 (ρ.mix d (HH i).next (D i).g.next):=by have ha:∀ n,n<(HH 0).next->oh ρ (ρ.mix d (HH i).next (D i).g.next) n:=fun n f=>Y n (.inl f);exact⟨fun n f=>(ha n f).1.trans (I.ext.blk n f),fun n f=>(ha n f).2.1.trans (I.ext.sh n f),fun n f=>(ha n f).2.2.1.trans (I.ext.ex n f),fun n f=>(ha n f).2.2.2.trans (I.ext.op n f)⟩
 have hglob:P.globals.size<=(HH 0).next:=T.rel.glob.1;refine⟨⟨fun g hg=>?_,?_,fun n hz=>?_,?_,?_,?_,M,s.os.trans I.os,s.tape.trans I.tape,s.output.trans I.output,zC4 I.size s.size,?_,?_,?_⟩,?_⟩
 .have ha:=Y g (.inl lw);rw[ha.1,ha.2.1]; exact I.glob g hg
 .-- one to one
  intro a b ha hb u;obtain⟨xa,O⟩:=Option.ne_none_iff_exists'.1 ha;obtain⟨xb,Q⟩:=Option.ne_none_iff_exists'.1 hb
  have R:∀ x y ox oy,(D i).g.get x=a9 ox->(x∈(D i).F\/(HH i).next<=x)->y∉(D i).F->hx D HH X ops.size y=a9 oy->(ρ.mix d (HH i).next (D i).g.next).blk x=(ρ.mix d (HH i).next (D i).g.next).blk y->Fz ((D i).g.get x)/\Fz (hx D HH X ops.size y):=by
   intro x y ox oy hox S hyF hoy u;rw[(g1 x (L.dom x ox hox).1).1,(Y y (I.dom y oy hoy).1).1]at u;rcases zC0 x (HH i).next with hlt|hge
   .have S:x∈(D i).F:=S.elim id (fun h=>by omega);rw[J.blk x hlt]at u
    rcases I.inj x y (B x S) (bJ hoy) u with e|⟨e1,e2⟩
    .exact absurd (e▸S) hyF
    .exact⟨by rw[(hro x S e1).2]; exact e1,e2⟩
   .rcases hnew x ox hox hge with h|⟨m,l,p,h3,Z⟩
    .have:=hblk y (bJ hoy); omega
    .rw[Z]at u;exact (I.inj m y (B m l) (bJ hoy) u).elim (fun e=>absurd (e▸l) hyF) fun h=>absurd p (hro m l h.1).1
  rcases C a xa O with⟨l,p⟩|⟨l,p⟩<;>rcases C b xb Q with⟨j1,j2⟩|⟨j1,j2⟩
  .rw[(g1 a (L.dom a xa l).1).1,(g1 b (L.dom b xb j1).1).1]at u;rw[O,Q,<-l,<-j1];exact s.rel.inj a b (bJ l) (bJ j1) u
  .rw[O,Q,<-l,<-j2];exact .inr (R a b xa xb l p j1 j2 u)
  .rw[O,Q,<-p,<-j1];exact .inr (R b a xb xa j1 j2 l p u.symm).symm
  .rw[(Y a (I.dom a xa p).1).1,(Y b (I.dom b xb j2).1).1]at u;rw[O,Q,<-p,<-j2];exact I.inj a b (bJ p) (bJ j2) u
 .-- what is for reading only
  have h0:=I.ro n hz;rw[hh];split
  .rename_i V;have hz':Fz (hx D HH X ops.size n):=by rw[h0]; exact hz
   rcases V.2 with h|h
   .exact absurd h (hro n (L.W n h) hz').1
   .have:=T.rel.lt hz.ne; omega
  .exact h0
 .-- what is named
  intro n x c;have hx0:=c;rw[hh]at c;split at c
  .rename_i V;have hd:=L.dom n x c;refine⟨?_,fun k E=>r.out T z ?_⟩
   .rcases V.2 with h|h
    .obtain⟨y,hy⟩:=Option.ne_none_iff_exists'.1 (B n (L.W n h));exact (I.dom n y hy).1.mono r.up
    .exact .inr ⟨i,r.lt,r.now,h.1,by rw[hs]; exact h.2⟩
   .rw[gZ];refine zG6 _ (zG3.2 ⟨n,?_,by simp only[fM,c]; exact E⟩);rcases V.2 with h|h
    .exact zF8 _ h
    .exact zG6 _ (sd _ _ h.1 lw)
  .have:=I.dom n x c;exact⟨this.1.mono r.up,fun k E=>(this.2 k E).mono r.up⟩
 .-- the objects
  intro n x c
  rcases C n x c with⟨l,_⟩|⟨l,p⟩
  .obtain⟨y,hy,hf⟩:=s.rel.obj n x l;have hd:=L.dom n x l;refine⟨y,by rw[(g1 n hd.1).1]; exact hy,hf.agree (g1 n hd.1) (fun k E=>g1 k (sX hd.2 k E))⟩
  .obtain⟨y,hy,hf⟩:=I.obj n x p;have hd:=I.dom n x p;refine⟨y,?_,hf.agree (Y n hd.1) (fun k E=>Y k (hd.2 k E))⟩;rw[(Y n hd.1).1,<-hy];refine s.gO _ (hblk n (bJ p)) fun m hm hdm hgm e=>?_;have G:=hLF m hgm;have hmd:m∈(D i).g.dirty:=hdm.elim (fun h=>by rw[k2]at h; rw[k1]at hm; omega) id;exact (I.inj m n (B m G) (bJ p) e).elim (fun e=>l (e▸G)) fun h=>(hro m G h.1).1 hmd
 .-- the temporaries
  intro t K k E;rw[he t K]at E;split at E
  .exact hvout k E
  .exact (I.env t K k E).mono r.up
 .-- what was there before
  intro b hb hc;rw[<-I.gO b hb hc];refine s.gO b (zE0 hb I.size) fun m hm hdm hgm=>?_;have G:=hLF m hgm
  have hmd:m∈(D i).g.dirty:=by
   rcases hdm with h|h
   .rw[k2]at h; rw[k1]at hm; omega
   .exact h
  have U:=T.own r.lt z hmd;rcases zC0 m (HH 0).next with h|h
  .rw[I.ext.blk m h];exact hc m h U (fun e=>B m G (I.gone m h e))
  .rcases I.fresh m h (B m G) with h'|⟨q,l,p,h3,Z⟩
   .omega
   .rw[Z]; exact hc q l h3 p
 .-- what is new
  intro n f cn;obtain⟨x,c⟩:=Option.ne_none_iff_exists'.1 cn
  rcases C n x c with⟨l,p⟩|⟨l,p⟩
  .rw[(g1 n (L.dom n x l).1).1];rcases zC0 n (HH i).next with hlt|hge
   .have hnF:n∈(D i).F:=p.elim id (fun h=>by omega);rw[J.blk n hlt];exact I.fresh n f (B n hnF)
   .rcases hnew n x l hge with h|⟨m,m1,m2,m3,m4⟩
    .exact .inl (zC4 I.size h)
    .rw[m4];have U:=T.own r.lt z m2;rcases zC0 m (HH 0).next with h|h
     .exact .inr ⟨m,h,fun e=>B m m1 (I.gone m h e),U,I.ext.blk m h⟩
     .exact I.fresh m h (B m m1)
  .rw[(Y n (I.dom n x p).1).1];exact I.fresh n f (bJ p)
 .-- what is gone
  intro n f h0;rw[hh];split
  .rename_i V;rcases V.2 with h|h
   .exact absurd (I.gone n f h0) (B n (L.W n h))
   .omega
  .exact I.gone n f h0
 .-- the frame
  have hval:d.val (D i).v=(ρ.mix d (HH i).next (D i).g.next).val (D i).v:=(pg _ (fun k E=>g1 k (fY _ L.v k E))).symm
  have hmid:ρ.act (ax ops D (A 0) X ops.size)=(ρ.mix d (HH i).next (D i).g.next).act (ax ops D (A 0) X ops.size):=by
   obtain⟨q1,q2⟩:=rD (ops:=ops) (D:=D) (a:=A 0) (X:=X) ops.size;refine my _ _ rfl ?_ (fun t K=>?_)
   .rw[q2]; exact Nr T M I.ext
   .rw[q1]at K;exact (pg _ (fun k E=>Y k (I.env t K k E))).symm
  rw[hmid,hval,km];obtain⟨p1,p2⟩:=Og (ax ops D (A 0) X ops.size) o.dst (D i).v;obtain⟨q1,q2⟩:=rD (ops:=ops) (D:=D) (a:=A 0) (X:=X) ops.size;obtain⟨s1,s2⟩:=rD (ops:=ops) (D:=D) (a:=A 0) (X:=X') ops.size;refine my _ _ (by rw[p1,q1,s1]) (by rw[p2,q2,s2]) (fun t K=>?_);rw[s1]at K;rw[lJ _ _ _ _ (by rw[q1]; exact K),he t K]
end
section
variable{P:ip}{ops:Array Oper}{D:Nat -> wH}{A:Nat -> ah}{HH:Nat -> aa}{ρ0:Ren}{w0:i6}
def bP(l:Array Bool)(j:Nat):Bool:=l.getD j ci
def left(m:Nat)(X:Nat->Bool):Nat:=((List.range m).filter fun i=>!X i).length
def sL{listed:Array Bool}{i:Nat}(f:listed.size=ops.size)(h:i∈Region.ready .any ops listed):i<ops.size/\bP listed i=ci/\∃ o,ops[i]?=a9 o/\∀ e∈o.after,Region.binds .any e=bv->bP listed e.on=true:=by
 obtain⟨c,o,d,g⟩:=mem_ready.1 h
 have b:i<ops.size:=by
  rcases zC0 i ops.size with h|h
  .exact h
  .simp[Array.getElem?_eq_none h]at d
 refine⟨b,?_,o,d,fun e j k=>g e j k⟩;have l:i<listed.size:=by omega
 simp only[bP,Array.getD_eq_getD_getElem?,Array.getElem?_eq_getElem l,zH9]at c ⊢;exact c
def QL{listed:Array Bool}{i:Nat}{o:Oper}(c:listed.size=ops.size)(hi:i<ops.size)(b:bP listed i=ci)(d:ops[i]?=a9 o)(f:∀ e∈o.after,Region.binds .any e=bv->bP listed e.on=bv):i∈Region.ready .any ops listed:=by
 refine mem_ready.2 ⟨?_,o,d,fun e h g=>f e h g⟩;have j:i<listed.size:=by omega
 simp only[bP,Array.getD_eq_getD_getElem?,Array.getElem?_eq_getElem j,zH9]at b ⊢;exact b
def J2(T:mo P ops D A HH ρ0 w0){listed:Array Bool}(b:listed.size=ops.size)(h:Region.ready .any ops listed=[]):∀ i,i<ops.size->bP listed i=true:=by
 intro i
 induction i using Nat.strongRecOn with
 |_ i f =>
  intro hi
  cases g:bP listed i with
  |true=>rfl
  |false =>
   obtain⟨o,d⟩:∃ o,ops[i]?=a9 o:=⟨ops[i],by simp[hi]⟩
   have:i∈Region.ready .any ops listed:=QL b hi g d (fun e j k=>by
    have c:=(T.stat i o d).2 e j k
    exact f e.on c lw)
   rw[h]at this; cases this
def Ex(T:mo P ops D A HH ρ0 w0){X:Nat->Bool}(l:∀ i,i<ops.size->X i=bv){ρ:Ren}{w:i6}(I:Inv P ops D A HH ρ0 w0 X ρ w) :
  St P ρ0 (HH 0) w0 ρ (HH ops.size) w/\ρ.act (ax ops D (A 0) X ops.size)=ρ.act (A ops.size):=by
 have d:∀ n,hx D HH X ops.size n=(HH ops.size).get n:=fun n=>by rw[nF (Y:=fun _=>bv) ops.size (fun j f _=>l j f),T.Jd ops.size (zA4 _)]
 obtain⟨q,K,c,r⟩:=T.ex ops.size (zA4 _)
 refine⟨⟨I.ext,c.le,⟨c.rel.base,⟨c.rel.glob.1,I.glob⟩,fun a b s g=>by rw[<-d,<-d]; exact I.inj a b (by rw[d]; exact s) (by rw[d]; exact g),c.rel.dom,fun n o u=>I.obj n o (by rw[d]; exact u)⟩,I.os,I.tape,I.output,I.size,
  fun b g v=>I.gO b g v,fun n x y=>?_,c.ro⟩,?_⟩
 .rcases I.fresh n x (by rw[d]; exact y) with h|⟨k,z,B,C,E⟩
  .exact .inl h
  .exact .inr ⟨k,z,B,C,E⟩
 .obtain⟨F,G⟩:=rD (ops:=ops) (D:=D) (a:=A 0) (X:=X) ops.size;obtain⟨m,J⟩:=T.K9 (k:=ops.size) (zA4 _);refine my _ _ (by rw[F,m]) (by rw[G,J]) (fun t p=>?_);rw[m]at p;rw[mn (Y:=fun _=>bv) p ops.size (fun j f _=>l j f),T.vh ops.size (zA4 _)]
def rh(T:mo P ops D A HH ρ0 w0){X:Nat->Bool}(m:∀ i,X i=ci){w:i6}(f:w.heap=w0.heap)(q:w.os=w0.os)(r:w.tape=w0.tape)(s:w.output=w0.output) :
  Inv P ops D A HH ρ0 w0 X ρ0 w/\ax ops D (A 0) X ops.size=A 0:=by
 have c:∀ k n,hx D HH X k n=(HH 0).get n:=fun k n=>by
  induction k with
  |zero=>rfl
  |succ k g=>rw[hx,if_neg (fun h=>by rw[m]at h; cases h.1),g]
 have p:∀ k,ax ops D (A 0) X k=A 0:=fun k=>by
  induction k with
  |zero=>rfl
  |succ k g=>rw[ax,if_neg (by rw[m]; simp),g]
 refine⟨⟨T.rel.glob.2,fun a b j u=>by rw[c ops.size,c ops.size]; exact T.rel.inj a b (by rw[<-c ops.size]; exact j) (by rw[<-c ops.size]; exact u),fun n _=>c ops.size n,fun n o l=>?_,fun n o l=>by rw[f]; exact T.rel.obj n o (by rw[<-c ops.size]; exact l),fun t v k d=>?_,Ext.refl _ _,q,r,s,
  by rw[f]; exact zA4 _,fun b _ _=>by rw[f],fun n y cn=>?_,fun n _ x=>by rw[c]; exact x⟩,p ops.size⟩
 .have:=T.rel.dom n o (by rw[<-c ops.size]; exact l);exact⟨.inl this.1,fun k d=>.inl (sX this.2 k d)⟩
 .rw[p]at d;exact .inl (fY _ (T.sc.1 t v) k d)
 .rw[c]at cn;exact absurd (T.rel.lt cn) lw
def Vp{listed:Array Bool}{i:Nat}(hi:i<listed.size)(j:Nat):bP (listed.setIfInBounds i bv) j=if j=i then bv else bP listed j:=by
 unfold bP;rw[Array.getD_eq_getD_getElem?,Array.getD_eq_getD_getElem?,Array.getElem?_setIfInBounds];by_cases e:i=j
 .subst e; simp[hi]
 .rw[if_neg e,if_neg (fun h=>e h.symm)]
def yJ(T:mo P ops D A HH ρ0 w0){F:Fence}{n:Nat}(Z:dx F){Q:Exit->Act->i6->Prop}
  (hA:∀ i,i<ops.size->(D i).bad=bv->∀ j,j<ops.size->j≠i->((iZ ops).getD i 0).testBit j=bv)
  (hB:∀ i o,ops[i]?=a9 o->(D i).bad=bv->∀(X X':Nat->Bool)(ρ:Ren)(w:i6),(∀ j,j<ops.size->j≠i->X j=bv)->eD ops X X' i o->Inv P ops D A HH ρ0 w0 X ρ w ->
   Region.wanted o (yielded ops (ρ.act (ax ops D (A 0) X ops.size)).tmps)=bv/\∀ K:Act->i6->Prop,(∀ act w',Q .normal act w'->K act w')->o.wpIn F n P (ρ.act (ax ops D (A 0) X ops.size)) w K Q)
  (hQ:(∀ i,i<ops.size->(D i).bad=ci)->∀ x w1,St P ρ0 (HH 0) w0 x (HH ops.size) w1->Q .normal (x.act (A ops.size)) w1) :
  ∀(b:Nat)(listed:Array Bool)(ρ:Ren)(w:i6),listed.size=ops.size->left ops.size (bP listed)<=b->zi ops (bP listed)->(∀ i,bP listed i=bv->(D i).bad=ci)->Inv P ops D A HH ρ0 w0 (bP listed) ρ w ->
   wpAnyIn F n P .any ops Q b listed (ρ.act (ax ops D (A 0) (bP listed) ops.size)) w:=by
 have u:∀(listed:Array Bool)(ρ:Ren)(w:i6),listed.size=ops.size->(∀ i,bP listed i=bv->(D i).bad=ci)->Inv P ops D A HH ρ0 w0 (bP listed) ρ w->Region.ready .any ops listed=[]->Q .normal (ρ.act (ax ops D (A 0) (bP listed) ops.size)) w:=by intro listed ρ w c q I y;obtain⟨h1,h2⟩:=Ex T (J2 T c y) I;rw[h2]; exact hQ (fun i hi=>q i (J2 T c y i hi)) ρ w h1
 intro b
 induction b with
 |zero =>
  intro listed ρ w c S U q I
  have y:Region.ready .any ops listed=[]:=by
   cases e:Region.ready .any ops listed with
   |nil=>rfl
   |cons i l =>obtain⟨hi,z,_⟩:=sL c (i:=i) (by rw[e]; exact zF2 ..);have:i∈(List.range ops.size).filter fun i=>!bP listed i:=List.mem_filter.2 ⟨zF7.2 hi,by rw[z]; rfl⟩;have h0:(List.range ops.size).filter (fun i=>!bP listed i)=[]:=zE5 (by unfold left at S; omega);rw[h0]at this; cases this
  exact⟨y,u listed ρ w c q I y⟩
 |succ b ih =>
  intro listed ρ w c S U q I;refine⟨fun y=>u listed ρ w c q I y,fun i hi=>?_⟩;obtain⟨d,z,o,C,g⟩:=sL c hi;have v:=Vp (listed:=listed) (i:=i) lw
  have r:eD ops (bP listed) (bP (listed.setIfInBounds i bv)) i o :=
   ⟨d,C,z,by rw[v]; simp,fun j p=>by rw[v,if_neg p],g,U⟩
  have k:(listed.setIfInBounds i bv).size=ops.size:=by simp[c]
  have E:left ops.size (bP (listed.setIfInBounds i bv))<=b:=by
   have:=KR (fun j=>!bP listed j) (fun j=>!bP (listed.setIfInBounds i bv) j) (List.range ops.size) (fun j _ h=>by
    simp only[Bool.not_eq_true']at h ⊢
    cases e:bP listed j with
    |false=>rfl
    |true=>have:=r.up j e; rw[h]at this; cases this) i (zF7.2 d) (by simp[z]) (by simp[r.now])
   unfold left at S ⊢;omega
  have G:zi ops (bP (listed.setIfInBounds i bv)):=by
   intro j oj B J e he q;by_cases L:j=i
   .subst L;rw[C]at B;cases B;exact r.up _ (g e he q)
   .rw[r.rest j L]at J;exact r.up _ (U j oj B J e he q)
  unfold wpOpIn;simp only[C]
  cases m:(D i).bad with
  |true =>
   obtain⟨hw,hk⟩:=hB i o C m _ _ ρ w (fun j p cn=>T.n9 r.closed r.at_ r.edges r.lt (hA i d m j p cn)) r I;rw[hw];simp only[if_true]
   have M:∀ j,j<ops.size->bP (listed.setIfInBounds i bv) j=true:=fun j p=>by
    by_cases e:j=i
    .rw[e]; exact r.now
    .rw[r.rest j e]; exact T.n9 r.closed r.at_ r.edges r.lt (hA i d m j p e)
   have O:Region.ready .any ops (listed.setIfInBounds i bv)=[]:=by
    cases e:Region.ready .any ops (listed.setIfInBounds i bv) with
    |nil=>rfl
    |cons j l =>obtain⟨p,z,_⟩:=sL k (i:=j) (by rw[e]; exact zF2 ..);rw[M j p]at z; cases z
   refine hk _ (fun act w' hq=>?_)
   cases b with
   |zero=>exact⟨O,hq⟩
   |succ b=>exact⟨fun _=>hq,fun i hi=>by rw[O]at hi; cases hi⟩
  |false =>
  have R:∀ j,bP (listed.setIfInBounds i bv) j=bv->(D j).bad=false:=fun j p=>by
   by_cases e:j=i
   .rw[e]; exact m
   .rw[r.rest j e]at p; exact q j p
  rw[r.want T m ρ]
  cases t:(D i).on with
  |false =>simp only[zD2,if_false];obtain⟨V,W⟩:=r.off T t I;exact⟨fun f _=>Z.fn f,by rw[W]; exact ih _ ρ w k E G R V⟩
  |true =>simp only[if_true];obtain⟨o',f1,f2,f3,f4,f5⟩:=T.fact i d;rw[C]at f1;cases f1;obtain⟨_,_,_,Y⟩:=T.ex i lw;refine (f4 t).1 _ _ (r.rel T t I) (by rw[(aK _ _).1]; exact Y) _ (r.V4 T ρ) _ _ _ _ Z ?_;intro x w1 s _;obtain⟨V,W⟩:=r.on T t I s;rw[W];exact ih _ _ w1 k E G R V
end
section
variable{P:ip}{ρ:Ren}{H:aa}{w:i6}
def Fw{rec:Rec}(f:P.follows .mixedOrders=bv)(g:Sound P rec){ops:Array Oper}{id:Nat}(s:iF ops=bv){a a1:ah}{H1:aa}(h:lL P rec ops (iZ ops) ops.toList 0 [] a H=a9 (a1,H1))(r:Rel P ρ H w)(z:js H.next a)
  {F:Fence} {n:Nat} {Q:Exit->Act->i6->Prop} (L:dx F) (M:∀ c w1,St P ρ H w c H1 w1->js H1.next a1->Q .normal (c.act a1) w1):(Code.region id ops bv).wpIn F n P Q (ρ.act a) w:=by
 obtain⟨D,A,HH,t,k,u,v,B,C,_,d⟩:=oU g ops.toList 0 [] a H a1 H1 ⟨[],by simp⟩ h;simp only[zC2,Array.length_toList]at u v B C;have b:∀ i,i<ops.size->lD P ops D A HH i:=fun i hi=>B i (zB7 _) hi;have l:=yL r (ops:=ops) (D:=D) (A:=A) (HH:=HH) (m:=ops.size) k (by rw[t]; exact z) b;have T:mo P ops D A HH ρ w:=by refine⟨by rw[k]; exact r,by rw[k,t]; exact z,b,fun i j x O hi=>C i j (zB7 _) x O hi,fun j E y=>kR ops.toList 0 nl s j E (zB7 _) y,?_⟩;rw[k]; exact l
 obtain⟨R,U,G,p⟩:=l ops.size (zA4 _);rw[u,v]at p;refine wpIn_region_any f ?_;have q:∀ j,bP (Array.replicate ops.size ci) j=false:=fun j=>by unfold bP;rw[Array.getD_eq_getD_getElem?,Array.getElem?_replicate];split<;>rfl
 obtain⟨I,S⟩:=rh (w:={w with drawn:=w.drawn+1}) T q rfl rfl rfl rfl
 have:=yJ T (n:=n) L (Q:=Q) (fun i hi h=>by rw[d]at h; cases h) (fun i o hi h=>by rw[d]at h; cases h) (fun _ c w1 J=>by
  rw[k,v]at J;rw[u]
  exact M c w1 J p) ops.size (Array.replicate ops.size ci) ρ _ nl (by unfold left; exact zC4 (List.length_filter_le _ _) nl) (fun j E _ K=>by rw[q]at K; cases K) (fun j _=>d j) I
 rw[S,t]at this;exact this
def yQ(R:P.follows .mixedOrders=bv){ops:Array Oper}{id:Nat}(hst:iF ops=bv){a a2:ah}{ch:List PanicEntry}{H2 H3:aa}{l:List Oper}{o:Oper}(d:ops.toList=l++[o])
  (S:(List.range (ops.size-1)).all (fun j=>((iZ ops).getD (ops.size-1) 0).testBit j)=bv) {s:Nat->wH} {U:Nat->ah} {c:Nat->aa} (e1:U 0=a) (e2:c 0=H) (e3:U (0+l.length)=a2) (e4:c (0+l.length)=H2)
  (f1:∀ i,0<=i->i<0+l.length->lD P ops s U c i) (f2:∀ i j,0<=i->i<j->j<0+l.length->(s i).on=bv->cZ (iZ ops) s c j (rz s c i)) (hnb:∀ i,(s i).bad=ci)
  (z:cN ops a2 o=a9 bv) (hop:HX P a2 H2 o (.error ch) H3) (r:Rel P ρ H w) (hs:js H.next a)
  {F:Fence} {n:Nat} {Q:Exit->Act->i6->Prop} (hF:dx F) (hQ:∀ b w1,St P ρ H w b H3 w1->js H3.next a2->O9 H3.next (.panic ch)->Q (b.exit (.panic ch)) (b.act a2) w1):(Code.region id ops bv).wpIn F n P Q (ρ.act a) w:=by
 have V:ops.size=l.length+1:=by
  rw[<-Array.length_toList];conv=>lhs; rw[d]
  simp
 obtain⟨m,hm⟩:=ac l.length;rw[hm]at V e3 e4 f1 f2;simp only[zC2]at e3 e4 f1 f2;have W:ops[m]?=a9 o:=by rw[<-Array.getElem?_toList,d,zG5 lw,hm];simp
 have hD:∀ i,i≠m->(fun i=>if i=m then (⟨ci,undef,[],H2,bv⟩:wH) else s i) i=s i:=fun i h=>if_neg h
 obtain⟨D,B⟩:∃ D:Nat->wH,D=fun i=>if i=m then⟨ci,undef,[],H2,bv⟩ else s i:=⟨_,rfl⟩
 obtain⟨A,C⟩:∃ A:Nat->ah,A=fun i=>if i=m+1 then a2.put o.dst undef else U i:=⟨_,rfl⟩
 obtain⟨HH,E⟩:∃ HH:Nat->aa,HH=fun i=>if i=m+1 then H2 else c i:=⟨_,rfl⟩
 have G:D m=⟨ci,undef,[],H2,bv⟩:=by rw[B]; simp
 have v:∀ i,i≠m->D i=s i:=fun i h=>by rw[B]; simp[h]
 have am:A (m+1)=a2.put o.dst undef:=by rw[C]; simp
 have O:∀ i,i≠m+1->A i=U i:=fun i h=>by rw[C]; simp[h]
 have xm:HH (m+1)=H2:=by rw[E]; simp
 have x:∀ i,i≠m+1->HH i=c i:=fun i h=>by rw[E]; simp[h]
 clear hD B C E;have J:A m=a2:=by rw[O m lw]; exact e3
 have Z:HH m=H2:=by rw[x m lw]; exact e4
 have L:A 0=a:=by rw[O 0 lw]; exact e1
 have f:HH 0=H:=by rw[x 0 lw]; exact e2
 have g:∀ i,i<ops.size->lD P ops D A HH i:=fun i hi=>by
  by_cases e:i=m
  .subst e;exact⟨o,W,by rw[am,J,G],fun h=>(by rw[G]at h; cases h),fun h=>(by rw[G]at h; cases h),fun _=>⟨by rw[G],by rw[xm,Z]⟩⟩
  .obtain⟨o',g1,g2,g3,g4,g5⟩:=f1 i (zB7 _) lw;refine⟨o',g1,?_,?_,?_,?_⟩
   .rw[O _ lw,O _ lw,v i e]; exact g2
   .rw[O _ lw,v i e]; exact g3
   .rw[O _ lw,v i e,x _ lw,x _ lw]; exact g4
   .rw[v i e,x _ lw,x _ lw]; exact g5
 have hex:=yL r (ops:=ops) (D:=D) (A:=A) (HH:=HH) (m:=ops.size) f (by rw[L]; exact hs) g
 have T:mo P ops D A HH ρ w:=by
  refine⟨by rw[f]; exact r,by rw[f,L]; exact hs,g,fun i j hij y hi=>?_,fun j oj hoj=>kR ops.toList 0 nl hst j oj (zB7 _) hoj,?_⟩
  .by_cases e:j=m
   .intro h; rw[e,G]at h; cases h
   .have:=f2 i j (zB7 _) hij lw (by rw[<-v i lw]; exact hi);simp only[cZ,rz,v j e,v i lw,x i lw,x j lw]at this ⊢;exact this
  .rw[f]; exact hex
 obtain⟨ρm,wm,hstm,u⟩:=hex m lw;rw[J,Z]at u;have hsx:HH ops.size=H2:=by rw[V,xm]
 refine wpIn_region_any R ?_;have M:∀ j,bP (Array.replicate ops.size ci) j=false:=fun j=>by unfold bP;rw[Array.getD_eq_getD_getElem?,Array.getElem?_replicate];split<;>rfl
 obtain⟨I,ha⟩:=rh (w:={w with drawn:=w.drawn+1}) T M rfl rfl rfl rfl
 have hbm:∀ i,(D i).bad=bv->i=m:=fun i h=>by
  by_cases e:i=m
  .exact e
  .rw[v i e,hnb]at h; cases h
 have:=yJ T (n:=n) hF (Q:=Q) (fun i hi h j y cn=>?_) (fun i o' ho' h X X' b w1 hX r' I=>?_) (fun hall=>by have:=hall m lw; rw[G]at this; cases this) ops.size (Array.replicate ops.size ci) ρ _ nl (by unfold left; exact zC4 (List.length_filter_le _ _) nl) (fun j oj _ hX=>by rw[M]at hX; cases hX) (fun j y=>by rw[M]at y; cases y) I
 .rw[ha,L]at this;exact this
 .obtain rfl:=hbm i h;have:=zC3.1 S j (zF7.2 lw);rw[show ops.size-1=i by omega]at this;exact this
 .obtain rfl:=hbm i h;rw[W]at ho';obtain rfl:=Option.some.inj ho';obtain⟨I',_⟩:=r'.off T (by rw[G]) I
  obtain⟨p,_⟩:=Ex T (fun j y=>by
   by_cases e:j=i
   .rw[e]; exact r'.now
   .rw[r'.rest j e]; exact hX j y e) I'
  rw[f,hsx]at p
  have hact:b.act (ax ops D (A 0) X ops.size)=b.act a2:=by
   rw[<-J];obtain⟨q1,q2⟩:=rD (ops:=ops) (D:=D) (a:=A 0) (X:=X) ops.size;obtain⟨z1,z2⟩:=T.K9 (k:=i) lw;refine my _ _ (by rw[q1,z1]) (by rw[q2,z2]) (fun t ht=>?_);rw[z1]at ht;rw[mn (Y:=fun j=>f7 (j<i)) ht ops.size (fun j y _=>?_),yH ht ops.size lw,T.vh i lw];by_cases e:j=i
   .rw[e,r'.not]; simp
   .rw[hX j y e]; exact (decide_eq_true lw).symm
  rw[hact];refine⟨gS b z,fun K _=>hop b w1 p.rel u (b.act a2) (fun _ _=>rfl) F n K Q hF (fun ρ2 w2 q hp=>?_)⟩;have:=hQ ρ2 w2 (p.trans q) (u.mono q.le.next) hp;rw[gM q.ext u]at this;exact this
def Mp(S:P.follows .mixedOrders=bv){ops:Array Oper}{id:Nat}(hst:iF ops=bv){a a2:ah}{v:go}{H2 H3:aa}{l:List Oper}{o:Oper}(d:ops.toList=l++[o])
  (U:(List.range (ops.size-1)).all (fun j=>((iZ ops).getD (ops.size-1) 0).testBit j)=bv) {s:Nat->wH} {V:Nat->ah} {c:Nat->aa} (e1:V 0=a) (e2:c 0=H) (e3:V (0+l.length)=a2) (e4:c (0+l.length)=H2)
  (f1:∀ i,0<=i->i<0+l.length->lD P ops s V c i) (f2:∀ i j,0<=i->i<j->j<0+l.length->(s i).on=bv->cZ (iZ ops) s c j (rz s c i)) (hnb:∀ i,(s i).bad=ci)
  (B:cN ops a2 o=a9 bv) (hop:HX P a2 H2 o (.ok v) H3) (r:Rel P ρ H w) (hs:js H.next a)
  {F:Fence} {n:Nat} {Q:Exit->Act->i6->Prop} (hF:dx F) (hQ:∀ b w1,St P ρ H w b H3 w1->js H3.next (a2.put o.dst v)->Q .normal (b.act (a2.put o.dst v)) w1):(Code.region id ops bv).wpIn F n P Q (ρ.act a) w:=by
 have W:ops.size=l.length+1:=by
  rw[<-Array.length_toList];conv=>lhs; rw[d]
  simp
 obtain⟨m,hm⟩:=ac l.length;rw[hm]at W e3 e4 f1 f2;simp only[zC2]at e3 e4 f1 f2;have Z:ops[m]?=a9 o:=by rw[<-Array.getElem?_toList,d,zG5 lw,hm];simp
 have hD:∀ i,i≠m->(fun i=>if i=m then (⟨ci,undef,[],H2,bv⟩:wH) else s i) i=s i:=fun i h=>if_neg h
 obtain⟨D,C⟩:∃ D:Nat->wH,D=fun i=>if i=m then⟨ci,undef,[],H2,bv⟩ else s i:=⟨_,rfl⟩
 obtain⟨A,E⟩:∃ A:Nat->ah,A=fun i=>if i=m+1 then a2.put o.dst undef else V i:=⟨_,rfl⟩
 obtain⟨HH,G⟩:∃ HH:Nat->aa,HH=fun i=>if i=m+1 then H2 else c i:=⟨_,rfl⟩
 have J:D m=⟨ci,undef,[],H2,bv⟩:=by rw[C]; simp
 have x:∀ i,i≠m->D i=s i:=fun i h=>by rw[C]; simp[h]
 have am:A (m+1)=a2.put o.dst undef:=by rw[E]; simp
 have R:∀ i,i≠m+1->A i=V i:=fun i h=>by rw[E]; simp[h]
 have xm:HH (m+1)=H2:=by rw[G]; simp
 have y:∀ i,i≠m+1->HH i=c i:=fun i h=>by rw[G]; simp[h]
 clear hD C E G;have L:A m=a2:=by rw[R m lw]; exact e3
 have xm0:HH m=H2:=by rw[y m lw]; exact e4
 have M:A 0=a:=by rw[R 0 lw]; exact e1
 have f:HH 0=H:=by rw[y 0 lw]; exact e2
 have g:∀ i,i<ops.size->lD P ops D A HH i:=fun i hi=>by
  by_cases e:i=m
  .subst e;exact⟨o,Z,by rw[am,L,J],fun h=>(by rw[J]at h; cases h),fun h=>(by rw[J]at h; cases h),fun _=>⟨by rw[J],by rw[xm,xm0]⟩⟩
  .obtain⟨o',g1,g2,g3,g4,g5⟩:=f1 i (zB7 _) lw;refine⟨o',g1,?_,?_,?_,?_⟩
   .rw[R _ lw,R _ lw,x i e]; exact g2
   .rw[R _ lw,x i e]; exact g3
   .rw[R _ lw,x i e,y _ lw,y _ lw]; exact g4
   .rw[x i e,y _ lw,y _ lw]; exact g5
 have hex:=yL r (ops:=ops) (D:=D) (A:=A) (HH:=HH) (m:=ops.size) f (by rw[M]; exact hs) g
 have T:mo P ops D A HH ρ w:=by
  refine⟨by rw[f]; exact r,by rw[f,M]; exact hs,g,fun i j hij z hi=>?_,fun j oj hoj=>kR ops.toList 0 nl hst j oj (zB7 _) hoj,?_⟩
  .by_cases e:j=m
   .intro h; rw[e,J]at h; cases h
   .have:=f2 i j (zB7 _) hij lw (by rw[<-x i lw]; exact hi);simp only[cZ,rz,x j e,x i lw,y i lw,y j lw]at this ⊢;exact this
  .rw[f]; exact hex
 obtain⟨ρm,wm,hstm,u⟩:=hex m lw;rw[L,xm0]at u;have hsx:HH ops.size=H2:=by rw[W,xm]
 refine wpIn_region_any S ?_;have O:∀ j,bP (Array.replicate ops.size ci) j=false:=fun j=>by unfold bP;rw[Array.getD_eq_getD_getElem?,Array.getElem?_replicate];split<;>rfl
 obtain⟨I,ha⟩:=rh (w:={w with drawn:=w.drawn+1}) T O rfl rfl rfl rfl
 have hbm:∀ i,(D i).bad=bv->i=m:=fun i h=>by
  by_cases e:i=m
  .exact e
  .rw[x i e,hnb]at h; cases h
 have:=yJ T (n:=n) hF (Q:=Q) (fun i hi h j z cn=>?_) (fun i o' ho' h X X' b w1 hX r' I=>?_) (fun hall=>by have:=hall m lw; rw[J]at this; cases this) ops.size (Array.replicate ops.size ci) ρ _ nl (by unfold left; exact zC4 (List.length_filter_le _ _) nl) (fun j oj _ hX=>by rw[O]at hX; cases hX) (fun j z=>by rw[O]at z; cases z) I
 .rw[ha,M]at this;exact this
 .obtain rfl:=hbm i h;have:=zC3.1 U j (zF7.2 lw);rw[show ops.size-1=i by omega]at this;exact this
 .obtain rfl:=hbm i h;rw[Z]at ho';obtain rfl:=Option.some.inj ho';obtain⟨I',_⟩:=r'.off T (by rw[J]) I
  obtain⟨p,_⟩:=Ex T (fun j z=>by
   by_cases e:j=i
   .rw[e]; exact r'.now
   .rw[r'.rest j e]; exact hX j z e) I'
  rw[f,hsx]at p
  have hact:b.act (ax ops D (A 0) X ops.size)=b.act a2:=by
   rw[<-L];obtain⟨q1,q2⟩:=rD (ops:=ops) (D:=D) (a:=A 0) (X:=X) ops.size;obtain⟨z1,z2⟩:=T.K9 (k:=i) lw;refine my _ _ (by rw[q1,z1]) (by rw[q2,z2]) (fun t ht=>?_);rw[z1]at ht;rw[mn (Y:=fun j=>f7 (j<i)) ht ops.size (fun j z _=>?_),yH ht ops.size lw,T.vh i lw];by_cases e:j=i
   .rw[e,r'.not]; simp
   .rw[hX j z e]; exact (decide_eq_true lw).symm
  rw[hact];refine⟨gS b B,fun K hK=>hop b w1 p.rel u (b.act a2) (fun _ _=>rfl) F n K Q hF (fun ρ2 w2 q hp=>?_)⟩;rw[<-gM q.ext u,km];exact hK _ _ (hQ ρ2 w2 (p.trans q) ((u.mono q.le.next).put _ hp))
def Bx{rec:Rec}(i:P.follows .mixedOrders=bv)(c:Sound P rec){ops:Array Oper}{id:Nat}(l:iF ops=bv){a a1:ah}{e:Exit}{H1:aa}(h:vR P rec ops a H=a9 (e,a1,H1))(r:Rel P ρ H w)(s:js H.next a)
  {F:Fence} {n:Nat} {Q:Exit->Act->i6->Prop} (t:dx F) (u:∀ d w1,St P ρ H w d H1 w1->js H1.next a1->O9 H1.next e->Q (d.exit e) (d.act a1) w1):(Code.region id ops bv).wpIn F n P Q (ρ.act a) w:=by
 unfold vR at h;split at h
 .rename_i o a2 H2 f j;split at h
  .rename_i k;split at h
   .rename_i G I g m;simp only[i8,i9]at h;obtain⟨rfl,rfl,rfl⟩:=h;have b:ops.toList=ops.toList.dropLast++[o]:=by obtain⟨ys,p⟩:=List.getLast?_eq_some_iff.1 f;rw[p,List.dropLast_concat]
    obtain⟨J,K,v,x,y,z,B,C,E,_,q⟩:=oU c ops.toList.dropLast 0 [] a H a2 H2 ⟨[o],by simpa using b⟩ j;exact yQ i l b k x y z B C E q g (Kw c m) r s t u
   .cases h
  .cases h
 .cases h
def IE{rec:Rec}(B:Sound P rec){ro:Option Nat}{g:i7}{fv:go}{ps:Array Tmp}{q C:Code}{a a1:ah}{e:Exit}{H1:aa}(hg:aO P a g=a9 fv)
  (h:Jf P rec ro fv ps q C a H=a9 (e,a1,H1)) (r:Rel P ρ H w) (hs:js H.next a) (J:∀ l,ro=a9 l->l<H.next)
  {F:Fence} {n:Nat} {Q:Exit->Act->i6->Prop} (hF:dx F) (U:F.round=ro.map ρ.blk) (hQ:∀ b w1,St P ρ H w b H1 w1->js H1.next a1->O9 H1.next e->Q (b.exit e) (b.act a1) w1) :
  (Code.rangeFunc g ps q C).wpIn F n P Q (ρ.act a) w:=by
 unfold Jf at h;split at h
 .rename_i fn first i
  simp only[zA1,zA2]at h;obtain⟨⟨l,mark,H2⟩,hen,res,s,h⟩:=h;simp only at s h;split at h
  .rename_i f args;simp only[zA2]at h;obtain⟨⟨out,K⟩,L,j⟩:=h;refine wpIn_rangeFunc (fun V _=>?_);obtain⟨b,w1,M,W,hl,hmk⟩:=rJ r J hs.1 hen V;obtain⟨ρ2,w2,s2,E⟩:=nf M.rel s;have G:=cS r.glob.1 hs hg;have O:=EO (cU M.le.next _ G);have x:aT H2.next args=true:=oI M.rel.Jp O.1 (cb O.2.1 (by simp only[aT,aV,fL,Bool.and_true]; exact bd hl)) O.2.2 s;have hfv:(ρ.act a).eval g=b.val (.func fn first i):=by rw[aL r hg,je M.ext _ G]
   have e1:b.val (.func fn first i)=.func (b.fn fn) (first.map b.val) (i.map b.val):=by rw[Ren.val,Ren.ed,Ren.ed]
   have e2:first.map b.val++#[(.func (.yield (b.blk l)) #[] #[]:go)]=((first.toList++[(.func (.yield l) #[] #[]:go)]).map b.val).toArray:=by apply Array.ext';simp[Ren.val,Ren.fn,Ren.eV,Ren.iU]
   have e3:i.map b.val=(i.toList.map b.val).toArray:=by apply Array.ext'; simp
   simp only[iO]at E;have X:js H2.next a:=hs.mono M.le.next
   have Y:js H2.next {a with defers:=mark++a.defers}:=⟨X.1,fun d hd=>by
    rcases zB1.1 hd with hd|hd
    .exact hmk d hd
    .exact X.2 d hd⟩
   have t:({ρ.act a with defers:=mark.map b.tq++(ρ.act a).defers}:Act)=b.act {a with defers:=mark++a.defers}:=by
    have h1:=gM M.ext hs;have h2:(ρ.act a).tmps=b.tmps a.env:=by rw[<-h1]; rfl
    have h3:(ρ.act a).defers=a.defers.map b.tq:=by rw[<-h1]; rfl
    show (⟨(ρ.act a).tmps,mark.map b.tq++(ρ.act a).defers⟩:Act)=⟨b.tmps a.env,(mark++a.defers).map b.tq⟩
    rw[h2,h3,List.map_append]
   refine⟨b.blk l,mark.map b.tq,w1,{target:=.fn (b.fn fn) (i.map b.val),args:=first.map b.val++#[(.func (.yield (b.blk l)) #[] #[]:go)]},w1,f,_,w2,?_,?_,fun f' _=>hF.fn f',?_,hF.deep,B1 B s2.rel L x hF ?_⟩
   .rw[U]; exact W
   .simp only[resolve,hfv,e1];simp[Act.eval,Deferred.ofValue]
   .simp only[e2,e3]; exact E
   .intro m w3 Z;have hn2:H2.next<=K.next:=(s2.trans Z).le.next
    have hlb:m.blk l=b.blk l:=((s2.trans Z).ext.blk l hl)
    have R:js K.next {a with defers:=mark++a.defers}:=Y.mono hn2;have u:m.act {a with defers:=mark++a.defers}=b.act {a with defers:=mark++a.defers}:=gM (s2.trans Z).ext Y;have o:=(M.trans s2).trans Z
    cases out with
    |ok v =>
     simp only[sY,zA1,zA2]at j;obtain⟨⟨p,le⟩,hlp,j⟩:=j;simp only at j;have hnb:p.state≠.busy:=by intro hb; rw[hb]at j; cases j
     obtain⟨fn3,hgl,w4,I,s4⟩:=mL Z.rel (lp':={p with state:=.exhausted}) hlp rfl;rw[hlb]at hgl I;have y:(cu K l {p with state:=.exhausted} le).next=K.next:=rfl
     have S:(Instr.endLoop (b.blk l)).run P w3=.ok p.pending w4:=by
      have hb:(p.state == .busy)=false:=by simpa using hnb
      simp only[Instr.endLoop,Sem.run_bind,hgl,Result.andThen_ok,hb,zD2,if_false]
      rw[show ({({p with fn:=fn3,tmps:=m.tmps le,defers:=m.blk p.defers}:Loop) with state:=.exhausted}:Loop) =
       {({p with state:=.exhausted}:Loop) with fn:=fn3,tmps:=m.tmps le,defers:=m.blk p.defers} from rfl,I]
      simp
     intro _;refine⟨p.pending,w4,S,?_⟩;rw[t,<-u]
     have k:(match p.pending with
       |none=>a9 (Exit.normal,({a with defers:=mark++a.defers}:ah),cu K l {p with state:=.exhausted} le)
       |some c=>rec.run ro c {a with defers:=mark++a.defers} (cu K l {p with state:=.exhausted} le))=a9 (e,a1,H1):=by
      cases z:p.state with
      |busy=>exact absurd z hnb
      |ready=>rw[z]at j; exact j
      |done=>rw[z]at j; exact j
      |exhausted=>rw[z]at j; exact j
     generalize cu K l {p with state:=.exhausted} le=H4 at s4 y k;split
     .rename_i hp;rw[hp]at k;simp only[i8,i9]at k;obtain⟨rfl,rfl,rfl⟩:=k;exact hQ m w4 (o.trans s4) (R.mono (zF6 y.symm)) trivial
     .rename_i c hp;rw[hp]at k;have hro4:∀ T,ro=a9 T->T<H4.next:=fun T h0=>by rw[y]; exact zE0 (J T h0) o.le.next
      have hFr4:F.round=ro.map m.blk:=by
       rw[U]
       cases ro with
       |none=>rfl
       |some T=>simp only[zB2]; rw[o.ext.blk T (J T rfl)]
      refine B.run ro c _ _ e a1 H1 k m w4 F n Q hF hFr4 hro4 s4.rel (R.mono (zF6 y.symm)) ?_;intro ρ5 w5 s5 h1 h2;exact hQ ρ5 w5 ((o.trans s4).trans s5) h1 h2
    |error ch =>intro hch;simp only[sY,i8,i9]at j;obtain⟨rfl,rfl,rfl⟩:=j;show Q (.panic (ch.map m.pe)) _ w3;rw[t,<-u];exact hQ m w3 o R hch
  .cases h
 .cases h
def jA{b:Frame}{a:Act}{k:List Item}{cs:List Frame}{c:Code}:Go.step P (lone (b.atR a (.code (.scope c)::k)) cs w)=.next (lone (b.atR a (.code c::.inScope c::k)) cs w) :=
 step_lone_go (by simp[stepG,stepG.exec,Frame.atR])
def BD{b:Frame}{a:Act}{k:List Item}{cs:List Frame}{c:Code}:Go.step P (lone (b.atR a (.inScope c::k)) cs w)=.next (lone (b.atR a k) cs w) :=
 step_lone_go (by simp[stepG,stepG.exec,Frame.atR])
def Bf{F:Fence}{n:Nat}{Q:Exit->Act->i6->Prop}{a:Act}{c:Code}(h:c.wpIn F n P (Exit.noGoto Q) a w):(Code.scope c).wpIn F n P Q a w:=by
 intro b k cs o p q;have i:(lone (b.atR a (.code (.scope c)::k)) cs w).fenced P F:=fenced_calm p q rfl;obtain⟨e,f,g,j,d⟩:=h b (.inScope c::k) cs o p q
 cases e with
 |normal=>exact⟨.normal,f,g,j,.head i jA (StepsIn.trans d (.one (fenced_calm p q rfl) BD))⟩
 |exit id =>
  have hx:exitTo id (.inScope c::k)=exitTo id k:=by simp[exitTo]
  exact⟨.exit id,f,g,j,fun t r=>.head i jA (d.1 t (by rw[hx]; exact r)),
    fun s r=>let ⟨m,u,v⟩:=d.2 s (by rw[hx]; exact r); ⟨m,u,.head i jA v⟩⟩
 |goto l=>exact j.elim
 |ret=>exact⟨_,f,g,j,.of_steps (.one i jA) d⟩
 |panic x=>exact⟨_,f,g,j,.of_steps (.one i jA) d⟩
 |outgrown=>exact⟨_,f,g,j,.of_steps (.one i jA) d⟩
def nQ(P:ip)(rec:Rec)(m:Nat):Prop :=
 ∀(ro:Option Nat)(b:Code)(a:ah)(H:aa)(e:Exit)(a1:ah)(H1:aa),rec.run ro (.loop b) a H=a9 (e,a1,H1) ->
  ∀(ρ:Ren)(w:i6)(F:Fence)(n:Nat)(Q:Exit->Act->i6->Prop),dx F->F.round=ro.map ρ.blk->(∀ l,ro=a9 l->l<H.next)->Rel P ρ H w->js H.next a ->
   (∀ c w1,St P ρ H w c H1 w1->js H1.next a1->O9 H1.next e->Q (c.exit e) (c.act a1) w1)->Code.roundsIn F n P b Q m (ρ.act a) w
def Au{rec:Rec}(g:Sound P rec){m:Nat}(o:nQ P rec m):nQ P ⟨fun ro c a H=>step c P rec ro a H,rec.know⟩ (m+1):=by
 intro ro b a H e a1 H1 h ρ w F n Q p i d r u v;simp only[step,Ph]at h;rw[roundsIn_succ];split at h
 .rename_i a2 H2 hx;refine g.run ro b a H .normal a2 H2 hx ρ w F n _ p i d r u ?_;intro f w1 j q _
  have k:F.round=ro.map f.blk:=by
   rw[i]
   cases ro with
   |none=>rfl
   |some x=>simp only[zB2]; rw[j.ext.blk x (d x rfl)]
  refine o ro b a2 H2 e a1 H1 h f w1 F n Q p k (fun l o=>zE0 (d l o) j.le.next) j.rel q ?_;intro s y s2 t z;exact v s y (j.trans s2) t z
 .rename_i cn;refine g.run ro b a H e a1 H1 h ρ w F n _ p i d r u ?_;intro f w1 j q t;have:=v f w1 j q t
  cases e with
  |normal=>exact absurd h (cn a1 H1)
  |_=>exact this
def JO(z:P.follows .mixedOrders=bv){rec:Rec}(d:Sound P rec){m:Nat}(K:nQ P rec m):Sound P ⟨fun ro c a H=>step c P rec ro a H,rec.know⟩:=by
 refine⟨?_,d.know⟩;intro ro c a H e a1 H1 h ρ w F n Q u i j r p o;simp only at h
 cases c with
 |skip =>simp only[step,rU,i8,i9]at h;obtain⟨rfl,rfl,rfl⟩:=h;exact wpIn_skip (o ρ w (St.refl r) p trivial)
 |label l =>simp only[step,rU,i8,i9]at h;obtain⟨rfl,rfl,rfl⟩:=h;exact wpIn_label (o ρ w (St.refl r) p trivial)
 |exit id =>simp only[step,rU,i8,i9]at h;obtain⟨rfl,rfl,rfl⟩:=h;exact wpIn_exit (o ρ w (St.refl r) p trivial)
 |goto l =>simp only[step,rU,i8,i9]at h;obtain⟨rfl,rfl,rfl⟩:=h;exact wpIn_goto (o ρ w (St.refl r) p trivial)
 |ret =>simp only[step,rU,i8,i9]at h;obtain⟨rfl,rfl,rfl⟩:=h;exact wpIn_ret (o ρ w (St.refl r) p trivial)
 |seq x y =>
  simp only[step,T1]at h;refine wpIn_seq ?_;split at h
  .rename_i a2 H2 hx;refine d.run ro x a H .normal a2 H2 hx ρ w F n _ u i j r p ?_;intro g w1 t v _
   have C:F.round=ro.map g.blk:=by
    rw[i]
    cases ro with
    |none=>rfl
    |some S=>simp only[zB2]; rw[t.ext.blk S (j S rfl)]
   refine d.run ro y a2 H2 e a1 H1 h g w1 F n Q u C (fun l K=>zE0 (j l K) t.le.next) t.rel v ?_;intro L U s2 B V;exact o L U (t.trans s2) B V
  .rename_i cn;refine d.run ro x a H e a1 H1 h ρ w F n _ u i j r p ?_;intro g w1 t v B;have:=o g w1 t v B
   cases e with
   |normal=>exact absurd h (cn a1 H1)
   |_=>exact this
 |cond c x y =>
  simp only[step,OL]at h;split at h
  .rename_i M;refine wpIn_cond_true (by rw[aL r M]; simp[Ren.val]) ?_;exact d.run ro x a H e a1 H1 h ρ w F n Q u i j r p o
  .rename_i M;refine wpIn_cond_false (by rw[aL r M]; simp[Ren.val]) ?_;exact d.run ro y a H e a1 H1 h ρ w F n Q u i j r p o
  .cases h
 |block id b =>
  simp only[step,LF]at h;refine wpIn_block ?_;split at h
  .rename_i k a2 H2 W;refine d.run ro b a H (.exit k) a2 H2 W ρ w F n _ u i j r p ?_;intro g w1 t v _;simp only[Ren.exit,Exit.inBlock];split at h
   .rename_i O;simp only[i8,i9]at h;obtain⟨rfl,rfl,rfl⟩:=h;rw[if_pos O]; exact o g w1 t v trivial
   .rename_i O;simp only[i8,i9]at h;obtain⟨rfl,rfl,rfl⟩:=h;rw[if_neg O]; exact o g w1 t v trivial
  .rename_i cn;refine d.run ro b a H e a1 H1 h ρ w F n _ u i j r p ?_;intro g w1 t v B;have:=o g w1 t v B
   cases e with
   |exit k=>exact absurd h (cn k a1 H1)
   |_=>exact this
 |loop b =>exact wpIn_loop_rounds (m+1) (Au d K ro b a H e a1 H1 h ρ w F n Q u i j r p o)
 |region id ops E =>
  simp only[step,HB]at h
  cases E with
  |true =>
   simp only at h;split at h
   .rename_i G;split at h
    .rename_i q I;simp only[i8,i9]at h;obtain⟨rfl,rfl,rfl⟩:=h;exact Fw z d G I r p u (fun g w1 t v=>o g w1 t v trivial)
    .exact Bx z d G h r p u o
   .cases h
  |false =>simp only at h;refine wpIn_region ?_;rw[List.range_eq_range'];have:=pd d (n:=n) (Q:=Q) u (fun X=>by rw[i]; cases ro with|none=>rfl|some l=>cases X) ops.toList 0 ρ H w a e a1 H1 nl h r p o;simpa using this
 |rangeFunc f ps J T =>simp only[step,JS,zA1,zA2]at h;obtain⟨Y,R,h⟩:=h;exact IE d R h r p j u i o
 |scope b =>
  simp only[step,Ma]at h;refine Bf ?_;split at h
  .cases h
  .rename_i cn;refine d.run ro b a H e a1 H1 h ρ w F n _ u i j r p ?_;intro g w1 t v B;have:=o g w1 t v B
   cases e with
   |goto k=>exact absurd h (cn k a1 H1)
   |_=>exact this
 |refuse s=>simp[step,Q0]at h
def PW(P:ip)(K:FuncId->List go->aa->Option (go × aa)):Prop :=
 ∀(f:FuncId)(args:List go)(v:go)(H H1:aa),K f args H=a9 (v,H1)->bD P f args H (.ok v) H1
def Bj(P:ip)(K:FuncId->List go->aa->Option go):Prop :=
 ∀(f:FuncId)(args:List go)(v:go)(H:aa),K f args H=a9 v->af v=bv /\
  ∀(ρ:Ren)(F:Fence)(n:Nat)(w:i6),Rel P ρ H w->aT H.next args=bv->dx F->CallsIn F n P f (args.map ρ.val).toArray w (fun e w'=>e=.returned v/\RowKit.Below w.heap.size w w')
def Bj.lift{K:FuncId->List go->aa->Option go}(g:Bj P K):PW P (QG K):=by
 intro f args v H H1 h ρ w r b F n R i j;unfold QG at h;split at h
 .rename_i c k;simp only[i8,i9]at h;obtain⟨rfl,rfl⟩:=h;obtain⟨d,l⟩:=g f args c _ k;refine (l ρ F n w r b i).mono ?_;rintro e w1 ⟨rfl,m⟩;have:=j ρ w1 (St.below r m);simp only[dM ρ c d]at this;exact this (gv _ d)
 .cases h
def wL(f:P.follows .mixedOrders=bv){K:FuncId->List go->aa->Option (go × aa)}(g:PW P K):∀ d,Sound P (za P K d)/\nQ P (za P K d) d
 |0=>⟨⟨fun ro c a H e a1 H1 h=>by simp[za]at h,g⟩,fun ro b a H e a1 H1 h=>by simp[za]at h⟩
 |n+1=>by
  obtain⟨i,j⟩:=wL f g n;have m:(za P K n).know=K:=by cases n<;>rfl
  have k:=JO f i j;have l:=Au i j;rw[m]at k l;exact⟨k,l⟩
def A4(c:P.follows .mixedOrders=bv){K:FuncId->List go->aa->Option go}(d:Bj P K)(b:Nat):Sound P (exec P K b)/\nQ P (exec P K b) b:=wL c d.lift b
end
section
variable{P:ip}{ro:Option Nat}{a a1 a2:ah}{H H1 H2:aa}{e:Exit}
def dI.skip:dI P ro .skip a H .normal a H:=fun ρ w _ _ _ _ _ _ r b c=>wpIn_skip (c ρ w (St.refl r) b trivial)
def dI.label{l:Nat}:dI P ro (.label l) a H .normal a H:=fun ρ w _ _ _ _ _ _ r b c=>wpIn_label (c ρ w (St.refl r) b trivial)
def dI.exit{id:Nat}:dI P ro (.exit id) a H (.exit id) a H:=fun ρ w _ _ _ _ _ _ r b c=>wpIn_exit (c ρ w (St.refl r) b trivial)
def dI.goto{l:Nat}:dI P ro (.goto l) a H (.goto l) a H:=fun ρ w _ _ _ _ _ _ r b c=>wpIn_goto (c ρ w (St.refl r) b trivial)
def dI.ret:dI P ro .ret a H .ret a H:=fun ρ w _ _ _ _ _ _ r b c=>wpIn_ret (c ρ w (St.refl r) b trivial)
def qJ{F:Fence}{ρ b:Ren}{w w1:i6}(c:F.round=ro.map ρ.blk)(d:∀ l,ro=a9 l->l<H.next)(s:St P ρ H w b H1 w1):F.round=ro.map b.blk:=by
 rw[c]
 cases ro with
 |none=>rfl
 |some f=>simp only[zB2]; rw[s.ext.blk f (d f rfl)]
def dI.seq{x y:Code}(i:dI P ro x a H .normal a2 H2)(j:dI P ro y a2 H2 e a1 H1):dI P ro (.seq x y) a H e a1 H1:=by intro ρ w F n Q h c b r k m;refine wpIn_seq (i ρ w F n _ h c b r k ?_);intro f w1 d o _;refine j f w1 F n Q h (qJ c b d) (fun l p=>zE0 (b l p) d.le.next) d.rel o ?_;intro g q s2 s t;exact m g q (d.trans s2) s t
def dI.tv{x y:Code}(f:dI P ro x a H e a1 H1)(cn:e≠.normal):dI P ro (.seq x y) a H e a1 H1:=by
 intro ρ w F n Q g b c r h i;refine wpIn_seq (f ρ w F n _ g b c r h ?_);intro d w1 j k l;have:=i d w1 j k l
 cases e with
 |normal=>exact absurd rfl cn
 |_=>exact this
def dI.cond{c:i7}{x y:Code}{b:Bool}(g:aO P a c=a9 (ls b))(h:dI P ro (if b then x else y) a H e a1 H1):dI P ro (.cond c x y) a H e a1 H1:=by
 intro ρ w F n Q i d f r j k
 cases b with
 |true=>exact wpIn_cond_true (by rw[aL r g]; simp[Ren.val]) (h ρ w F n Q i d f r j k)
 |false=>exact wpIn_cond_false (by rw[aL r g]; simp[Ren.val]) (h ρ w F n Q i d f r j k)
def E7(id:Nat):Exit->Exit
 |.exit k=>if k=id then .normal else .exit k
 |e=>e
def dI.block{id:Nat}{b:Code}(h:dI P ro b a H e a1 H1):dI P ro (.block id b) a H (E7 id e) a1 H1:=by
 intro ρ w F n Q m f g r o i;refine wpIn_block (h ρ w F n _ m f g r o ?_);intro c w1 j l p
 cases e with
 |exit k =>
  simp only[Ren.exit,Exit.inBlock];by_cases d:k=id
  .rw[if_pos d];have:=i c w1 j l (by simp[E7,d,O9]);simpa[E7,d,Ren.exit]using this
  .rw[if_neg d];have:=i c w1 j l (by simp[E7,d,O9]);simpa[E7,d,Ren.exit]using this
 |_=>exact i c w1 j l p
def dI.scope{b:Code}(h:dI P ro b a H e a1 H1)(cn:∀ l,e≠.goto l):dI P ro (.scope b) a H e a1 H1:=by
 intro ρ w F n Q g c d r i j;refine Bf (h ρ w F n _ g c d r i ?_);intro f w1 k m o;have:=j f w1 k m o
 cases e with
 |goto l=>exact absurd rfl (cn l)
 |_=>exact this
def jb(P:ip)(ro:Option Nat)(b:Code)(m:Nat)(a:ah)(H:aa)(e:Exit)(a1:ah)(H1:aa):Prop :=
 ∀(ρ:Ren)(w:i6)(F:Fence)(n:Nat)(Q:Exit->Act->i6->Prop),dx F->F.round=ro.map ρ.blk->(∀ l,ro=a9 l->l<H.next)->Rel P ρ H w->js H.next a ->
  (∀ c w1,St P ρ H w c H1 w1->js H1.next a1->O9 H1.next e->Q (c.exit e) (c.act a1) w1)->Code.roundsIn F n P b Q m (ρ.act a) w
def jb.next{b:Code}{m:Nat}(j:dI P ro b a H .normal a2 H2)(k:jb P ro b m a2 H2 e a1 H1):jb P ro b (m+1) a H e a1 H1:=by intro ρ w F n Q i d c r o p;rw[roundsIn_succ];refine j ρ w F n _ i d c r o ?_;intro g w1 f q _;refine k g w1 F n Q i (qJ d c f) (fun l s=>zE0 (c l s) f.le.next) f.rel q ?_;intro h t s2 u v;exact p h t (f.trans s2) u v
def jb.last{b:Code}{m:Nat}(g:dI P ro b a H e a1 H1)(cn:e≠.normal):jb P ro b (m+1) a H e a1 H1:=by
 intro ρ w F n Q h c d r i j;rw[roundsIn_succ];refine g ρ w F n _ h c d r i ?_;intro f w1 k l o;have:=j f w1 k l o
 cases e with
 |normal=>exact absurd rfl cn
 |_=>exact this
def dI.loop{b:Code}{m:Nat}(h:jb P ro b m a H e a1 H1):dI P ro (.loop b) a H e a1 H1 :=
 fun ρ w F n Q f c d r g i=>wpIn_loop_rounds m (h ρ w F n Q f c d r g i)
def VS(P:ip)(x:de)(H:aa)(out:Out)(H1:aa):Prop :=
 match x with
 |.value v=>out=.ok v/\H1=H
 |.skip=>out=.ok undef/\H1=H
 |.enter f args=>bD P f args H out H1
 |.round r=>D6 P r H out H1
 |.panic v=>out=.error [{v,recovered:=false}]/\H1=H
def gD{o:Oper}{x:de}{g:aa}{out:Out}(hx:cE o.op P a H=a9 (x,g))(h:VS P x g out H1):HX P a H o out H1:=by
 intro ρ w r z ca u F n K Q q m;have j:=Eh r.glob.1 r.Jp z hx;obtain⟨⟨k,w1,d,c⟩,hnd⟩:=uv r hx;refine⟨fun f _=>q.fn f,?_⟩;have s:∀ cs b,o.op≠.select cs b:=fun cs b e=>by rw[e]at hx; simp[cE,FL]at hx
 rw[Oper.semAt_eq _ _ _ hnd,execOp_congr o s u]
 cases x with
 |value v =>obtain⟨rfl,rfl⟩:=h;simp only[iO]at c;rw[c,Oper.uponIn_value];exact m k w1 d j
 |skip =>obtain⟨rfl,rfl⟩:=h;simp only[iO]at c;rw[c,Oper.uponIn_skip];have:=m k w1 d (eY _);simpa using this
 |enter f args =>
  simp only[iO]at c;rw[c,Oper.uponIn_enter];refine⟨q.deep,h k w1 d.rel j F (n-1) _ q ?_⟩;intro l t i
  cases out with
  |ok v=>exact m l t (d.trans i)
  |error B=>exact m l t (d.trans i)
 |round rd =>
  simp only[iO]at c;obtain⟨fn,c⟩:=c;rw[c,Oper.uponIn_round];refine⟨q.deep,h k w1 d.rel j.1 j.2 F (n-1) fn _ q ?_⟩;intro l t i
  cases out with
  |ok v=>exact m l t (d.trans i)
  |error B=>exact m l t (d.trans i)
 |panic v =>obtain⟨rfl,rfl⟩:=h;simp only[iO]at c;rw[c,Oper.uponIn_panic];exact m k w1 d (fun p y=>by simp at y; subst y; exact j)
def bF(P:ip)(f:FuncId)(args:List go)(H:aa)(R:Out->aa->Prop):Prop:=∃ out H1,bD P f args H out H1/\R out H1
def IC(P:ip)(r:Round)(H:aa)(R:Out->aa->Prop):Prop:=∃ out H1,D6 P r H out H1/\R out H1
def mO(P:ip)(x:de)(H:aa)(R:Out->aa->Prop):Prop :=
 match x with
 |.value v=>R (.ok v) H
 |.skip=>R (.ok undef) H
 |.enter f args=>bF P f args H R
 |.round r=>IC P r H R
 |.panic v=>R (.error [{v,recovered:=false}]) H
def Bv(P:ip)(b:Op)(a:ah)(H:aa)(R:Out->aa->Prop):Prop :=
 match cE b P a H with
 |some (x,g)=>mO P x g R
 |none=>False
def BJ{o:Oper}{R:Out->aa->Prop}(h:Bv P o.op a H R):∃ out H1,HX P a H o out H1/\R out H1:=by
 unfold Bv at h;split at h
 .rename_i x g hx
  cases x with
  |value v=>exact⟨_,_,gD hx ⟨rfl,rfl⟩,h⟩
  |skip=>exact⟨_,_,gD hx ⟨rfl,rfl⟩,h⟩
  |enter f args=>obtain⟨out,H1,b,c⟩:=h; exact⟨out,H1,gD hx b,c⟩
  |round r=>obtain⟨out,H1,b,c⟩:=h; exact⟨out,H1,gD hx b,c⟩
  |panic v=>exact⟨_,_,gD hx ⟨rfl,rfl⟩,h⟩
 .exact h.elim
def wpOps(P:ip)(ro:Option Nat)(ops:Array Oper):List Oper->ah->aa->(Exit->ah->aa->Prop)->Prop
 |[],a,H,Q=>Q .normal a H
 |o::rest,a,H,Q =>
  match cN ops a o with
  |some bv =>
   (match ro,p8 P a o.op with
   |none,a9 d=>wpOps P ro ops rest (ah.put ⟨a.env,d::a.defers⟩ o.dst undef) H Q
   |_,_=>Bv P o.op a H fun out H1=>match out with
    |.ok v=>wpOps P ro ops rest (a.put o.dst v) H1 Q
    |.error b=>Q (.panic b) a H1)
  |some ci=>wpOps P ro ops rest (a.put o.dst undef) H Q
  |none=>False
def Wl(P:ip)(ro:Option Nat)(ops:Array Oper)(k m:Nat)(a:ah)(H:aa)(e:Exit)(a1:ah)(H1:aa):Prop :=
 ∀(ρ:Ren)(w:i6)(F:Fence)(n:Nat)(Q:Exit->Act->i6->Prop),dx F->F.round=ro.map ρ.blk->(∀ l,ro=a9 l->l<H.next)->Rel P ρ H w->js H.next a ->
  (∀ b w1,St P ρ H w b H1 w1->js H1.next a1->O9 H1.next e->Q (b.exit e) (b.act a1) w1)->wpOpsIn F n P ops Q (List.range' k m) (ρ.act a) w
def mJ{P:ip}{ro:Option Nat}{ops:Array Oper}{Q:Exit->ah->aa->Prop}:∀(rest:List Oper)(k:Nat)(a:ah)(H:aa),ops.toList.drop k=rest->wpOps P ro ops rest a H Q ->
  ∃ e a1 H1,Wl P ro ops k rest.length a H e a1 H1/\Q e a1 H1
 |[],k,a,H,_,h=>⟨.normal,a,H,fun ρ w F n Q _ _ _ r c m=>m ρ w (St.refl r) c trivial,h⟩
 |o::rest,k,a,H,L,h=>by
  have E:ops[k]?=a9 o:=by have:=congrArg (·[0]?) L;simpa using this
  have hd':ops.toList.drop (k+1)=rest:=by have:=congrArg List.tail L;simpa using this
  simp only[wpOps]at h;split at h
  .rename_i t;split at h
   .rename_i d G;obtain⟨e,a1,H1,u,x⟩:=mJ rest (k+1) _ H hd' h;refine⟨e,a1,H1,?_,x⟩;intro ρ w F n Q j g i r c m;simp only[zA9,List.range'_succ,wpOpsIn,E];rw[gS ρ t,if_pos rfl];obtain⟨y,I⟩:=Az r c G;refine⟨fun f _=>j.fn f,?_⟩;rw[g];simp only[Option.map_none];rw[Oper.semAt_none,y];have z:=km ρ ⟨a.env,d::a.defers⟩ o.dst undef;rw[Ren.val_undef]at z
    have J:js H.next ⟨a.env,d::a.defers⟩:=⟨c.1,fun M hd'=>by
     rcases zA8.1 hd' with rfl|hd'
     .exact I
     .exact c.2 M hd'⟩
    have:=u ρ w F n Q j g i r (J.put _ (eY _)) m;rw[<-z]at this;exact this
   .obtain⟨out,H2,B,p⟩:=BJ (o:=o) h
    cases out with
    |ok v =>simp only at p;obtain⟨e,a1,H1,u,x⟩:=mJ rest (k+1) _ H2 hd' p;refine⟨e,a1,H1,?_,x⟩;intro ρ w F n Q j g i r c m;simp only[zA9,List.range'_succ,wpOpsIn,E];rw[gS ρ t,if_pos rfl];refine B ρ w r c _ (fun _ _=>rfl) F n _ _ j ?_;intro q w1 b s;rw[<-gM b.ext c,km];refine u q w1 F n Q j (qJ g i b) (fun l O=>zE0 (i l O) b.le.next) b.rel ((c.mono b.le.next).put _ s) ?_;intro K R C S T;exact m K R (b.trans C) S T
    |error U =>refine⟨.panic U,a,H2,?_,p⟩;intro ρ w F n Q j g i r c m;simp only[zA9,List.range'_succ,wpOpsIn,E];rw[gS ρ t,if_pos rfl];refine B ρ w r c _ (fun _ _=>rfl) F n _ _ j ?_;intro q w1 b s;have:=m q w1 b (c.mono b.le.next) s;rw[gM b.ext c]at this;exact this
  .rename_i t;obtain⟨e,a1,H1,u,x⟩:=mJ rest (k+1) _ H hd' h;refine⟨e,a1,H1,?_,x⟩;intro ρ w F n Q j g i r c m;simp only[zA9,List.range'_succ,wpOpsIn,E];rw[gS ρ t];simp only[zD2,if_false];refine⟨fun f _=>j.fn f,?_⟩;have z:=km ρ a o.dst undef;rw[Ren.val_undef]at z;rw[z];exact u ρ w F n Q j g i r (c.put _ (eY _)) m
  .exact h.elim
def cI(P:ip)(ops:Array Oper)(anc:List Nat):List Oper->Nat->List Fp->ah->aa->(ah->aa->Prop)->Prop
 |[],_,_,a,H,Q=>Q a H
 |o::rest,i,b,a,H,Q =>
  match cN ops a o with
  |some bv=>∃ F v g,HX P a (H.restrict F) o (.ok v) g/\(∀ n∈F,H.get n≠bi)/\(∀ n∈g.dirty,n∈F)/\(∀ r∈b,vd (anc.getD i 0) F v g H.next r=bv) /\
    cI P ops anc rest (i+1) (⟨i,F,g.dirty,H.next,g.next⟩::b) (a.put o.dst v) (H.merge g) Q
  |some ci=>cI P ops anc rest (i+1) b (a.put o.dst undef) H Q
  |none=>False
def pW{ops:Array Oper}{anc:List Nat}{Q:ah->aa->Prop}:∀(rest:List Oper)(k:Nat)(b:List Fp)(a:ah)(H:aa),
  (∃ ys,ops.toList.drop k=rest++ys)->cI P ops anc rest k b a H Q ->
  ∃ (D:Nat->wH) (A:Nat->ah) (HH:Nat->aa),A k=a/\HH k=H/\Q (A (k+rest.length)) (HH (k+rest.length)) /\
   (∀ i,k<=i->i<k+rest.length->lD P ops D A HH i) /\
   (∀ i j,k<=i->i<j->j<k+rest.length->(D i).on=bv->cZ anc D HH j (rz D HH i)) /\
   (∀ r∈b,∀ j,k<=j->j<k+rest.length->cZ anc D HH j r)/\(∀ i,(D i).bad=ci)
 |[],k,b,a,H,_,h=>by
  refine⟨fun _=>⟨ci,undef,[],H,ci⟩,fun _=>a,fun _=>H,rfl,rfl,h,?_,?_,?_,fun _=>rfl⟩
  .intro i t l; simp at l; omega
  .intro i j t l u; simp at u; omega
  .intro r _ j t l; simp at l; omega
 |o::rest,k,b,a,H,G,h=>by
  obtain⟨ys,G⟩:=G;have T:ops[k]?=a9 o:=by have:=congrArg (·[0]?) G;simpa using this
  have J:∃ ys,ops.toList.drop (k+1)=rest++ys:=⟨ys,by
   have:=congrArg List.tail G
   simpa using this⟩
  have m:∀(d:wH)(c:List Fp)(H2:aa),(∀ r∈b,r∈c)->cI P ops anc rest (k+1) c (a.put o.dst d.v) H2 Q ->
    cN ops a o=a9 d.on->d.bad=ci ->
    (d.on=bv->HX P a (H.restrict d.F) o (.ok d.v) d.g/\(∀ n∈d.F,H.get n≠bi)/\(∀ n∈d.g.dirty,n∈d.F)/\H2=H.merge d.g/\(⟨k,d.F,d.g.dirty,H.next,d.g.next⟩:Fp)∈c /\
     ∀ r∈b,vd (anc.getD k 0) d.F d.v d.g H.next r=bv) ->
    (d.on=ci->d.v=undef/\H2=H) ->
    ∃ (D:Nat->wH) (A:Nat->ah) (HH:Nat->aa),A k=a/\HH k=H/\Q (A (k+(o::rest).length)) (HH (k+(o::rest).length)) /\
     (∀ i,k<=i->i<k+(o::rest).length->lD P ops D A HH i) /\
     (∀ i j,k<=i->i<j->j<k+(o::rest).length->(D i).on=bv->cZ anc D HH j (rz D HH i)) /\
     (∀ r∈b,∀ j,k<=j->j<k+(o::rest).length->cZ anc D HH j r)/\(∀ i,(D i).bad=ci):=by
   intro d c H2 x y p z q B;obtain⟨D,A,HH,U,O,V,W,X,R,Y⟩:=pW rest (k+1) c _ H2 J y;have f:k+(o::rest).length=k+1+rest.length:=by simp only[zA9]; omega
   refine⟨fun i=>if i=k then d else D i,fun i=>if i=k then a else A i,fun i=>if i=k then H else HH i,by simp,by simp,?_,?_,?_,?_,fun i=>by by_cases e:i=k<;>simp[e,z,Y]⟩
   .rw[f]; show Q (if k+1+rest.length=k then a else A (k+1+rest.length)) (if k+1+rest.length=k then H else HH (k+1+rest.length));rw[if_neg lw,if_neg lw]; exact V
   .intro i t l;rw[f]at l;by_cases e:i=k
    .subst e;refine⟨o,T,?_,?_,?_,?_⟩
     .simp only[if_pos,if_neg (show ¬i+1=i by omega)]; rw[U]
     .simp only[if_pos]; exact fun _=>p
     .simp only[if_pos,if_neg (show ¬i+1=i by omega)];intro h; obtain⟨C,E,K,L,_⟩:=q h;exact⟨C,E,K,by rw[O]; exact L⟩
     .simp only[if_pos,if_neg (show ¬i+1=i by omega)];intro h; obtain⟨C,E⟩:=B h;exact⟨C,by rw[O]; exact E⟩
    .obtain⟨o',Z,y2,y3,y4,y5⟩:=W i lw l;refine⟨o',Z,?_,?_,?_,?_⟩
     .simp only[if_neg e,if_neg (show ¬i+1=k by omega)]; exact y2
     .simp only[if_neg e]; exact y3
     .simp only[if_neg e,if_neg (show ¬i+1=k by omega)]; exact y4
     .simp only[if_neg e,if_neg (show ¬i+1=k by omega)]; exact y5
   .intro i j t l u I;rw[f]at u;have S:¬j=k:=by omega
    by_cases e:i=k
    .subst e;simp only[if_pos]at I;obtain⟨_,_,_,_,x5,_⟩:=q I;have:=R _ x5 j lw u;simp only[cZ,rz,if_neg S,if_pos]at this ⊢;exact this
    .simp only[if_neg e]at I;have:=X i j lw l u I;simp only[cZ,rz,if_neg S,if_neg e]at this ⊢;exact this
   .intro r s j t l;rw[f]at l;by_cases e:j=k
    .subst e;simp only[cZ,if_pos];intro h;exact (q h).2.2.2.2.2 r s
    .have:=R r (x r s) j lw l;simp only[cZ,if_neg e]at this ⊢;exact this
  simp only[cI]at h;split at h
  .rename_i M;obtain⟨F,v,g,C,E,K,L,h⟩:=h;exact m ⟨bv,v,F,g,ci⟩ _ _ (fun r s=>zB9 _ s) h M rfl (fun _=>⟨C,E,K,rfl,zF2 ..,L⟩) (fun h=>by cases h)
  .rename_i M;exact m ⟨ci,undef,[],H,ci⟩ b H (fun r s=>s) h M rfl (fun h=>by cases h) (fun _=>⟨rfl,rfl⟩)
  .exact h.elim
def Ej(d:P.follows .mixedOrders=bv){ops:Array Oper}{id:Nat}(l:iF ops=bv){Q:ah->aa->Prop}(h:cI P ops (iZ ops) ops.toList 0 [] a H Q) :
  ∃ a1 H1,dI P ro (.region id ops bv) a H .normal a1 H1/\Q a1 H1:=by
 obtain⟨D,A,HH,p,f,v,x,y,_,c⟩:=pW ops.toList 0 [] a H ⟨[],by simp⟩ h;simp only[zC2,Array.length_toList]at v x y;refine⟨_,_,?_,v⟩;intro ρ w F n Q J K L r z M;have b:∀ i,i<ops.size->lD P ops D A HH i:=fun i hi=>x i (zB7 _) hi;have g:=yL r (ops:=ops) (D:=D) (A:=A) (HH:=HH) (m:=ops.size) f (by rw[p]; exact z) b;have T:mo P ops D A HH ρ w:=by refine⟨by rw[f]; exact r,by rw[f,p]; exact z,b,fun i j q O hi=>y i j (zB7 _) q O hi,fun j B s=>kR ops.toList 0 nl l j B (zB7 _) s,?_⟩;rw[f]; exact g
 obtain⟨R,U,C,t⟩:=g ops.size (zA4 _);refine wpIn_region_any d ?_;have k:∀ j,bP (Array.replicate ops.size ci) j=false:=fun j=>by unfold bP;rw[Array.getD_eq_getD_getElem?,Array.getElem?_replicate];split<;>rfl
 obtain⟨I,S⟩:=rh (w:={w with drawn:=w.drawn+1}) T k rfl rfl rfl rfl
 have:=yJ T (n:=n) J (Q:=Q) (fun i hi h=>by rw[c]at h; cases h) (fun i o hi h=>by rw[c]at h; cases h) (fun _ u w1 E=>by
  rw[f]at E
  exact M u w1 E t trivial) ops.size (Array.replicate ops.size ci) ρ _ nl (by unfold left; exact zC4 (List.length_filter_le _ _) nl) (fun j B _ G=>by rw[k]at G; cases G) (fun j _=>c j) I
 rw[S,p]at this;exact this
def w8:Op->Bool
 |.defer _=>bv
 |_=>ci
def Bz(f:P.follows .mixedOrders=bv){ops:Array Oper}{id:Nat}(k:iF ops=bv){l:List Oper}{o:Oper}(b:ops.toList=l++[o])
  (g:(List.range (ops.size-1)).all (fun j=>((iZ ops).getD (ops.size-1) 0).testBit j)=bv) (m:w8 o.op=ci) {Q:Exit->ah->aa->Prop} (h:cI P ops (iZ ops) l 0 [] a H fun a1 H1=>cN ops a1 o=a9 bv/\wpOps P ro ops [o] a1 H1 Q) :
  ∃ e a1 H1,dI P ro (.region id ops bv) a H e a1 H1/\Q e a1 H1:=by
 obtain⟨D,A,HH,e1,e2,⟨t,p⟩,f1,f2,_,hnb⟩:=pW l 0 [] a H ⟨[o],by simpa using b⟩ h;obtain⟨a2,d⟩:=ac (A (0+l.length));obtain⟨H2,i⟩:=ac (HH (0+l.length));rw[d,i]at p;rw[d]at t
 have q:Bv P o.op a2 H2 (fun out H1=>match out with
   |.ok v=>wpOps P ro ops [] (a2.put o.dst v) H1 Q
   |.error u=>Q (.panic u) a2 H1)->∃ e a1 H1,dI P ro (.region id ops bv) a H e a1 H1/\Q e a1 H1:=by
  intro x;obtain⟨out,J,s,K⟩:=BJ (o:=o) x
  cases out with
  |ok v =>refine⟨.normal,a2.put o.dst v,J,?_,K⟩;intro ρ w F n L y z B r C E;exact Mp f k b g e1 e2 d i f1 f2 hnb t s r C y (fun G w1 M O=>E G w1 M O trivial)
  |error u =>refine⟨.panic u,a2,J,?_,K⟩;intro ρ w F n L y z B r C E;exact yQ f k b g e1 e2 d i f1 f2 hnb t s r C y E
 simp only[wpOps,t]at p
 have I:p8 P a2 o.op=none:=by
  cases x:o.op with
  |defer c=>rw[x]at m; cases m
  |_=>rfl
 rw[I]at p
 cases ro with
 |none=>exact q p
 |some r=>exact q p
def B2:Option Code->Option Exit
 |none=>a9 .normal
 |some .ret=>a9 .ret
 |some (.exit id)=>a9 (.exit id)
 |some (.goto l)=>a9 (.goto l)
 |_=>bi
def tf(P:ip)(ro:Option Nat)(h:go)(ps:Array Tmp)(c d:Code)(a:ah)(H:aa)(Q:Exit->ah->aa->Prop):Prop :=
 match h with
 |.func fn first b =>
  (match enterLoop ro a ps c d H with
  |some (l,mark,H1) =>
   (match fe P H1 fn (first.toList++[.func (.yield l) #[] #[]]) b.toList with
   |some (.enter g args)=>bF P g args H1 fun out H2=>match out with
    |.ok _=>∃ f le e,getLoop H2 l=a9 (f,le)/\f.state≠.busy/\B2 f.pending=a9 e/\Q e ⟨a.env,mark++a.defers⟩ (cu H2 l {f with state:=.exhausted} le)
    |.error i=>Q (.panic i) ⟨a.env,mark++a.defers⟩ H2
   |_=>False)
  |none=>False)
 |_=>False
def dI.Wq{c:Code}{e:Exit}(h:B2 (a9 c)=a9 e):dI P ro c a H e a H:=by
 unfold B2 at h;split at h
 .rename_i b; cases b
 .rename_i b; cases b; simp only[i8]at h; subst h; exact dI.ret
 .rename_i b; cases b; simp only[i8]at h; subst h; exact dI.exit
 .rename_i b; cases b; simp only[i8]at h; subst h; exact dI.goto
 .cases h
def Eu{g:i7}{fv:go}{ps:Array Tmp}{k p:Code}{Q:Exit->ah->aa->Prop}(hg:aO P a g=a9 fv)(h:tf P ro fv ps k p a H Q) :
  ∃ e a1 H1,dI P ro (.rangeFunc g ps k p) a H e a1 H1/\Q e a1 H1:=by
 unfold tf at h;split at h
 .rename_i fn first i
  split at h
  .rename_i l mark H2 hen;split at h
   .rename_i f args y;obtain⟨out,u,I,h⟩:=h
    have S:∀(e:Exit)(H1:aa),(match out with
      |.ok _=>∃ m le,getLoop u l=a9 (m,le)/\m.state≠.busy/\B2 m.pending=a9 e/\H1=cu u l {m with state:=.exhausted} le
      |.error ch=>e=.panic ch/\H1=u)->dI P ro (.rangeFunc g ps k p) a H e ⟨a.env,mark++a.defers⟩ H1:=by
     intro e H1 z ρ w F n Q hF T J r hs hQ;refine wpIn_rangeFunc (fun U _=>?_);obtain⟨b,w1,K,V,hl,hmk⟩:=rJ r J hs.1 hen U;obtain⟨ρ2,w2,s2,B⟩:=nf K.rel y;have C:=cS r.glob.1 hs hg;have L:=EO (cU K.le.next _ C);have W:aT H2.next args=true:=oI K.rel.Jp L.1 (cb L.2.1 (by simp only[aT,aV,fL,Bool.and_true]; exact bd hl)) L.2.2 y;have hfv:(ρ.act a).eval g=b.val (.func fn first i):=by rw[aL r hg,je K.ext _ C]
     have e1:b.val (.func fn first i)=.func (b.fn fn) (first.map b.val) (i.map b.val):=by rw[Ren.val,Ren.ed,Ren.ed]
     have e2:first.map b.val++#[(.func (.yield (b.blk l)) #[] #[]:go)]=((first.toList++[(.func (.yield l) #[] #[]:go)]).map b.val).toArray:=by apply Array.ext';simp[Ren.val,Ren.fn,Ren.eV,Ren.iU]
     have e3:i.map b.val=(i.toList.map b.val).toArray:=by apply Array.ext'; simp
     simp only[iO]at B;have X:js H2.next a:=hs.mono K.le.next
     have Y:js H2.next {a with defers:=mark++a.defers}:=⟨X.1,fun d hd=>by
      rcases zB1.1 hd with hd|hd
      .exact hmk d hd
      .exact X.2 d hd⟩
     have q:({ρ.act a with defers:=mark.map b.tq++(ρ.act a).defers}:Act)=b.act {a with defers:=mark++a.defers}:=by
      have R:=gM K.ext hs;have Z:(ρ.act a).tmps=b.tmps a.env:=by rw[<-R]; rfl
      have h3:(ρ.act a).defers=a.defers.map b.tq:=by rw[<-R]; rfl
      show (⟨(ρ.act a).tmps,mark.map b.tq++(ρ.act a).defers⟩:Act)=⟨b.tmps a.env,(mark++a.defers).map b.tq⟩
      rw[Z,h3,List.map_append]
     refine⟨b.blk l,mark.map b.tq,w1,{target:=.fn (b.fn fn) (i.map b.val),args:=first.map b.val++#[(.func (.yield (b.blk l)) #[] #[]:go)]},w1,f,_,w2,?_,?_,fun f' _=>hF.fn f',?_,hF.deep,I ρ2 w2 s2.rel W F _ _ hF ?_⟩
     .rw[T]; exact V
     .simp only[resolve,hfv,e1];simp[Act.eval,Deferred.ofValue]
     .simp only[e2,e3]; exact B
     .intro j w3 s3;have hn2:H2.next<=u.next:=(s2.trans s3).le.next;have hl3:l<u.next:=by omega
      have hlb:j.blk l=b.blk l:=((s2.trans s3).ext.blk l hl)
      have M:js u.next {a with defers:=mark++a.defers}:=Y.mono hn2;have s:j.act {a with defers:=mark++a.defers}=b.act {a with defers:=mark++a.defers}:=gM (s2.trans s3).ext Y;have o:=(K.trans s2).trans s3
      cases out with
      |ok v =>
       obtain⟨m,le,hlp,hnb,t,rfl⟩:=z;obtain⟨fn3,hgl,w4,E,s4⟩:=mL s3.rel (lp':={m with state:=.exhausted}) hlp rfl;rw[hlb]at hgl E;have x:(cu u l {m with state:=.exhausted} le).next=u.next:=rfl
       have O:(Instr.endLoop (b.blk l)).run P w3=.ok m.pending w4:=by
        have hb:(m.state == .busy)=false:=by simpa using hnb
        simp only[Instr.endLoop,Sem.run_bind,hgl,Result.andThen_ok,hb,zD2,if_false]
        rw[show ({({m with fn:=fn3,tmps:=j.tmps le,defers:=j.blk m.defers}:Loop) with state:=.exhausted}:Loop) =
         {({m with state:=.exhausted}:Loop) with fn:=fn3,tmps:=j.tmps le,defers:=j.blk m.defers} from rfl,E]
        simp
       intro _;refine⟨m.pending,w4,O,?_⟩;rw[q,<-s];have G:∀ l0,ro=a9 l0->l0<(cu u l {m with state:=.exhausted} le).next:=fun l0 h0=>by rw[x]; exact zE0 (J l0 h0) o.le.next
       have hFr4:F.round=ro.map j.blk:=qJ T J o;generalize cu u l {m with state:=.exhausted} le=H4 at s4 x G hQ;split
       .rename_i hpn;rw[hpn]at t;simp only[B2,i8]at t;subst t;exact hQ j w4 (o.trans s4) (M.mono (zF6 x.symm)) trivial
       .rename_i c hpc;rw[hpc]at t;refine dI.Wq (P:=P) (ro:=ro) t j w4 F n Q hF hFr4 G s4.rel (M.mono (zF6 x.symm)) ?_;intro ρ5 w5 s5 R Z;exact hQ ρ5 w5 ((o.trans s4).trans s5) R Z
      |error ch =>intro hch;obtain⟨rfl,rfl⟩:=z;show Q (.panic (ch.map j.pe)) _ w3;rw[q,<-s];exact hQ j w3 o M hch
    cases out with
    |ok v =>obtain⟨m,le,e,R,Z,h3,h4⟩:=h;exact⟨e,_,_,S e _ ⟨m,le,R,Z,h3,rfl⟩,h4⟩
    |error ch=>exact⟨_,_,_,S _ _ ⟨rfl,rfl⟩,h⟩
   .exact h.elim
  .exact h.elim
 .exact h.elim
def lM(W:(Exit->ah->aa->Prop)->ah->aa->Prop)(Q:Exit->ah->aa->Prop):Nat->ah->aa->Prop
 |0,_,_=>False
 |m+1,a,H=>W (fun e a1 H1=>match e with
  |.normal=>lM W Q m a1 H1
  |e=>Q e a1 H1) a H
def Bw(W:ah->aa->Prop)(Q:Exit->ah->aa->Prop):Exit->ah->aa->Prop
 |.normal,a,H=>W a H
 |e,a,H=>Q e a H
def UP(Q:Exit->ah->aa->Prop):Exit->ah->aa->Prop
 |.goto _,_,_=>False
 |e,a,H=>Q e a H
def KH(v:Option go)(X Y:Prop):Prop :=
 match v with
 |some (ls bv)=>X
 |some (ls ci)=>Y
 |_=>False
def gL(P:ip)(ro:Option Nat):Code->(Exit->ah->aa->Prop)->ah->aa->Prop
 |.skip,Q,a,H=>Q .normal a H
 |.label _,Q,a,H=>Q .normal a H
 |.exit id,Q,a,H=>Q (.exit id) a H
 |.goto l,Q,a,H=>Q (.goto l) a H
 |.ret,Q,a,H=>Q .ret a H
 |.seq x y,Q,a,H=>gL P ro x (Bw (fun a1 H1=>gL P ro y Q a1 H1) Q) a H
 |.cond c x y,Q,a,H=>KH (aO P a c) (gL P ro x Q a H) (gL P ro y Q a H)
 |.block id b,Q,a,H=>gL P ro b (fun e a1 H1=>Q (E7 id e) a1 H1) a H
 |.scope b,Q,a,H=>gL P ro b (UP Q) a H
 |.loop b,Q,a,H=>∃ m,lM (fun i k n=>gL P ro b i k n) Q m a H
 |.region _ ops g,Q,a,H=>(match g with
  |true=>iF ops=bv/\(cI P ops (iZ ops) ops.toList 0 [] a H (Q .normal)\/∃ l o,ops.toList=l++[o]/\(List.range (ops.size-1)).all (fun j=>((iZ ops).getD (ops.size-1) 0).testBit j)=bv/\w8 o.op=ci/\cI P ops (iZ ops) l 0 [] a H fun a1 H1=>cN ops a1 o=a9 bv/\wpOps P ro ops [o] a1 H1 Q)
  |false=>wpOps P ro ops ops.toList a H Q)
 |.rangeFunc f ps d h,Q,a,H=>(match aO P a f with
  |some p=>tf P ro p ps d h a H Q
  |none=>False)
 |.refuse _,_,_,_=>False
def vt(g:P.follows .mixedOrders=bv):∀(c:Code)(Q:Exit->ah->aa->Prop)(a:ah)(H:aa),gL P ro c Q a H->∃ e a1 H1,dI P ro c a H e a1 H1/\Q e a1 H1:=by
 intro c
 induction c with
 |skip=>exact fun Q a H h=>⟨_,_,_,dI.skip,h⟩
 |label l=>exact fun Q a H h=>⟨_,_,_,dI.label,h⟩
 |exit id=>exact fun Q a H h=>⟨_,_,_,dI.exit,h⟩
 |goto l=>exact fun Q a H h=>⟨_,_,_,dI.goto,h⟩
 |ret=>exact fun Q a H h=>⟨_,_,_,dI.ret,h⟩
 |seq x y i j =>
  intro Q a H h;simp only[gL]at h;obtain⟨e,a2,H2,hx,d⟩:=i _ a H h
  cases e with
  |normal =>obtain⟨e,a1,H1,v,z⟩:=j Q a2 H2 d;exact⟨e,a1,H1,hx.seq v,z⟩
  |exit id=>exact⟨_,a2,H2,hx.tv nl,d⟩
  |goto l=>exact⟨_,a2,H2,hx.tv nl,d⟩
  |ret=>exact⟨_,a2,H2,hx.tv nl,d⟩
  |panic S=>exact⟨_,a2,H2,hx.tv nl,d⟩
  |outgrown=>exact⟨_,a2,H2,hx.tv nl,d⟩
 |cond c x y i j =>
  intro Q a H h;simp only[gL,KH]at h;split at h
  .rename_i B;obtain⟨e,a1,H1,hx,d⟩:=i Q a H h;exact⟨e,a1,H1,dI.cond B hx,d⟩
  .rename_i B;obtain⟨e,a1,H1,hx,d⟩:=j Q a H h;exact⟨e,a1,H1,dI.cond B hx,d⟩
  .exact h.elim
 |block id b k =>intro Q a H h;simp only[gL]at h;obtain⟨e,a1,H1,hx,d⟩:=k _ a H h;exact⟨_,a1,H1,hx.block,d⟩
 |scope b k =>
  intro Q a H h;simp only[gL]at h;obtain⟨e,a1,H1,hx,d⟩:=k _ a H h
  cases e with
  |goto l=>exact d.elim
  |normal=>exact⟨_,a1,H1,hx.scope nl,d⟩
  |exit id=>exact⟨_,a1,H1,hx.scope nl,d⟩
  |ret=>exact⟨_,a1,H1,hx.scope nl,d⟩
  |panic S=>exact⟨_,a1,H1,hx.scope nl,d⟩
  |outgrown=>exact⟨_,a1,H1,hx.scope nl,d⟩
 |loop b k =>
  intro Q a H h;simp only[gL]at h;obtain⟨m,h⟩:=h
  have C:∀(m:Nat)(a:ah)(H:aa),lM (fun E U V=>gL P ro b E U V) Q m a H->∃ e a1 H1,jb P ro b m a H e a1 H1/\Q e a1 H1:=by
   intro m
   induction m with
   |zero=>exact fun a H h=>h.elim
   |succ m G =>
    intro a H h;simp only[lM]at h;obtain⟨e,a2,H2,hx,d⟩:=k _ a H h
    cases e with
    |normal =>obtain⟨e,a1,H1,v,z⟩:=G a2 H2 d;exact⟨e,a1,H1,v.next hx,z⟩
    |exit id=>exact⟨_,a2,H2,jb.last hx nl,d⟩
    |goto l=>exact⟨_,a2,H2,jb.last hx nl,d⟩
    |ret=>exact⟨_,a2,H2,jb.last hx nl,d⟩
    |panic S=>exact⟨_,a2,H2,jb.last hx nl,d⟩
    |outgrown=>exact⟨_,a2,H2,jb.last hx nl,d⟩
  obtain⟨e,a1,H1,hx,d⟩:=C m a H h;exact⟨e,a1,H1,dI.loop hx,d⟩
 |region id ops p =>
  intro Q a H h;simp only[gL]at h
  cases p with
  |true =>
   obtain⟨q,h|⟨l,o,I,t,J,h⟩⟩:=h
   .obtain⟨a1,H1,K,L⟩:=Ej (ro:=ro) (id:=id) g q h;exact⟨_,a1,H1,K,L⟩
   .exact Bz g q I t J h
  |false =>obtain⟨e,a1,H1,K,L⟩:=mJ ops.toList 0 a H nl h;refine⟨e,a1,H1,?_,L⟩;intro ρ w F n E W M O r X Y;refine wpIn_region ?_;rw[List.range_eq_range'];have:=K ρ w F n E W M O r X Y;simpa using this
 |rangeFunc f ps u T _ _ =>
  intro Q a H h;simp only[gL]at h;split at h
  .rename_i Z R;exact Eu R h
  .exact h.elim
 |refuse s=>exact fun Q a H h=>h.elim
def rC(P:ip):Rec:=exec P (fun _ _ _=>bi) 60
def Jq(b:P.follows .mixedOrders=bv):Sound P (rC P):=(A4 b (fun _ _ _ _ h=>(by cases h)) 60).1
def ft(P:ip)(fn:Func)(a1:ah):List Deferred->FrameMode->aa->(Out->aa->Prop)->Prop
 |[],.returning,H,R=>∃ vs,dw P H a1 fn.results.toList=a9 vs/\R (.ok (Ev vs)) H
 |[],.panicking d,H,R=>R (.error d) H
 |⟨.collected r,_⟩::b,.returning,H,R=>(∃ o v,H.get r=a9 ⟨.deferred (a9 []),o,v⟩)/\ft P fn a1 b .returning (H.cH r (a9 ⟨.deferred bi,ci,⟨[],0⟩⟩)) R
 |⟨.collected r,_⟩::b,.panicking d,H,R=>(∃ o v,H.get r=a9 ⟨.deferred (a9 []),o,v⟩)/\ft P fn a1 b (.panicking d) (H.cH r (a9 ⟨.deferred bi,ci,⟨[],0⟩⟩)) R
 |⟨.fn (.func f) cap,c⟩::b,.returning,H,R=>aD P f=bv/\∃ v g H1,nB P (rC P) f (c.toList++cap.toList) .returning H=a9 (.ok v,g,H1)/\ft P fn a1 b (settle g) H1 R
 |⟨.fn (.func f) cap,c⟩::b,.panicking d,H,R=>aD P f=bv/\∃ v g H1,nB P (rC P) f (c.toList++cap.toList) (.panicking d) H=a9 (.ok v,g,H1)/\ft P fn a1 b (settle g) H1 R
 |_,_,_,_=>False
def Nc(P:ip)(fn:Func)(R:Out->aa->Prop):Exit->ah->aa->Prop
 |.normal,a1,H1=>ft P fn a1 a1.defers .returning H1 R
 |.ret,a1,H1=>ft P fn a1 a1.defers .returning H1 R
 |.panic b,a1,H1=>ft P fn a1 a1.defers (.panicking b) H1 R
 |_,_,_=>False
def jJ{fn:Func}{R:Out->aa->Prop}:∀(b:List Deferred)(u:FrameMode)(H:aa),ft P fn a1 b u H R->∃ out H1,dS P (rC P) fn a1 b u H=a9 (out,H1)/\R out H1
 |[],.returning,H,⟨vs,c,m⟩=>⟨_,_,by simp only[dS,c,zB2]; exact⟨rfl,m⟩⟩
 |[],.panicking i,H,h=>⟨_,_,rfl,h⟩
 |[],.run,H,h=>h.elim
 |⟨.collected r,_⟩::b,.returning,H,⟨⟨o,v,j⟩,h⟩=>by obtain⟨out,H1,c,d⟩:=jJ b .returning _ h;exact⟨out,H1,by simp only[dS,j]; exact c,d⟩
 |⟨.collected r,_⟩::b,.panicking i,H,⟨⟨o,v,j⟩,h⟩=>by obtain⟨out,H1,c,d⟩:=jJ b (.panicking i) _ h;exact⟨out,H1,by simp only[dS,j]; exact c,d⟩
 |⟨.collected r,_⟩::b,.run,H,h=>h.elim
 |⟨.fn (.func f) cap,g⟩::b,.returning,H,⟨k,v,n,H1,l,h⟩=>by obtain⟨out,H2,c,d⟩:=jJ b _ _ h;exact⟨out,H2,by simp only[dS,k,if_true,l]; exact c,d⟩
 |⟨.fn (.func f) cap,g⟩::b,.panicking i,H,⟨k,v,n,H1,l,h⟩=>by obtain⟨out,H2,c,d⟩:=jJ b _ _ h;exact⟨out,H2,by simp only[dS,k,if_true,l]; exact c,d⟩
 |⟨.fn (.func f) cap,g⟩::b,.run,H,h=>h.elim
 |⟨.fn (.yield _) _,_⟩::_,u,H,h=>by cases u<;>exact h.elim
 |⟨.nil,_⟩::_,u,H,h=>by cases u<;>exact h.elim
 |⟨.builtin ..,_⟩::_,u,H,h=>by cases u<;>exact h.elim
 |⟨.coroexit ..,_⟩::_,u,H,h=>by cases u<;>exact h.elim
def bF.mono{f:FuncId}{args:List go}{R b:Out->aa->Prop}(h:bF P f args H R)(c:∀ out H1,R out H1->b out H1):bF P f args H b :=
 let ⟨out,H1,d,g⟩:=h; ⟨out,H1,d,c _ _ g⟩
end
abbrev Env:=Nat->go
def cH(E:Env)(d:Nat)(v:go):Env:=fun t=>if t=d then v else E t
def AM(E:Env)(d:Nat)(v:go):cH E d v d=v:=by simp[cH]
def AT(E:Env){d t:Nat}(v:go)(h:t≠d):cH E d v t=E t:=by simp[cH,h]
def Sc:Env:=fun _=>undef
def gE(E:Env)(k:Nat):List go->Env
 |[]=>E
 |v::r=>gE (cH E k v) (k+1) r
def chunk(E:Env)(k m:Nat):List Value:=(List.range m).map fun i=>E (k+i)
def chunks(E:Env)(k:Nat):Nat->List (List go)
 |0=>[]
 |m+1=>chunk E k 16::chunks E (k+16) m
def lj(N:Nat)(E:Env):RV:=⟨chunks (fun t=>if t<N then E t else undef) 0 (N / 16+1),N⟩
def sQ(E:Env):∀(m k i:Nat),i<m->(chunks E k m).getD i []=chunk E (k+16*i) 16
 |0,_,_,h=>by omega
 |m+1,k,0,_=>by simp[chunks]
 |m+1,k,i+1,h=>by have:=sQ E m (k+16) i lw;simp only[chunks,List.getD_cons_succ,this];congr 1; omega
def Mf(E:Env)(k m i:Nat)(h:i<m):(chunk E k m).getD i undef=E (k+i):=by simp[chunk,List.getD,h]
def HK(N:Nat)(E:Env)(t:Nat)(h:t<N):(lj N E).get t=E t:=by
 unfold lj RV.get;simp only;rw[sQ _ _ _ _ (by have:=Nat.div_le_div_right (c:=16) (Nat.le_of_lt h); omega),Mf _ _ _ _ (Nat.mod_lt _ lw)];have:0+16*(t / 16)+t % 16=t:=by omega
 rw[this,if_pos h]
def bu(N:Nat)(E:Env)(b:List Deferred):ah:=⟨lj N E,b⟩
def Rc{α:Type}(d:α)(f:Nat->α)(v:α):∀(m i:Nat),i<m->gN d ((List.range m).map f) i v=(List.range m).map fun j=>if j=i then v else f j:=by
 intro m i h;apply List.ext_getElem?;intro j
 have b:∀(l:List α)(i:Nat),i<l.length->∀ j:Nat,(gN d l i v)[j]?=if j=i then a9 v else l[j]?:=by
  intro l
  induction l with
  |nil=>intro i h; simp at h
  |cons x l g =>
   intro i h j
   cases i with
   |zero=>cases j<;>simp[gN]
   |succ i =>
    cases j with
    |zero=>simp[gN]
    |succ j=>simp only[gN,zH8]; rw[g i (by simpa using h) j]; simp
 rw[b _ i (by simpa using h) j];by_cases e:j=i
 .subst e; simp[h]
 .rw[if_neg e];simp only[zG0];by_cases c:j<m
  .simp[c,e]
  .simp[c]
def Bi(E:Env)(d:Nat)(v:go):∀(m k i:Nat),i<m->(∀ t,k+16*i<=t->t<k+16*i+16->True)->k+16*i<=d->d<k+16*i+16 ->
  gN [] (chunks E k m) i (gN undef (chunk E (k+16*i) 16) (d-(k+16*i)) v)=chunks (cH E d v) k m
 |0,_,_,h,_,_,_=>by omega
 |m+1,k,0,_,_,c,f=>by
  simp only[chunks,gN,Nat.mul_zero,zD5]at *
  congr 1
  .rw[chunk,Rc _ _ _ _ _ lw,chunk];apply List.map_congr_left;intro j b;have b:=zF7.1 b;simp only[cH];by_cases e:k+j=d
   .rw[if_pos lw,if_pos e]
   .rw[if_neg lw,if_neg e]
  .have:∀(m k:Nat),d<k->chunks E k m=chunks (cH E d v) k m:=by
    intro m
    induction m with
    |zero=>intro k _; rfl
    |succ m g =>intro k l;rw[chunks,chunks,g (k+16) lw];congr 1;unfold chunk;apply List.map_congr_left;intro j _;rw[AT _ _ lw]
   exact this m (k+16) lw
 |m+1,k,i+1,h,n,c,f=>by have:=Bi E d v m (k+16) i lw (fun _ _ _=>trivial) lw lw;simp only[chunks,gN];rw[show k+16*(i+1)=k+16+16*i from by omega,this];congr 1;unfold chunk;apply List.map_congr_left;intro j b;have b:=zF7.1 b;rw[AT _ _ lw]
def AS(N:Nat)(E:Env)(d:Nat)(v:go)(h:d<N):(lj N E).set d v=lj N (cH E d v):=by
 have b:d / 16<N / 16+1:=by have:=Nat.div_le_div_right (c:=16) (Nat.le_of_lt h); omega
 unfold lj RV.set;simp only;rw[sQ _ _ _ _ b];have:=Bi (fun t=>if t<N then E t else undef) d v (N / 16+1) 0 (d / 16) b (fun _ _ _=>trivial) lw lw;rw[show d-(0+16*(d / 16))=d % 16 from by omega]at this;rw[this];congr 2;funext t;simp only[cH];by_cases e:t=d
 .subst e; simp[h]
 .simp[e]
def dK(N:Nat)(E:Env)(b:List Deferred)(d:Nat)(v:go)(h:d<N):(bu N E b).put (a9 d) v=bu N (cH E d v) b:=by have c:Nat.blt d (bu N E b).env.n=true:=bd h;simp only[ah.put_eq,c,if_true];show (⟨(lj N E).set d v,b⟩:ah)=_;rw[AS N E d v h]; rfl
theorem AJ(a:ah)(v:go):a.put bi v=a:=rfl
def A9(N:Nat)(E:Env)(b:List Deferred)(t:Nat)(h:t<N):(bu N E b).tmp t=E t:=by have c:Nat.blt t (bu N E b).env.n=true:=bd h;simp only[ah.tmp,c,if_true];exact HK N E t h
def vA{P:ip}(N:Nat)(E:Env)(b:List Deferred)(t:Nat)(h:t<N):aO P (bu N E b) (.tmp t)=a9 (E t):=by rw[aO,A9 N E b t h]
def Bq:∀(l:List go)(E:Env)(k t:Nat),gE E k l t=if k<=t/\t<k+l.length then l.getD (t-k) undef else E t
 |[],E,k,t=>by rw[gE,if_neg (by simp only[zB4]; omega)]
 |v::r,E,k,t=>by
  rw[gE,Bq r];simp only[zA9];by_cases e:t=k
  .subst e;rw[if_neg lw,if_pos lw,AM,zG8]; rfl
  .by_cases h:k+1<=t/\t<k+1+r.length
   .rw[if_pos h,if_pos lw]
    obtain⟨j,b⟩:∃ j,t-k=j+1:=⟨t-k-1,by omega⟩
    rw[b,List.getD_cons_succ,show t-(k+1)=j from by omega]
   .rw[if_neg h,if_neg lw,AT _ _ e]
section
variable{P:ip}{ro:Option Nat}{H H1:aa}
def dI.congr{c:Code}{a b a1:ah}{e:Exit}(h:dI P ro c b H e a1 H1)(i:∀ ρ:Ren,ρ.act a=ρ.act b)(j:∀ N,js N a->js N b):dI P ro c a H e a1 H1:=by intro ρ w F n Q k d f r g l;rw[i];exact h ρ w F n Q k d f r (j _ g) l
def F6(b:P.follows .mixedOrders=bv){f:FuncId}{args:List go}{fn:Func}{c:Code}{N:Nat}{R:Out->aa->Prop}(k:P.funcs[f]?=a9 fn)(r:fn.body=a9 c)(s:fn.ntmps=N)(v:args.length<=N)
  (h:gL P bi c (Nc P fn R) (bu N (gE Sc 0 args) []) H):bF P f args H R:=by
 obtain⟨e,a1,H2,x,j⟩:=vt b c _ _ _ h
 have q:∀ t,t<N->({RV.ofList args with n:=N}:RV).get t=(lj N (gE Sc 0 args)).get t:=by
  intro t m;rw[HK _ _ _ m,Bq];have o:({RV.ofList args with n:=N}:RV).get t=args.getD t undef:=RV.cM args t;rw[o];by_cases y:t<args.length
  .rw[if_pos lw]; simp
  .rw[if_neg lw,List.getD,zD3 (Nat.not_lt.1 y)]; rfl
 have p:dI P bi c ⟨{RV.ofList args with n:=fn.ntmps},[]⟩ H e a1 H2:=by
  rw[s];refine x.congr (fun ρ=>?_) (fun M z=>?_)
  .refine my ρ ρ rfl rfl (fun t m=>?_);have:=q t m;simp only[bu];rw[this]
  .refine⟨fun i hi=>?_,fun d B=>by cases B⟩;have:=z.1 i hi;rw[q i hi]at this;exact this
 have g:∀(u:FrameMode),ft P fn a1 a1.defers u H2 R->(∀ out H1,dS P (rC P) fn a1 a1.defers u H2=a9 (out,H1)->Nb P (rC P) fn (e,a1,H2)=a9 (out,H1))->bF P f args H R:=by intro u C E;obtain⟨out,H1,o,F⟩:=jJ _ _ _ C;exact⟨out,H1,Ac (Jq b) k r lw p (E out H1 o),F⟩
 cases e with
 |normal=>exact g .returning j (fun _ _ h=>h)
 |ret=>exact g .returning j (fun _ _ h=>h)
 |panic G=>exact g (.panicking G) j (fun _ _ h=>h)
 |exit id=>exact j.elim
 |goto l=>exact j.elim
 |outgrown=>exact j.elim
def IN{x:de}{R c:Out->aa->Prop}(b:∀ out H1,R out H1->c out H1)(h:mO P x H R):mO P x H c:=by
 cases x with
 |value v=>exact b _ _ h
 |skip=>exact b _ _ h
 |enter f args=>exact bF.mono h b
 |round r=>obtain⟨out,H1,d,g⟩:=h; exact⟨out,H1,d,b _ _ g⟩
 |panic v=>exact b _ _ h
def Qz{b:Op}{a:ah}{R c:Out->aa->Prop}(d:∀ out H1,R out H1->c out H1)(h:Bv P b a H R):Bv P b a H c:=by
 unfold Bv at *
 split at h
 .rename_i hx; exact IN d h
 .exact h.elim
def mv{P:ip}{ro:Option Nat}{ops:Array Oper}{Q g:Exit->ah->aa->Prop}(c:∀ e a H,Q e a H->g e a H):∀(l:List Oper)(a:ah)(H:aa),wpOps P ro ops l a H Q->wpOps P ro ops l a H g
 |[],a,H,h=>c _ _ _ h
 |o::rest,a,H,h=>by
  simp only[wpOps]at *
  cases j:cN ops a o with
  |none=>rw[j]at h; exact h.elim
  |some b =>
   rw[j]at h
   cases b with
   |false=>exact mv c rest _ _ h
   |true =>
    simp only at h ⊢
    have f:∀ {H:aa},Bv P o.op a H (fun out H1=>match out with
      |.ok v=>wpOps P ro ops rest (a.put o.dst v) H1 Q
      |.error i=>Q (.panic i) a H1)->Bv P o.op a H (fun out H1=>match out with
      |.ok v=>wpOps P ro ops rest (a.put o.dst v) H1 g
      |.error i=>g (.panic i) a H1):=fun h=>Qz (fun out H1 h=>by
     cases out with
     |ok v=>exact mv c rest _ _ h
     |error i=>exact c _ _ _ h) h
    cases ro with
    |some l=>exact f h
    |none =>
     cases k:p8 P a o.op with
     |none=>rw[k]at h; exact f h
     |some d=>rw[k]at h; exact mv c rest _ _ h
def kE{ops:Array Oper}{anc:List Nat}{Q f:ah->aa->Prop}(d:∀ a H,Q a H->f a H):∀(l:List Oper)(i:Nat)(c:List Fp)(a:ah)(H:aa),cI P ops anc l i c a H Q->cI P ops anc l i c a H f
 |[],_,_,a,H,h=>d _ _ h
 |o::rest,i,c,a,H,h=>by
  simp only[cI]at *
  cases j:cN ops a o with
  |none=>rw[j]at h; exact h.elim
  |some b =>
   rw[j]at h
   cases b with
   |false=>exact kE d rest _ _ _ _ h
   |true =>obtain⟨F,v,g,k,m,n,p,q⟩:=h;exact⟨F,v,g,k,m,n,p,kE d rest _ _ _ _ q⟩
def FR{d:go}{ps:Array Tmp}{b c:Code}{a:ah}{Q f:Exit->ah->aa->Prop}(i:∀ e a H,Q e a H->f e a H)(h:tf P ro d ps b c a H Q):tf P ro d ps b c a H f:=by
 unfold tf at *
 split at h
 .split at h
  .rename_i l mark H1 j;split at h
   .rename_i g args k;refine bF.mono h fun out H2 h=>?_
    cases out with
    |ok v=>obtain⟨m,le,e,n,o,p,q⟩:=h; exact⟨m,le,e,n,o,p,i _ _ _ q⟩
    |error r=>exact i _ _ _ h
   .exact h.elim
  .exact h.elim
 .exact h.elim
def N7{W W':ah->aa->Prop}{Q b:Exit->ah->aa->Prop}(c:∀ a H,W a H->W' a H)(d:∀ e a H,Q e a H->b e a H):∀ e a H,Bw W Q e a H->Bw W' b e a H:=by
 intro e a H h
 cases e with
 |normal=>exact c _ _ h
 |_=>exact d _ _ _ h
def oe:∀(c:Code){Q g:Exit->ah->aa->Prop}(a:ah)(H:aa),(∀ e a H,Q e a H->g e a H)->gL P ro c Q a H->gL P ro c g a H:=by
 intro c
 induction c with
 |skip=>exact fun a H d h=>d _ _ _ h
 |label l=>exact fun a H d h=>d _ _ _ h
 |exit id=>exact fun a H d h=>d _ _ _ h
 |goto l=>exact fun a H d h=>d _ _ _ h
 |ret=>exact fun a H d h=>d _ _ _ h
 |seq x y i j =>
  intro Q g a H d h
  simp only[gL]at *
  exact i a H (N7 (fun a H=>j a H d) d) h
 |cond c x y i j =>
  intro Q g a H d h
  simp only[gL,KH]at *
  split at h
  .rename_i z; exact i a H d h
  .rename_i z; exact j a H d h
  .exact h.elim
 |block id b k =>
  intro Q g a H d h
  simp only[gL]at *
  exact k a H (fun e a H h=>d _ _ _ h) h
 |scope b k =>
  intro Q g a H d h
  simp only[gL]at *
  refine k a H (fun e a H h=>?_) h
  cases e with
  |goto l=>exact h
  |_=>exact d _ _ _ h
 |loop b k =>
  intro Q g a H d h
  simp only[gL]at *
  obtain⟨m,h⟩:=h;refine⟨m,?_⟩
  have q:∀(m:Nat)(a:ah)(H:aa),lM (fun g r t=>gL P ro b g r t) Q m a H->lM (fun g r t=>gL P ro b g r t) g m a H:=by
   intro m
   induction m with
   |zero=>exact fun a H h=>h
   |succ m u =>
    intro a H h
    simp only[lM]at *
    refine k a H (fun e a H h=>?_) h
    cases e with
    |normal=>exact u a H h
    |_=>exact d _ _ _ h
  exact q m a H h
 |region id ops n =>
  intro Q g a H d h
  simp only[gL]at *
  cases n with
  |true =>
   refine⟨h.1,?_⟩
   rcases h.2 with h|⟨l,o,B,C,E,F⟩
   .exact .inl (kE (fun a H=>d _ a H) _ _ _ _ _ h)
   .exact .inr ⟨l,o,B,C,E,kE (fun a H h=>⟨h.1,mv d _ _ _ h.2⟩) _ _ _ _ _ F⟩
  |false=>exact mv d _ _ _ h
 |rangeFunc f ps p v _ _ =>
  intro Q g a H d h
  simp only[gL]at *
  split at h
  .exact FR d h
  .exact h.elim
 |refuse s=>exact fun a H d h=>h.elim
def Qa{b:Code}{Q:Exit->ah->aa->Prop}(I:Nat->ah->aa->Prop){k:Nat}{a:ah}(g:I k a H)
  (h:∀ k a H,I k a H->gL P ro b (Bw (fun a1 H1=>∃ j,j<k/\I j a1 H1) Q) a H):gL P ro (.loop b) Q a H:=by
 have c:∀ m k a H,k<m->I k a H->lM (fun i l n=>gL P ro b i l n) Q m a H:=by
  intro m
  induction m with
  |zero=>intro k a H o; omega
  |succ m p =>
   intro k a H o q;simp only[lM];refine oe b a H (fun e a1 H1 f=>?_) (h k a H q)
   cases e with
   |normal =>obtain⟨j,r,d⟩:=f;exact p j a1 H1 lw d
   |_=>exact f
 exact⟨k+1,c (k+1) k a H (zF3 _) g⟩
def oZ(H:aa)(F:List Nat):H.merge (H.restrict F)=H:=by obtain⟨b,d,c⟩:=aK H F;unfold aa.merge;rw[c,b,zG8];rfl
def jk:Op->Bool
 |.move _=>bv
 |.assign _=>bv
 |.pick _ _ _=>bv
 |.build _ _=>bv
 |.nilCheck _=>bv
 |.unOp _ _ _=>bv
 |.makeInterface _ _=>bv
 |.makeFunc _ _ _=>bv
 |.fieldAddr _ _ _=>bv
 |.field _ _ _=>bv
 |.indexAddr _ _ _=>bv
 |.index _ _ _=>bv
 |.typeAssert _ _ _ _=>bv
 |.extract _ _=>bv
 |_=>ci
def Fl{d:Op}(g:jk d=bv)(a:ah):∃ f:Option de,∀ G:aa,cE d P a G=f.map fun x=>(x,G):=by
 cases d with
 |move x=>exact⟨(aO P a x).map .value,fun G=>by simp only[cE,rI,rv]; cases aO P a x<;>rfl⟩
 |assign x=>exact⟨(aO P a x).map .value,fun G=>by simp only[cE,rI,rv]; cases aO P a x<;>rfl⟩
 |pick c x y =>
  refine⟨(match aO P a c with
   |some (ls bv)=>(aO P a x).map .value
   |some (ls ci)=>(aO P a y).map .value
   |_=>bi),fun G=>?_⟩
  simp only[cE,BI,rv,zA1]
  cases aO P a c with
  |none=>rfl
  |some v =>
   cases v with
   |bool b=>cases b<;>simp only[zA3]<;>(first|cases aO P a x<;>rfl|cases aO P a y<;>rfl)
   |_=>rfl
 |build t ps=>exact⟨((iS P a ps.toList).bind (cY P t)).map .value,fun G=>by
   simp only[cE,vj,rv,zA1]
   cases iS P a ps.toList with
   |none=>rfl
   |some l=>simp only[zA3]; cases cY P t l<;>rfl⟩
 |nilCheck x=>exact⟨(aO P a x).bind fun v=>(By P (aa.none 0) v).map (·.1),fun G=>by
   simp only[cE,MN,zA1]
   cases aO P a x with
   |none=>rfl
   |some v =>
    simp only[zA3];unfold By
    split<;>rfl⟩
 |unOp d t x=>exact⟨(aO P a x).bind fun v=>(Ve P (aa.none 0) d v).map (·.1),fun G=>by
   simp only[cE,U8,zA1]
   cases aO P a x with
   |none=>rfl
   |some v =>
    simp only[zA3];unfold Ve;split
    .rfl
    .rfl
    .split
     .simp only[Option.map_map]; cases la P (Op.unary d v)<;>rfl
     .rfl⟩
 |makeInterface t x=>exact⟨(aO P a x).bind fun v=>(vu P (aa.none 0) t v).map (·.1),fun G=>by
   simp only[cE,A1,zA1]
   cases aO P a x with
   |none=>rfl
   |some v=>simp only[zA3]; unfold vu; split<;>rfl⟩
 |makeFunc fn p q=>exact⟨(fJ P a p.toList).bind fun u=>(fJ P a q.toList).bind fun v=>(Ck (aa.none 0) fn u v).map (·.1),fun G=>by
   simp only[cE,Ht,zA1]
   cases fJ P a p.toList with
   |none=>rfl
   |some u =>
    cases fJ P a q.toList with
    |none=>rfl
    |some v=>simp only[zA3]; unfold Ck; split<;>rfl⟩
 |fieldAddr t x f=>exact⟨(aO P a x).bind fun v=>(aJ P t v f).map .value,fun G=>by
   simp only[cE,j5,rv,zA1]
   cases aO P a x with
   |none=>rfl
   |some v=>simp only[zA3]; cases aJ P t v f<;>rfl⟩
 |field t x f=>exact⟨(aO P a x).bind fun v=>(vW P t v f).map .value,fun G=>by
   simp only[cE,Dx,rv,zA1]
   cases aO P a x with
   |none=>rfl
   |some v=>simp only[zA3]; cases vW P t v f<;>rfl⟩
 |indexAddr t x i=>exact⟨(aO P a x).bind fun v=>(aO P a i).bind fun j=>(aW P t v j).map .value,fun G=>by
   simp only[cE,j9,rv,zA1]
   cases aO P a x with
   |none=>rfl
   |some v =>
    cases aO P a i with
    |none=>rfl
    |some j=>simp only[zA3]; cases aW P t v j<;>rfl⟩
 |index t x i=>exact⟨(aO P a x).bind fun v=>(aO P a i).bind fun j=>(vn P (aa.none 0) t v j).map (·.1),fun G=>by
   simp only[cE,EY,zA1]
   cases aO P a x with
   |none=>rfl
   |some v =>
    cases aO P a i with
    |none=>rfl
    |some j =>
     simp only[zA3];unfold vn;split
     .rfl
     .split
      .simp only[Option.map_map]; cases la P (Instr.index t v j)<;>rfl
      .rfl⟩
 |typeAssert x t u ok=>exact⟨(aO P a x).bind fun v=>(iu P v u ok).map .value,fun G=>by
   simp only[cE,na,rv,zA1]
   cases aO P a x with
   |none=>rfl
   |some v=>simp only[zA3]; cases iu P v u ok<;>rfl⟩
 |extract x i=>exact⟨(aO P a x).bind fun v=>(mf (aa.none 0) i v).map (·.1),fun G=>by
   simp only[cE,nO,zA1]
   cases aO P a x with
   |none=>rfl
   |some v =>
    simp only[zA3];unfold mf;split
    .rename_i vs; simp only[rv]; cases vs.toList[i]?<;>rfl
    .rfl⟩
 |_=>cases g
def cL(anc:Nat)(F W O:List Nat)(r:Fp):Prop :=
 anc.testBit r.i=bv\/((∀ n∈r.W,n∉F)/\(∀ n∈r.F,n∉W)/\(r.lo<r.hi->(∀ n∈F,n<r.lo\/r.hi<=n)/\(∀ n∈O,n<r.lo\/r.hi<=n)))
def J6{a b:List Nat}(h:∀ n∈a,n∉b):Tu a b=true:=by
 refine zC3.2 fun n c=>?_
 cases d:F8 n b with
 |false=>rfl
 |true=>exact absurd (zD.1 d) (h n c)
def CA{lo hi:Nat}{l:List Nat}(h:∀ n∈l,n<lo\/hi<=n):Ef lo hi l=true:=by
 refine zC3.2 fun n b=>?_;rcases h n b with h|h
 .rw[bd h]; rfl
 .rw[show Nat.ble hi n=bv from zE8▸h]; simp
def jG{anc:Nat}{F:List Nat}{v:go}{g:aa}{next:Nat}{r:Fp}(h:cL anc F g.dirty (gZ v g next) r):vd anc F v g next r=true:=by
 rcases h with h|⟨f,i,j⟩
 .simp[vd,h]
 .have c:=J6 f;have d:=J6 i;by_cases b:r.lo<r.hi
  .obtain⟨k,l⟩:=j b;simp[vd,c,d,CA k,CA l]
  .have m:Nat.ble r.hi r.lo=true:=zE8▸Nat.not_lt.1 b;simp[vd,c,d,m]
def Vl(r:Fp):Prop:=r.F=[]/\r.W=[]/\r.hi<=r.lo
def Sv{anc:Nat}{F:List Nat}{v:go}{g:aa}{next:Nat}{r:Fp}(h:Vl r):vd anc F v g next r=true:=by
 refine jG (.inr ⟨?_,?_,fun b=>?_⟩)
 .rw[h.2.1]; simp
 .rw[h.1]; simp
 .have:=h.2.2; omega
def nk{ops:Array Oper}{anc:List Nat}{Q:ah->aa->Prop}:∀(rest:List Oper)(i:Nat)(d c:List Fp)(a:ah)(H:aa),(∀ r∈c,r∈d\/Vl r)->cI P ops anc rest i d a H Q->cI P ops anc rest i c a H Q
 |[],_,_,_,a,H,_,h=>h
 |o::rest,i,d,c,a,H,f,h=>by
  simp only[cI]at *
  cases j:cN ops a o with
  |none=>rw[j]at h; exact h.elim
  |some b =>
   rw[j]at h
   cases b with
   |false=>exact nk rest _ d c _ _ f h
   |true =>
    obtain⟨F,v,g,k,l,m,n,p⟩:=h;refine⟨F,v,g,k,l,m,fun r hr=>?_,nk rest _ _ _ _ _ (fun r hr=>?_) p⟩
    .rcases f r hr with h|h
     .exact n r h
     .exact Sv h
    .rcases zA8.1 hr with rfl|hr
     .exact .inl (zF2 ..)
     .rcases f r hr with h|h
      .exact .inl (zB9 _ h)
      .exact .inr h
def ju(anc:Nat)(b:List Fp)(O:List Nat):Prop:=∀ r∈b,r.lo<r.hi->anc.testBit r.i=bv\/∀ n∈O,n<r.lo\/r.hi<=n
def sB{ops:Array Oper}{anc:List Nat}{o:Oper}{rest:List Oper}{i:Nat}{b:List Fp}{a:ah}{Q:ah->aa->Prop}{v:go}(k:cN ops a o=a9 bv)
  (hx:∀ G,cE o.op P a G=a9 (.value v,G)) (d:ju (anc.getD i 0) b (ae v))
  (h:cI P ops anc rest (i+1) b (a.put o.dst v) H Q):cI P ops anc (o::rest) i b a H Q:=by
 have c:=aK H [];simp only[cI,k];refine⟨[],v,H.restrict [],gD (x:=.value v) (g:=H.restrict []) (hx _) ⟨rfl,rfl⟩,nl,(by rw[c.2.2]; simp),?_,?_⟩
 .intro r hr;refine jG ?_;by_cases f:r.lo<r.hi
  .rcases d r hr f with h|h
   .exact .inl h
   .refine .inr ⟨by simp,by rw[c.2.2]; simp,fun _=>⟨by simp,fun n j=>h n ?_⟩⟩;simp only[gZ,c.2.2,c.1,zG8,dH,zC7,List.flatMap_nil]at j;exact j
  .exact .inr ⟨by simp,by rw[c.2.2]; simp,fun h=>absurd h f⟩
 .rw[oZ];refine nk rest _ b _ _ _ (fun r hr=>?_) h;rcases zA8.1 hr with rfl|hr
  .exact .inr ⟨rfl,c.2.2,by simp[c.1]⟩
  .exact .inl hr
def HD{ops:Array Oper}{anc:List Nat}{o:Oper}{rest:List Oper}{i:Nat}{b:List Fp}{a:ah}{Q:ah->aa->Prop}{v:go}(k:jk o.op=bv)(l:cN ops a o=a9 bv)
  (hx:cE o.op P a H=a9 (.value v,H)) (d:ju (anc.getD i 0) b (ae v))
  (h:cI P ops anc rest (i+1) b (a.put o.dst v) H Q):cI P ops anc (o::rest) i b a H Q:=by
 obtain⟨f,j⟩:=Fl (P:=P) k a;refine sB l (fun G=>?_) d h;have c:=j H;rw[hx]at c;rw[j]
 cases g:f with
 |none=>rw[g]at c; cases c
 |some y=>rw[g]at c; simp only[zB2,i8,i9]at c ⊢; exact⟨c.1.symm,trivial⟩
def Ep{ops:Array Oper}{anc:List Nat}{o:Oper}{rest:List Oper}{i:Nat}{b:List Fp}{a:ah}{Q:ah->aa->Prop}{v:go}(F:List Nat)(f:cN ops a o=a9 bv)
  (d:HX P a (H.restrict F) o (.ok v) (H.restrict F)) (g:∀ n∈F,H.get n≠bi) (j:∀ r∈b,cL (anc.getD i 0) F [] (ae v) r)
  (h:cI P ops anc rest (i+1) (⟨i,F,[],H.next,H.next⟩::b) (a.put o.dst v) H Q):cI P ops anc (o::rest) i b a H Q:=by
 have c:=aK H F;simp only[cI,f];refine⟨F,v,H.restrict F,d,g,(by rw[c.2.2]; simp),fun r k=>jG ?_,?_⟩
 .simp only[gZ,c.2.2,c.1,zG8,dH,zC7,List.flatMap_nil];exact j r k
 .rw[oZ,c.2.2,c.1]; exact h
def FK{ops:Array Oper}{anc:List Nat}{o:Oper}{rest:List Oper}{i:Nat}{b:List Fp}{a:ah}{Q:ah->aa->Prop}{t:io}{x:i7}{v:go}{n off:Nat}(j:o.op=.load t x)(k:cN ops a o=a9 bv)
  (hx:aO P a x=a9 (li (a9 ⟨n,off,bi⟩))) (f:ib P H t (li (a9 ⟨n,off,bi⟩))=a9 v) (l:∀ r∈b,cL (anc.getD i 0) [n] [] (ae v) r)
  (h:cI P ops anc rest (i+1) (⟨i,[n],[],H.next,H.next⟩::b) (a.put o.dst v) H Q):cI P ops anc (o::rest) i b a H Q:=by
 have cn:H.get n≠none:=by intro c;simp[ib,aP,c]at f
 refine Ep [n] k ?_ (by simpa using cn) l h;have c:(H.restrict [n]).get n=H.get n:=by rw[aU]; simp
 have d:ib P (H.restrict [n]) t (li (a9 ⟨n,off,bi⟩))=a9 v:=by rw[<-f];simp only[ib,aP,c]
 refine gD (x:=.value v) (g:=H.restrict [n]) ?_ ⟨rfl,rfl⟩;rw[j];simp only[cE,HS,hx,zA1,zA3,d];rfl
end
section
variable{P:ip}{H:aa}
def Va(H:aa)(n:Nat)(e:io)(o:Bool)(l:List go):Prop:=∃ rv,bO H n=a9 (rv,e,o)/\rv.n=l.length/\∀ i,i<l.length->rv.get i=l.getD i undef
def Va.ky{rv:RV}{l:List go}(c:rv.n=l.length)(b:∀ i,i<l.length->rv.get i=l.getD i undef)(off sz:Nat)(h:off+sz<=l.length):rv.ky off sz=(l.drop off).take sz:=by
 rw[RV.iI];apply List.ext_getElem?;intro i;by_cases hi:i<sz
 .rw[zG0,List.getElem?_range hi,List.getElem?_take_of_lt hi,List.getElem?_drop];have:off+i<l.length:=by omega
  simp[b _ this,List.getD,this]
 .rw[zD3 (by simpa using hi),zD3 pp]
def v8(l:List go)(off:Nat)(vs:List go):List Value:=l.take off++vs++l.drop (off+vs.length)
def nw(H:aa)(e:io)(l:List go)(o:Bool):aa:=H.new ⟨.cells #[] e,o,RV.ofList l⟩
def EL{e:io}{l:List go}{o:Bool}(h:aT H.next l=bv):cJ H e l o=a9 (nw H e l o):=by simp only[cJ,h,if_true,nw]
theorem jH(e:io)(l:List go)(o:Bool):(nw H e l o).next=H.next+1:=rfl
theorem JX(e:io)(l:List go)(o:Bool):(nw H e l o).base=H.base:=rfl
theorem Q7(e:io)(l:List go)(o:Bool):(nw H e l o).dirty=H.dirty:=rfl
def Ql(e:io)(l:List go)(o:Bool){m:Nat}(h:m≠H.next):(nw H e l o).get m=H.get m:=by rw[nw,aa.fk,if_neg h]
end
end Go.Ax
