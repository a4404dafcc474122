/- Parts of the proof, one behind the other. -/
import Derived.Test.YtpohjcacnkhnkaaGreatDoorM1
import Derived.Below
import Derived.LoopNIn
import Derived.Scope
set_option linter.all false
set_option maxRecDepth 10000
set_option maxHeartbeats 16000000
open Option renaming some->ap,none->bi
open Bool renaming true->bv,false->gc
open Decidable renaming decide->ge
open Go renaming Value->gt,TypeId->ii,Program->io,World->ip,Operand->i4
open Option.some renaming injEq->i5
open Prod.mk renaming injEq->i6
open Go.Value renaming int->i7,pointer->i9,slice->jp,bool->kw
open Go.IntKind renaming i64->i8
open And renaming intro -> zA0
open Option renaming bind_eq_bind -> zA1, bind_eq_some_iff -> zA2, bind_some -> zA4, map_some -> zB1, map_eq_some_iff -> zB5
open List renaming length_cons -> zA3, mem_singleton -> zA6, mem_cons -> zA9, length_nil -> zB0, length_append -> zB2, getElem?_eq_getElem -> zB3, mem_append -> zB4, mem_map -> zB6, nodup_cons -> zB8, map_cons -> zB9, mem_of_getElem? -> zC0, length_drop -> zC1, take_of_length_le -> zC3, mem_cons_of_mem -> zC4, getElem?_eq_none -> zC5, append_assoc -> zC9, nil_append -> zD0, drop_zero -> zD2, all_eq_true -> zD3, append_nil -> zD4, nodup_append -> zD5, mem_cons_self -> zD7, getElem?_eq_some_iff -> zE0, getElem?_map -> zE1, getD_eq_getElem?_getD -> zE3, map_nil -> zE6, eq_nil_of_length_eq_zero -> zE7, drop_eq_nil_of_le -> zE8, length_map -> zE9, length_take -> zF1, not_mem_nil -> zF2, getElem?_cons_zero -> zF3, getElem?_set -> zF4, mem_range -> zF5, cons_append -> zG1, length_replicate -> zG2, ext_getElem? -> zG4, getElem?_append_right -> zG5, getElem?_cons_succ -> zG6
open Nat renaming le_refl -> zA5, le_of_ble_eq_true -> zA8, zero_le -> zB7, lt_or_ge -> zC2, zero_add -> zC6, le_trans -> zC7, lt_of_lt_of_le -> zD1, add_zero -> zD6, lt_succ_self -> zD9, ble_eq -> zE2, mul_one -> zE5, min -> zF0, add_sub_cancel_left -> zF9, sub_self -> zG0
open Bool renaming and_eq_true -> zA7, false_eq_true -> zC8, and_self -> zD8, not_true -> zE4, or_false -> zF6, false_and -> zF7, or_true -> zF8, or_eq_true -> zG3
namespace Go.Ax
def Ow(H:aa):Prop:=∀ n o,H.get n=ap o->n<H.next/\ki H.next o
def FA(N:Nat):cO->Prop
 |.value v=>aV N v=bv
 |.skip=>True
 |.enter _ args=>aX N args=bv
 |.round r=>r.l<N/\∀ i,i<r.env.n->aV N (r.env.get i)=bv
 |.panic v=>aV N v=bv
section
variable{P:io}{H:aa}{a:ai}{N:Nat}
def zO{v:gt}(h:aV N v=bv):aX N v.cells.toList=true:=by
 cases v with
 |agg cs=>obtain⟨l⟩:=cs; simpa[aV,eU,Value.cells]using h
 |_=>simp[Value.cells,aX,h]
def sR{l:List gt}:eU N ⟨l⟩=aX N l:=by rw[eU]
def j8{c:Array gt}:eU N c=aX N c.toList:=by obtain⟨l⟩:=c; rw[eU]
def iS{l:List gt}(h:aX N l=bv){v:gt}(b:v∈l):aV N v=true:=cx.1 h v b
def LR{l m:List gt}(h:aX N l=bv)(b:∀ v∈m,v∈l):aX N m=true:=cx.2 fun v c=>iS h (b v c)
def zg(b:Ow H){n:Nat}{c:RV}{e:ii}{o:Bool}(h:cM H n=ap (c,e,o)):∀ i,i<c.n->aV H.next (c.get i)=true:=by
 unfold cM at h;split at h
 .rename_i x f z o' v d;simp only[i5,i6]at h;obtain⟨rfl,rfl,rfl⟩:=h;exact (b _ _ d).2
 .cases h
def N7{c:RV}(h:∀ i,i<c.n->aV N (c.get i)=bv){off k:Nat}(d:off+k<=c.n):aX N (c.jJ off k)=true:=by refine cx.2 fun v b=>?_;rw[RV.gl]at b;obtain⟨j,f,rfl⟩:=zB6.1 b;exact h _ (by have:=zF5.1 f; omega)
def wT(i:Ow H){t:ii}{p v:gt}(h:fR P H t p=ap v):aV H.next v=true:=by
 unfold fR at h;split at h
 .rename_i n off;simp only[zA1,zA2]at h;obtain⟨⟨c,e,o⟩,hc,b,hb,h⟩:=h;have d:=zg i hc
  cases b with
  |true =>
   simp only[zA2]at h;obtain⟨sz,j,h⟩:=h;split at h
   .rename_i f;simp only[i5]at h;subst h;rw[aV,sR];exact N7 d (iq f)
   .cases h
  |false =>
   simp only at h;split at h
   .rename_i g;simp only[i5]at h;subst h;exact d _ (bO g)
   .cases h
 .cases h
def Dj{t:ii}{cs:List gt}{off:Nat}{v:gt}(c:aX N cs=bv)(h:Bq P t cs off=ap v):aV N v=true:=by
 unfold Bq at h;simp only[zA1,zA2]at h;obtain⟨b,f,h⟩:=h
 cases b with
 |true =>simp only[zA2,i5]at h;obtain⟨sz,_,rfl⟩:=h;rw[aV,sR];exact LR c fun v d=>List.mem_of_mem_drop (List.mem_of_mem_take d)
 |false=>exact iS c (zC0 h)
def pT{t:ii}{v:gt}(h:zeroOf P t=ap v):aV N v=true:=by
 unfold zeroOf at h;split at h
 .split at h
  .split at h
   .rename_i b;simp only[i5]at h;subst h;exact fB _ b
   .cases h
  .cases h
 .cases h
def Ko{cs:Array gt}(d:aX N cs.toList=bv):∀(l:List (gt × Nat))(off:Nat),(∀ x∈l,aV N x.1=bv)->aX N (l.foldl (fun cs (c,j)=>cs.setIfInBounds (off+j) c) cs).toList=true:=by
 intro l
 induction l generalizing cs with
 |nil=>exact fun _ _=>d
 |cons x l f =>
  intro off h;simp only[List.foldl_cons];refine f ?_ off (fun y g=>h y (zC4 _ g));refine cx.2 fun v b=>?_;rw[Array.toList_setIfInBounds]at b;rcases List.mem_or_eq_of_mem_set b with b|rfl
  .exact iS d b
  .exact h x (zD7 ..)
def Cl{f:Nat->Option (Nat × Nat)}:∀(b:List (Nat × gt))(cells c:Array gt),aX N cells.toList=bv->(∀ p∈b,aV N p.2=bv)->Instr.fill f cells b=ap c->aX N c.toList=bv
 |[],cells,c,h,_,d=>by simp only[Instr.fill,i5]at d; subst d; exact h
 |(i,v)::b,cells,c,h,g,d=>by
  simp only[Instr.fill]at d;split at d
  .cases d
  .split at d
   .cases d
   .refine Cl b _ c ?_ (fun p j=>g p (zC4 _ j)) d;rw[<-Array.foldl_toList];refine Ko h _ _ (fun x hx=>?_);have k:=zO (g (i,v) (zD7 ..));refine iS k ?_;rw[Array.toList_zipIdx]at hx;obtain⟨l,m⟩:=x;have:=List.mem_zipIdx hx;rw[this.2.2];exact List.getElem_mem _
def JS{t:ii}{b:List (Nat × gt)}{v:gt}(g:∀ p∈b,aV N p.2=bv)(h:dR P t b=ap v):aV N v=true:=by
 unfold dR at h;simp only[zA1,zA2]at h;obtain⟨z,i,h⟩:=h;have d:aX N z.cells.toList=true:=zO (pT i);split at h
 .simp only[zA2,zB5]at h;obtain⟨j,_,c,f,rfl⟩:=h;rw[aV,j8];exact Cl b _ c d g f
 .simp only[zA2,zB5]at h;obtain⟨j,_,c,f,rfl⟩:=h;rw[aV,j8];exact Cl b _ c d g f
 .cases h
def EM(c:P.globals.size<=N)(d:iO N a):∀ {f:List (Nat × i4)} {l:List (Nat × gt)},gv P a f=ap l->∀ p∈l,aV N p.2=bv
 |[],l,h=>by simp only[gv,i5]at h; subst h; simp
 |(i,x)::f,l,h=>by
  simp only[gv,zA1,zA2,i5]at h;obtain⟨v,g,vs,b,rfl⟩:=h;intro p hp;rcases zA9.1 hp with rfl|hp
  .exact cD c d g
  .exact EM c d b p hp
def JP{b:BinOp}{k:IntKind}{x y:Int}{v:gt}(h:dy b k x y=ap v):aV N v=true:=by
 cases b<;>simp only[dy,i5,reduceCtorEq]at h<;>first|(subst h; simp only[aV])|(split at h<;>first|(cases h; done)|(simp only[i5]at h; subst h; simp only[aV]))
def G6{c:BinOp}{b:Bool}{v:gt}(h:sH c b=ap v):aV N v=true:=by cases c<;>simp only[sH,i5,reduceCtorEq]at h<;>(subst h; simp only[aV])
def Oa{c:BinOp}{t:ii}{x y v:gt}(h:df P H c t x y=ap v):aV N v=true:=by
 unfold df at h;split at h
 .split at h
  .exact JP h
  .cases h
 .split at h
  .exact G6 h
  .cases h
 .unfold rI at h;split at h
  .cases h
  .cases h
  .simp only[zA2]at h;obtain⟨b,_,h⟩:=h;exact G6 h
def sW{s:Sem gt}{x:cO}(h:iZ P s=ap x):FA N x:=by
 unfold iZ at h;split at h
 .split at h
  .rename_i b;simp only[i5]at h;subst h;exact fB _ b
  .cases h
 .split at h
  .split at h
   .rename_i b;simp only[i5]at h;subst h;exact fB _ b
   .cases h
  .cases h
def mapNext{x:Option cO}{y:cO}{H1:aa}(h:(x.map fun r=>(r,H))=ap (y,H1)):x=ap y/\H1=H:=by
 cases x with
 |none=>cases h
 |some z=>simp only[zB1,i5,i6]at h; exact⟨by rw[h.1],h.2.symm⟩
def nP{x:Option gt}{y:cO}{H1:aa}(hx:∀ v,x=ap v->aV H.next v=bv)(h:rv H x=ap (y,H1)):FA H1.next y:=by simp only[rv,zB5,i6]at h;obtain⟨v,b,rfl,rfl⟩:=h;exact hx v b
def qX{x:Option (gt × aa)}{y:cO}{H1:aa}(hx:∀ v g,x=ap (v,g)->aV g.next v=bv)(h:tN x=ap (y,H1)):FA H1.next y:=by simp only[tN,zB5,i6]at h;obtain⟨⟨v,g⟩,hv,rfl,rfl⟩:=h;exact hx v g hv
def pV{e:ii}{c:List gt}{o:Bool}{g:aa}(h:cH H e c o=ap g):g.next=H.next+1:=by
 unfold cH at h;split at h
 .simp only[i5]at h; subst h; rfl
 .cases h
def DQ{n off:Nat}{vs:List gt}{g:aa}(h:dX H n off vs=ap g):g.next=H.next:=by
 unfold dX at h;simp only[zA1,zA2]at h;obtain⟨⟨c,e,o⟩,_,h⟩:=h;simp only at h;split at h
 .simp only[i5]at h; subst h; rfl
 .cases h
def Iz(k:IntKind)(n:Int):aV N (.int k n)=true:=by simp[aV]
def jt(n:Int):aV N (goInt n)=true:=by simp[goInt,aV]
def tY{e:ii}{sz len cap n:Nat}{base:Option Addr}{new:List gt}{v:gt}{g:aa}(j:aV H.next (.slice base len cap)=bv)(h:dU H e sz base len cap n new=ap (v,g)):aV g.next v=true:=by
 unfold dU at h;split at h
 .split at h
  .split at h
   .simp only[i5,i6]at h;obtain⟨rfl,rfl⟩:=h;simp[aV]
   .cases h
  .simp only[zA1,zA2,i5,i6]at h;obtain⟨f,d,rfl,rfl⟩:=h;rw[DQ d];simpa[aV]using j
 .simp only[zA1,zA2]at h;obtain⟨old,_,h⟩:=h;have i:∀ {K f:aa} {c:List gt} {len cap:Nat},K.next=H.next->cH K e c bv=ap f->aV f.next (jp (ap ⟨H.next,0,Option.none⟩) len cap)=true:=by intro K f c len cap k d;rw[pV d,k];simp only[aV];exact bx (zD9 _)
  split at h
  .split at h
   .simp only[zA2,i5,i6]at h;obtain⟨f,d,rfl,rfl⟩:=h;exact i rfl d
   .simp only[zA2]at h;obtain⟨b,_,h⟩:=h
    cases b with
    |true =>simp only[zA2,i5,i6]at h;obtain⟨f,d,rfl,rfl⟩:=h;exact i rfl d
    |false =>
     simp only[zA2]at h;obtain⟨⟨l,m,o'⟩,_,h⟩:=h;simp only at h;split at h
     .simp only[zA2,i5,i6]at h;obtain⟨f,d,rfl,rfl⟩:=h;exact i (K:=H.cy _ Option.none) rfl d
     .cases h
  .cases h
def Ea{b:Builtin}{ts:Array ii}{args:List gt}{v:gt}{g:aa}(f:aX H.next args=bv)(h:aF P H b ts args=ap (v,g)):aV g.next v=true:=by
 have d:∀ {x:Option gt},(x.map fun v=>(v,H))=ap (v,g)->∃ u,x=ap u/\v=u/\g=H:=by intro x hx;simp only[zB5,i6]at hx;obtain⟨u,c,k,l⟩:=hx;exact⟨u,c,k.symm,l.symm⟩
 unfold aF at h;split at h
 .obtain⟨u,c,rfl,rfl⟩:=d h;unfold nc at c;have hx:=iS f (zD7 ..);split at c
  .cases c; rfl
  .cases c; exact hx
  .cases c
 .have i:∀ s N,aV N (.string s)=true:=fun _ _=>rfl;unfold mO at h;split at h
  .simp only[i5,i6]at h; obtain⟨rfl,rfl⟩:=h; rfl
  .simp only[zA1,zA2]at h;obtain⟨_,_,h⟩:=h;split at h
   .simp only[zA2]at h;obtain⟨_,_,h⟩:=h;split at h
    .simp only[zA2]at h;obtain⟨_,_,h⟩:=h;split at h
     .split at h
      .split at h
       .simp only[i5,i6]at h; obtain⟨rfl,rfl⟩:=h; rfl
       .split at h
        .simp only[zA2,i5,i6]at h;obtain⟨_,_,rfl,rfl⟩:=h;rfl
        .cases h
      .cases h
     .cases h
    .cases h
   .cases h
  .cases h
 .-- append
  rename_i s x;unfold fL at h;split at h
  .rename_i st xt rest base len cap;have j:=iS f (zD7 ..);simp only[zA1,zA2]at h;obtain⟨u,_,h⟩:=h;split at h
   .simp only[zA2]at h;obtain⟨sz,_,by1,_,o,_,p,_,h⟩:=h;split at h
    .split at h
     .exact tY j h
     .cases h
    .cases h
    .simp only[zA2]at h;obtain⟨n,_,new,_,h⟩:=h;split at h
     .exact tY j h
     .cases h
   .cases h
  .cases h
 .-- copy
  unfold Aq at h;split at h
  .simp only[zA1,zA2]at h;obtain⟨u,_,h⟩:=h;split at h
   .simp only[zA2]at h;obtain⟨sz,_,sl,_,cs,_,h⟩:=h;split at h
    .simp only[i5,i6]at h;obtain⟨rfl,rfl⟩:=h;exact jt _
    .split at h
     .simp only[zA2,i5,i6]at h;obtain⟨m,_,rfl,rfl⟩:=h;exact jt _
     .simp only[i5,i6]at h;obtain⟨rfl,rfl⟩:=h;exact jt _
   .cases h
  .cases h
 .-- len
  split at h
  .obtain⟨u,c,rfl,rfl⟩:=d h;unfold zr at c;split at c<;>first|(simp only[i5]at c; subst c; exact jt _)|(split at c<;>first|(simp only[i5]at c; subst c; exact jt _)|cases c)|cases c
  .cases h
 .-- cap
  split at h
  .obtain⟨u,c,rfl,rfl⟩:=d h;unfold Pn at c;split at c<;>first|(simp only[i5]at c; subst c; exact jt _)|(split at c<;>first|(simp only[i5]at c; subst c; exact jt _)|cases c)|cases c
  .cases h
 .-- delete
  split at h
  .unfold vW at h;split at h
   .split at h
    .simp only[zA1,zA2]at h;obtain⟨kd,_,h⟩:=h;split at h
     .split at h<;>first|(simp only[i5,i6]at h; obtain⟨rfl,rfl⟩:=h; simp only[aV,eU,aX])|(cases h; done)
     .cases h
    .cases h
   .cases h
  .cases h
 .-- clear
  split at h
  .unfold Ck at h;split at h
   .simp only[i5,i6]at h;obtain⟨rfl,rfl⟩:=h;simp[aV,eU,aX]
   .split at h
    .simp only[i5,i6]at h;obtain⟨rfl,rfl⟩:=h;simp[aV,eU,aX]
    .simp only[zA1,zA2,i5,i6]at h;obtain⟨z,_,m,_,rfl,rfl⟩:=h;simp[aV,eU,aX]
   .cases h
  .cases h
 .obtain⟨u,c,rfl,rfl⟩:=d h;unfold fG at c;split at c
  .simp only[i5]at c; subst c; exact Iz _ _
  .cases c
 .obtain⟨u,c,rfl,rfl⟩:=d h;unfold fG at c;split at c
  .simp only[i5]at c; subst c; exact Iz _ _
  .cases c
 .cases h
def tU{f:FuncId}{args:List gt}{x:cO}(b:aX N args=bv)(h:jh P f args=ap x):FA N x:=by
 unfold jh at h;split at h
 .simp only[i5]at h; subst h; exact b
 .cases h
def EY(d:Ow H){t:ii}{v x:gt}{b:Bool}(c:aV H.next v=bv)(h:y6 P H t v b=ap x):aV H.next x=true:=by
 unfold y6 at h;split at h
 .simp only[i5]at h; subst h; exact c
 .exact wT d h
 .cases h
 .simp only[i5]at h; subst h; exact c
 .cases h
def Bh:∀(ts:List Tmp)(vs:List gt)(e:RV),aX N vs=bv->(∀ i,i<e.n->aV N (e.get i)=bv)->∀ i,i<(nM ts vs e).n->aV N ((nM ts vs e).get i)=bv
 |[],vs,e,_,h=>by cases vs<;>exact h
 |_::_,[],e,_,h=>h
 |t::ts,v::vs,e,b,h=>by
  simp only[aX,zA7]at b;simp only[nM];refine Bh ts vs _ b.2 ?_;split
  .intro i hi;rw[RV.n_set]at hi;rw[RV.rJ];split
   .exact b.1
   .exact h i hi
  .exact h
def nL(d:Ow H){fn:Fn}{args b:List gt}{x:cO}(j:∀ l,fn=.yield l->l<H.next)(c:aX H.next args=bv)(k:aX H.next b=bv)(h:fF P H fn args b=ap x):FA H.next x:=by
 unfold fF at h;split at h
 .exact tU (eI c k) h
 .unfold BR at h;split at h
  .rename_i m;split at h
   .simp only[i5]at h;subst h;refine⟨j _ rfl,Bh _ _ _ c ?_⟩;have:=(d _ _ m).2;simp only[ki]at this;exact this.2
   .cases h
  .cases h
 .rename_i name t v r;simp only[zA1,zA2]at h;obtain⟨⟨f,g⟩,_,y,hy,h⟩:=h;simp only[aX,zA7]at c;have n:aV H.next v=true:=by have:=c.1; rw[aV]at this; exact this
  refine tU ?_ h;rw[aX,EY d n hy,c.2]; rfl
 .rename_i t i f g y r;split at h
  .simp only[zA1,zA2]at h;obtain⟨z,o,h⟩:=h;simp only[aX,zA7]at c;refine tU ?_ h;rw[aX,EY d c.1 o,c.2]; rfl
  .cases h
 .cases h
def Ca{fn:Fn}{p q:Array gt}(h:aV N (.func fn p q)=bv):(∀ l,fn=.yield l->l<N)/\aX N p.toList=bv/\aX N q.toList=true:=by
 cases fn with
 |yield l =>simp only[aV,zA7,j8]at h;exact⟨fun l' e=>by cases e; exact bO h.1.1,h.1.2,h.2⟩
 |_ =>simp only[aV,zA7,j8]at h;exact⟨fun l' e=>(by cases e),h.1,h.2⟩
def K1(k:P.globals.size<=H.next)(p:Ow H)(m:iO H.next a){c:Call}{x:cO}{H1:aa}(h:lx c P a H=ap (x,H1)):FA H1.next x:=by
 unfold lx at h;simp only[zA1,zA2]at h;obtain⟨args,d,h⟩:=h;have b:=l7 k m d;split at h
 .exact qX (fun v g q=>Ea b q) h
 .simp only[zA2]at h;obtain⟨r,i,h⟩:=h;obtain⟨n,rfl⟩:=mapNext h;refine nL p (fun l e=>by cases e) ?_ rfl n;rw[aX,cD k m i,b]; rfl
 .simp only[zA2]at h;obtain⟨f,s,h⟩:=h;have o:=cD k m s;split at h
  .rename_i r i;simp only[i5]at h;subst h;unfold qw at i;split at i
   .obtain⟨n,rfl⟩:=mapNext i;obtain⟨t,u,y⟩:=Ca o;exact nL p t (eI u b) y n
   .cases i
  .have j:∀ {g:FuncId},nH P H g args=ap (x,H1)->FA H1.next x:=by
    intro g h;unfold nH at h;split at h
    .split at h
     .simp only[i5,i6]at h;obtain⟨rfl,rfl⟩:=h;exact iS b (zD7 ..)
     .cases h
    .split at h
     .split at h
      .split at h
       .split at h
        .split at h
         .simp only[i5,i6]at h;obtain⟨rfl,rfl⟩:=h;exact bx (zD9 _)
         .cases h
        .cases h
       .cases h
      .cases h
     .cases h
    .cases h
   unfold vK at h;split at h
   .split at h
    .split at h
     .split at h
      .rename_i z;simp only[i5,i6]at h;obtain⟨rfl,rfl⟩:=h;exact fB _ z
      .cases h
     .exact j h
    .exact j h
   .cases h
def GO{sz len cap:Nat}{d:Option Addr}{lo hi:Option gt}{v:gt}{g:aa}(c:∀ x,d=ap x->x.block<H.next)(h:kh H sz d len cap lo hi=ap (v,g)):aV g.next v=true:=by
 unfold kh at h;simp only[zA1,zA2]at h;obtain⟨l,_,k,_,h⟩:=h;split at h
 .split at h
  .simp only[i5,i6]at h;obtain⟨rfl,rfl⟩:=h;simp[aV]
  .rename_i x;have hx:=c x rfl;obtain⟨f,c⟩:=ac (dW H x);simp only[c]at h
   cases f with
   |none =>
    simp only at h;split at h
    .simp only[i5,i6]at h;obtain⟨rfl,rfl⟩:=h;simp only[aV]; exact bx hx
    .cases h
   |some b =>
    cases b with
    |true =>
    simp only[i5,i6]at h;obtain⟨rfl,rfl⟩:=h;simp only[aV]; exact bx hx
    |false =>
    simp only at h;split at h
    .simp only[i5,i6]at h;obtain⟨rfl,rfl⟩:=h;simp only[aV]; exact bx hx
    .split at h
     .simp only[i5,i6]at h;obtain⟨rfl,rfl⟩:=h;simp only[aV]; exact bx hx
     .split at h
      .cases h
      simp only[i5,i6]at h;obtain⟨rfl,rfl⟩:=h;simp only[aV]; exact bx hx
 .cases h
def qj{x:Option Addr}{n m:Nat}(h:aV N (.slice x n m)=bv):∀ y,x=ap y->y.block<N:=by rintro y rfl;simp only[aV]at h;exact bO h
def Ku{t:ii}{x:gt}{lo hi b:Option gt}{v:gt}{g:aa}(hx:aV H.next x=bv)(h:cw P H t x lo hi b=ap (v,g)):aV g.next v=true:=by
 unfold cw at h;split at h
 .simp only[zA1,zA2]at h;obtain⟨l,_,k,_,h⟩:=h;split at h
  .simp only[i5,i6]at h;obtain⟨rfl,rfl⟩:=h;simp[aV]
  .cases h
 .simp only[zA1,zA2]at h;obtain⟨sz,_,h⟩:=h;exact GO (qj hx) h
 .split at h
  .simp only[zA1,zA2]at h;obtain⟨sz,_,h⟩:=h;unfold wu at h;simp only[zA1,zA2]at h;obtain⟨l,_,k,_,h⟩:=h;split at h
   .split at h
    .simp only[i5,i6]at h;obtain⟨rfl,rfl⟩:=h;simp[aV]
    .simp only[i5,i6]at h;obtain⟨rfl,rfl⟩:=h;simp only[aV]; exact bx (qj hx _ rfl)
   .cases h
  .cases h
 .simp only[zA1,zA2]at h;obtain⟨l,_,k,_,sz,_,h⟩:=h;split at h
  .simp only[i5,i6]at h;obtain⟨rfl,rfl⟩:=h;simp only[aV]at hx ⊢;exact hx
  .cases h
 .cases h
def DD{s d:ii}{x v:gt}{g:aa}(hx:aV H.next x=bv)(h:bM P H s d x=ap (v,g)):aV g.next v=true:=by
 have b:∀ {f:aa} {e:ii} {c:List gt} {len cap:Nat},cH H e c bv=ap f->aV f.next (jp (ap ⟨H.next,0,Option.none⟩) len cap)=true:=by intro f e c len cap i;rw[pV i];simp only[aV];exact bx (zD9 _)
 unfold bM at h;split at h
 .simp only[i5,i6]at h; obtain⟨rfl,rfl⟩:=h; simp[aV]
 .simp only[i5,i6]at h; obtain⟨rfl,rfl⟩:=h; simp[aV]
 .simp only[i5,i6]at h; obtain⟨rfl,rfl⟩:=h; simp[aV]
 .split at h
  .simp only[zA1,zA2]at h;obtain⟨z,_,h⟩:=h;split at h
   .split at h
    .simp only[zA2,i5,i6]at h;obtain⟨f,i,rfl,rfl⟩:=h;exact b i
    .cases h
   .cases h
  .simp only[zA1,zA2]at h;obtain⟨z,_,h⟩:=h;split at h
   .split at h
    .simp only[zA2,i5,i6]at h;obtain⟨f,i,rfl,rfl⟩:=h;exact b i
    .cases h
   .cases h
  .cases h
 .simp only[zA1,zA2]at h;obtain⟨cs,_,h⟩:=h;split at h
  .simp only[zB5,i6]at h; obtain⟨l,_,rfl,rfl⟩:=h; simp[aV]
  .simp only[zB5,i6]at h; obtain⟨l,_,rfl,rfl⟩:=h; simp[aV]
  .cases h
 .simp only[zA1,zA2]at h;obtain⟨u,_,h⟩:=h;split at h
  .split at h
   .split at h
    .simp only[i5,i6]at h; obtain⟨rfl,rfl⟩:=h; exact hx
    .cases h
   .cases h
  .cases h
 .simp only[i5,i6]at h; obtain⟨rfl,rfl⟩:=h; exact hx
 .simp only[zA1,zA2]at h;obtain⟨sz,_,c,_,h⟩:=h;split at h
  .simp only[i5,i6]at h; obtain⟨rfl,rfl⟩:=h; exact hx
  .cases h
 .simp only[i5,i6]at h; obtain⟨rfl,rfl⟩:=h; exact hx
 .simp only[zA1,zA2]at h;obtain⟨sz,_,h⟩:=h;split at h
  .split at h
   .simp only[i5,i6]at h; obtain⟨rfl,rfl⟩:=h; exact hx
   .cases h
  .cases h
 .cases h
def vk{kd:TypeDesc}{k:gt}:∀(l:List MapEntry)(i:Nat){j:Nat}{v:gt},Instr.findNow kd k l i=ap (ap (j,v))->∃ e∈l,e.val=v
 |[],i,j,v,h=>by simp[Instr.findNow]at h
 |e::l,i,j,v,h=>by
  simp only[Instr.findNow]at h;split at h
  .simp only[i5,i6]at h;exact⟨e,zD7 ..,h.2⟩
  .obtain⟨b,c,d⟩:=vk l (i+1) h;exact⟨b,zC4 _ c,d⟩
  .cases h
def pB{v:gt}{b:Bool}(h:aV N v=bv):aV N (.tuple #[v,kw b])=true:=by simp only[aV,eU,aX,h,zD8]
def GB(l:Ow H){t:ii}{x k v:gt}{ok:Bool}(h:lr P H t x k ok=ap v):aV H.next v=true:=by
 unfold lr at h;split at h
 .rename_i m elem r;simp only[zA1,zA2]at h;obtain⟨n,b,kd,_,h⟩:=h;split at h
  .split at h
   .rename_i j u p;obtain⟨e,d,rfl⟩:=vk _ _ p
    have f:∀ e∈n,aV H.next e.val=true:=by
     unfold zS at b;split at b
     .simp only[i5]at b; subst b; intro e d; simp at d
     .split at b
      .rename_i q c o y s;simp only[i5]at b;subst b;have:=(l _ _ s).2;simp only[ki]at this;exact fun e d=>(this e d).2
      .cases b
    have g:=f e (by simpa using d);simp only[i5]at h;subst h;split
    .exact pB g
    .exact g
   .simp only[zB5]at h;obtain⟨z,i,rfl⟩:=h;split
    .exact pB (pT i)
    .exact pT i
   .cases h
  .cases h
 .cases h
def xU{x v:gt}{u:ii}{ok:Bool}(hx:aV N x=bv)(h:gi P x u ok=ap v):aV N v=true:=by
 have z:∀ {w:Option gt} {v:gt},w=zeroOf P u->(w.map fun z=>(.tuple #[z,kw gc]:gt))=ap v->aV N v=true:=by intro w v b h;simp only[zB5]at h;obtain⟨z,c,rfl⟩:=h;exact pB (pT (b▸c))
 unfold gi at h;split at h
 .split at h
  .split at h
   .simp only[i5]at h;subst h;split
    .exact pB hx
    .exact hx
   .split at h
    .exact z rfl h
    .cases h
  .cases h
 .split at h
  .exact z rfl h
  .cases h
 .rename_i t w _ _;have b:aV N w=true:=by rw[aV]at hx; exact hx
  split at h
  .simp only[i5]at h;subst h;split
   .exact pB b
   .exact b
  .split at h
   .exact z rfl h
   .cases h
 .cases h
def CR(C:P.globals.size<=H.next)(L:Ow H)(F:iO H.next a){J:Op}{x:cO}{H1:aa}(h:cj J P a H=ap (x,H1)):FA H1.next x:=by
 have box:∀ {t:ii} {v:gt} {x:cO} {H1:aa},zu t v H=ap (x,H1)->FA H1.next x:=by intro t v x H1 h;simp only[zu,zA1,zA2,i5,i6]at h;obtain⟨g,C,rfl,rfl⟩:=h;show aV g.next (i9 (ap ⟨H.next,0,Option.none⟩))=bv;rw[pV C];simp only[aV];exact bx (zD9 _)
 have G:∀ {g:aa} {e:ii} {c:List gt} {o:Bool} {s:Option Nat} {len cap:Nat},cH H e c o=ap g->aV g.next (jp (ap ⟨H.next,0,s⟩) len cap)=true:=by intro g e c o s len cap C;rw[pV C];simp only[aV];exact bx (zD9 _)
 cases J with
 |move y=>exact nP (fun v j=>cD C F j) h
 |assign y=>exact nP (fun v j=>cD C F j) h
 |pick c y z =>
  simp only[cj,Be,zA1,zA2]at h;obtain⟨W,_,h⟩:=h;split at h
  .exact nP (fun v j=>cD C F j) h
  .exact nP (fun v j=>cD C F j) h
  .cases h
 |alloc t =>simp only[cj,xk,zA1,zA2]at h;obtain⟨z,_,h⟩:=h;exact box h
 |box t y =>simp only[cj,xB,zA1,zA2]at h;obtain⟨z,_,h⟩:=h;exact box h
 |build t R =>simp only[cj,tA,zA1,zA2]at h;obtain⟨l,O,h⟩:=h;exact nP (fun v j=>JS (EM C F O) j) h
 |buildSlice t n R =>
  simp only[cj,iA,zA1,zA2]at h;obtain⟨l,O,h⟩:=h;refine qX (fun v g j=>?_) h;unfold bU at j;simp only[zA1,zA2]at j;obtain⟨u,_,j⟩:=j;split at j
  .simp only[zA2]at j;obtain⟨sz,_,z,_,j⟩:=j;split at j
   .simp only[zA2,i5,i6]at j;obtain⟨c,_,S,C,rfl,rfl⟩:=j;exact G C
   .cases j
  .cases j
 |load t y =>simp only[cj,Fb,zA1,zA2]at h;obtain⟨z,_,h⟩:=h;exact nP (fun v j=>wT L j) h
 |store t y z =>
  simp only[cj,zj,Mi,zA1,zA2,zB5,i6]at h;obtain⟨p,_,q,_,g,_,rfl,rfl⟩:=h
  trivial
 |nilCheck y =>
  simp only[cj,JB,zA1,zA2]at h;obtain⟨v,j,h⟩:=h;have M:=cD C F j;have T:aV H.next (jz P)=true:=by simp only[jz,strVal,aV]
  unfold zA at h;split at h
  all_goals first
   |(cases h; done)
   |(simp only[i5,i6]at h; obtain⟨rfl,rfl⟩:=h; first|exact T|exact M)
 |binOp J t y z u =>
  simp only[cj,BM,zA1,zA2]at h;obtain⟨p,E,q,K,h⟩:=h;unfold zo at h;split at h
  .rename_i v j;simp only[i5,i6]at h;obtain⟨rfl,rfl⟩:=h;exact Oa j
  .split at h
   .obtain⟨I,rfl⟩:=mapNext h;exact sW I
   .cases h
 |unOp J t y =>
  simp only[cj,QZ,zA1,zA2]at h;obtain⟨p,E,h⟩:=h;unfold QX at h;split at h
  .simp only[i5,i6]at h; obtain⟨rfl,rfl⟩:=h; simp only[FA,aV]
  .simp only[i5,i6]at h; obtain⟨rfl,rfl⟩:=h; simp only[FA,aV]
  .split at h
   .obtain⟨I,rfl⟩:=mapNext h;exact sW I
   .cases h
 |convert s d y =>simp only[cj,og,zA1,zA2]at h;obtain⟨p,E,h⟩:=h;exact qX (fun v g j=>DD (cD C F E) j) h
 |makeInterface t y =>
  simp only[cj,Ci,zA1,zA2]at h;obtain⟨p,E,h⟩:=h;unfold wP at h;split at h
  .cases h
  .simp only[i5,i6]at h;obtain⟨rfl,rfl⟩:=h;simp only[FA,aV]; exact cD C F E
  .cases h
 |makeFunc fn p q =>
  simp only[cj,Du,zA1,zA2]at h;obtain⟨u,U,v,j,h⟩:=h;unfold A9 at h;split at h
  .cases h
  .rename_i dK;simp only[i5,i6]at h;obtain⟨rfl,rfl⟩:=h;have I:=l7 C F U;have V:=l7 C F j
   cases fn with
   |yield l=>exact absurd rfl (dK l)
   |_=>simp only[FA,aV,eU,I,V,zD8]
 |makeMap t r =>
  have Q:∀ {x:cO} {H1:aa},qY H=ap (x,H1)->FA H1.next x:=by intro x H1 h;simp only[qY,i5,i6]at h;obtain⟨rfl,rfl⟩:=h;simp only[FA,aV];exact bx (zD9 _)
  cases r with
  |none=>exact Q h
  |some y =>
   simp only[cj,rD,zA1,zA2]at h;obtain⟨u,_,h⟩:=h;split at h
   .simp only[zA2]at h;obtain⟨v,_,h⟩:=h;split at h
    .exact Q h
    .cases h
   .cases h
 |makeSlice t l c =>
  simp only[cj,kA,zA1,zA2]at h;obtain⟨p,E,q,K,h⟩:=h;refine qX (fun v g j=>?_) h;unfold fc at j;split at j
  .simp only[zA1,zA2]at j;obtain⟨u,_,j⟩:=j;split at j
   .simp only[zA2]at j;obtain⟨by1,_,sz,_,z,_,j⟩:=j;split at j
    .simp only[zA2,i5,i6]at j;obtain⟨S,C,rfl,rfl⟩:=j;exact G C
    .cases j
   .cases j
  .cases j
 |slice t y lo hi X =>simp only[cj,wZ,zA1,zA2]at h;obtain⟨p,E,l,_,k,_,m,_,h⟩:=h;exact qX (fun v g j=>Ku (cD C F E) j) h
 |fieldAddr t y f =>
  simp only[cj,jo,zA1,zA2]at h;obtain⟨p,E,h⟩:=h;refine nP (fun v j=>?_) h;have B:=cD C F E;unfold aG at j;split at j
  .split at j
   .split at j
    .cases j
    .simp only[i5]at j;subst j;simp only[aV,Addr.add]at B ⊢;split<;>exact B
    .cases j
   .cases j
  .cases j
 |field t y f =>
  simp only[cj,CC,zA1,zA2]at h;obtain⟨p,E,h⟩:=h;refine nP (fun v j=>?_) h;have B:=cD C F E;unfold tS at j;split at j
  .split at j
   .refine Dj ?_ j;rw[aV,j8]at B; exact B
   .cases j
  .cases j
 |indexAddr t y i =>
  simp only[cj,iY,zA1,zA2]at h;obtain⟨p,E,q,K,h⟩:=h;refine nP (fun v j=>?_) h;have B:=cD C F E;unfold aS at j;split at j
  .simp only[zA1,zA2]at j;obtain⟨sz,_,j⟩:=j;split at j
   .simp only[i5]at j;subst j;simp only[aV,Addr.add]at B ⊢;split<;>exact B
   .cases j
  .simp only[zA1,zA2]at j;obtain⟨sz,_,j⟩:=j;split at j
   .simp only[i5]at j;subst j;simp only[aV]at B ⊢;exact B
   .cases j
  .cases j
 |index t y i =>
  simp only[cj,tJ,zA1,zA2]at h;obtain⟨p,E,q,K,h⟩:=h;have B:=cD C F E;unfold o8 at h;split at h
  .rename_i v j;simp only[i5,i6]at h;obtain⟨rfl,rfl⟩:=h;unfold gJ at j;split at j
   .simp only[zA1,zA2]at j;obtain⟨sz,_,j⟩:=j;split at j
    .refine Dj ?_ j;rw[aV,j8]at B; exact B
    .cases j
   .split at j
    .obtain⟨b,_,rfl⟩:=zB5.1 j;rfl
    .cases j
   .cases j
  .split at h
   .obtain⟨I,rfl⟩:=mapNext h;exact sW I
   .cases h
 |lookup t y k ok =>simp only[cj,vO,zA1,zA2]at h;obtain⟨p,E,q,K,h⟩:=h;exact nP (fun v j=>GB L j) h
 |mapUpdate t m k y =>
  simp only[cj,ij,Mi,zA1,zA2,zB5,i6]at h;obtain⟨p,_,q,_,r,_,g,_,rfl,rfl⟩:=h
  trivial
 |insert t m k y =>
  simp only[cj,ij,Mi,zA1,zA2,zB5,i6]at h;obtain⟨p,_,q,_,r,_,g,_,rfl,rfl⟩:=h
  trivial
 |range t y =>
  simp only[cj,BA,zA1,zA2]at h;obtain⟨p,E,h⟩:=h;refine qX (fun v g j=>?_) h;unfold qP at j;split at j
  .simp only[i5,i6]at j;obtain⟨rfl,rfl⟩:=j;simp only[aV];exact bx (zD9 _)
  .cases j
 |next Y s =>
  simp only[cj,Iy,zA1,zA2]at h;obtain⟨p,E,h⟩:=h;refine qX (fun v g j=>?_) h;unfold sa at j;split at j
  .split at j
   .split at j
    .simp only[i5,i6]at j;obtain⟨rfl,rfl⟩:=j;simp only[aV,eU,aX,goInt,zD8]
    .simp only[i5,i6]at j;obtain⟨rfl,rfl⟩:=j;simp only[aV,eU,aX,zD8]
   .cases j
  .cases j
 |typeAssert y t u ok =>simp only[cj,lF,zA1,zA2]at h;obtain⟨p,E,h⟩:=h;exact nP (fun v j=>xU (cD C F E) j) h
 |extract y i =>
  simp only[cj,mq,zA1,zA2]at h;obtain⟨p,E,h⟩:=h;have B:=cD C F E;unfold ku at h;split at h
  .refine nP (fun v j=>?_) h;rw[aV,j8]at B;exact iS B (zC0 j)
  .cases h
 |call c=>exact K1 C L F h
 |panic y =>
  simp only[cj,Fo,zA1,zA2]at h;obtain⟨p,E,h⟩:=h;have B:=cD C F E;unfold GV at h;split at h
  .simp only[i5,i6]at h;obtain⟨rfl,rfl⟩:=h;exact B
  .cases h
 |_=>simp[cj,Df]at h
def sJ(f:P.globals.size<=H.next)(b:Ow H)(c:iO H.next a):∀ {rs:List ResultVar} {vs:List gt},dH P H a rs=ap vs->aX H.next vs=bv
 |[],vs,h=>by simp only[dH,i5]at h; subst h; rfl
 |.tmp t::rs,vs,h=>by
  simp only[dH,zA1,zA2,i5]at h;obtain⟨g,d,rfl⟩:=h;rw[aX,sJ f b c d]
  have:aV H.next (a.tmp t)=true:=by
   unfold ai.tmp;split
   .rename_i i; exact c.1 t (bO i)
   .exact eG _
  rw[this]; rfl
 |.cell y t::rs,vs,h=>by simp only[dH,zA1,zA2,i5]at h;obtain⟨v,j,g,d,rfl⟩:=h;rw[aX,sJ f b c d,wT b j]; rfl
def P3{vs:List gt}(h:aX N vs=bv):aV N (BS vs)=true:=by
 unfold BS;split
 .exact iS h (zD7 ..)
 .rw[aV,sR]; exact h
end
def Ren.pe(ρ:Ren)(p:PanicEntry):PanicEntry:={p with v:=ρ.val p.v}
def Ren.exit(ρ:Ren):Exit->Exit
 |.panic b=>.panic (b.map ρ.pe)
 |e=>e
def Li(N:Nat):Exit->Prop
 |.panic b=>∀ p∈b,aV N p.v=bv
 |_=>True
structure cU (F:Fence):Prop where
 fn:∀ f,F.fn f
 depth:F.depth=bi
 alive:F.alive=gc
def cU.inRound{F:Fence}(h:cU F)(l:Nat):cU (F.inRound l):=⟨h.fn,h.depth,h.alive⟩
def cU.plain{F:Fence}(h:cU F):cU F.plain:=⟨h.fn,h.depth,h.alive⟩
def cU.all{F:Fence}(h:cU F)(P:io)(m:Machine):m.fenced P F:=by
 intro g _;refine⟨fun e=>?_,Or.inl (h.fn _),fun _ _=>h.fn _,fun _ e=>?_⟩
 .rw[h.alive]at e; cases e
 .rw[h.depth]at e; cases e
def cU.calls{F:Fence}(h:cU F){n:Nat}{P:io}{f:FuncId}{args:Array gt}{w:ip}{R:Ending->ip->Prop}(c:Calls P f args w R):CallsIn F n P f args w R:=by
 refine⟨h.fn f,fun cs _=>?_⟩;obtain⟨e,w',d,r,s,x⟩:=c cs;refine⟨e,w',d,r,?_,x⟩
 cases e with
 |returned v=>exact (StepsIn.of_steps s).mono fun m _=>h.all P m
 |panicked b=>exact (StepsIn.of_steps s).mono fun m _=>h.all P m
 |outgrown=>exact s
def cU.deep{F:Fence}(h:cU F){n:Nat}:F.depth.isSome=bv->1<=n:=fun e=>by rw[h.depth]at e; cases e
def de(P:io)(ro:Option Nat)(c:Code)(a:ai)(H:aa)(e:Exit)(a1:ai)(H1:aa):Prop :=
 ∀(ρ:Ren)(w:ip)(F:Fence)(n:Nat)(Q:Exit->Act->ip->Prop),cU F->F.round=ro.map ρ.blk->(∀ l,ro=ap l->l<H.next)->Rel P ρ H w->iO H.next a ->
  (∀ b w1,St P ρ H w b H1 w1->iO H1.next a1->Li H1.next e->Q (b.exit e) (b.act a1) w1)->c.wpIn F n P Q (ρ.act a) w
def Lm(P:io)(ρ:Ren)(H:aa)(w:ip)(out:Out)(H1:aa)(R:Ending->ip->Prop):Prop :=
 ∀ b w1,St P ρ H w b H1 w1->match out with
  |.ok v=>aV H1.next v=bv->R (.returned (b.val v)) w1
  |.error c=>(∀ p∈c,aV H1.next p.v=bv)->R (.panicked (c.map b.pe)) w1
def br(P:io)(f:FuncId)(args:List gt)(H:aa)(out:Out)(H1:aa):Prop :=
 ∀(ρ:Ren)(w:ip),Rel P ρ H w->aX H.next args=bv->∀(F:Fence)(n:Nat)(R:Ending->ip->Prop),cU F->Lm P ρ H w out H1 R->CallsIn F n P f (args.map ρ.val).toArray w R
structure Sound (P:io) (rec:Rec):Prop where
 run:∀(ro:Option Nat)(c:Code)(a:ai)(H:aa)(e:Exit)(a1:ai)(H1:aa),rec.run ro c a H=ap (e,a1,H1)->de P ro c a H e a1 H1
 know:∀(f:FuncId)(args:List gt)(v:gt)(H H1:aa),rec.know f args H=ap (v,H1)->br P f args H (.ok v) H1
section
variable{P:io}{ρ:Ren}{H:aa}{w:ip}
def A6(ρ:Ren)(args:List gt)(n:Nat)(h:args.length<=n) :
  (args.map ρ.val).toArray++Array.replicate (n-(args.map ρ.val).toArray.size) undef=ρ.tmps {RV.ofList args with n:=n}:=by
 apply Array.ext_getElem?;intro i;rw[jc];have d:({RV.ofList args with n:=n}:RV).get i=args.getD i undef:=RV.cb args i;rw[d];by_cases b:i<args.length
 .rw[Array.getElem?_append_left (by simpa using b),if_pos (by show i<n; omega)];simp[b]
 .rw[Array.getElem?_append_right (by simpa using b)];by_cases c:i<n
  .rw[if_pos c,Array.getElem?_replicate];simp only[List.size_toArray,zE9];rw[if_pos li];simp[List.getD,zC5 (Nat.not_lt.1 b)]
  .rw[if_neg c,Array.getElem?_replicate];simp only[List.size_toArray,zE9];rw[if_neg li]
def E1{args:List gt}{n N:Nat}(h:aX N args=bv):iO N ⟨{RV.ofList args with n:=n},[]⟩:=by
 refine⟨fun i _=>?_,fun d c=>by cases c⟩;have f:({RV.ofList args with n:=n}:RV).get i=args.getD i undef:=RV.cb args i;simp only[f];by_cases b:i<args.length
 .exact cx.1 h _ (by simp only[List.getD,zB3 b,Option.getD_some]; exact List.getElem_mem _)
 .rw[List.getD,zC5 (Nat.not_lt.1 b)]; exact eG N
def ud(ρ:Ren)(ops:Array Oper)(a:ai)(j:Nat) :
  yielded ops (ρ.act a).tmps j=match (ops[j]?).bind (·.dst) with
   |some d=>(match a.tmp d with
    |.bool b=>ap b
    |_=>bi)
   |none=>none:=by
 unfold yielded
 cases g:(ops[j]?).bind (·.dst) with
 |none=>simp
 |some d =>
  simp only[zA4,Ren.act,jc,ai.tmp];by_cases h:d<a.env.n
  .rw[if_pos h,bx h,if_pos rfl]
   cases i:a.env.get d with
   |bool b=>simp[Ren.val]
   |pointer p=>cases p<;>simp[Ren.val]
   |slice p _ _=>cases p<;>simp[Ren.val]
   |map p=>cases p<;>simp[Ren.val]
   |chan p =>
    cases p with
    |none=>simp[Ren.val]
    |some k =>
     have c:=ρ.op1 k;rw[Ren.val]
     cases f:ρ.op k with
     |bool b=>rw[f]at c; cases c
     |_=>rfl
   |_=>simp[Ren.val]
  .rw[if_neg h,mc h];simp[undef]
def gh(ρ:Ren){ops:Array Oper}{a:ai}{o:Oper}{b:Bool}(h:cG ops a o=ap b):Region.wanted o (yielded ops (ρ.act a).tmps)=b:=by
 unfold cG at h;unfold Region.wanted;split at h
 .rename_i f;simp only[i5]at h;rw[f]; simpa using h
 .rename_i j want f;rw[f];simp only[ud];split at h
  .rename_i m c;rw[c];simp only[zA4];split at h
   .rename_i d g;rw[g];simp only;split at h
    .rename_i l i;simp only[i5]at h;rw[i];simpa using h
    .rename_i i;simp only[i5]at h;subst h;split
     .rename_i l k; exact absurd k (i l)
     .rfl
   .rename_i g;simp only[i5]at h;subst h;rw[g]; rfl
  .rename_i c;simp only[i5]at h;subst h;rw[c]; rfl
def s9(tmps:Array gt):ResultVar->Sem gt
 |.tmp t=>pure (tmps.getD t undef)
 |.cell x t=>do loadVar t (<-asAddr (tmps.getD x undef))
def qM(r:Rel P ρ H w){a:ai}:∀ {rs:List ResultVar} {vs:List gt},dH P H a rs=ap vs->(rs.mapM (s9 (ρ.act a).tmps)).run P w=.ok (vs.map ρ.val) w
 |[],vs,h=>by simp only[dH,i5]at h; subst h; simp
 |.tmp t::rs,vs,h=>by
  simp only[dH,zA1,zA2,i5]at h;obtain⟨g,b,rfl⟩:=h;rw[List.mapM_cons];have c:s9 (ρ.act a).tmps (.tmp t)=pure (ρ.val (a.tmp t)):=by simp only[s9,sC]
  simp[qM r b,c]
 |.cell x t::rs,vs,h=>by
  simp only[dH,zA1,zA2,i5]at h;obtain⟨v,d,g,b,rfl⟩:=h;rw[List.mapM_cons];obtain⟨n,off,f⟩:=sG d;have i:=th r (by rw[<-f]; exact d);have c:(s9 (ρ.act a).tmps (.cell x t)).run P w=.ok (ρ.val v) w:=by simp only[s9,sC,f,pM,asAddr,Sem.run_bind,Sem.run_pure,Result.andThen_ok,i]
  simp[qM r b,c]
def OT(ρ:Ren)(vs:List gt):(if h:(vs.map ρ.val).toArray.size=1 then (vs.map ρ.val).toArray[0] else .tuple (vs.map ρ.val).toArray)=ρ.val (BS vs):=by
 cases vs with
 |nil=>simp[BS,Ren.val,Ren.eC,Ren.gI]
 |cons v r =>
  cases r with
  |nil=>simp[BS]
  |cons u r=>simp[BS,Ren.val,Ren.eC,Ren.nj]
def oI(r:Rel P ρ H w){a:ai}{fn:Func}{vs:List gt}(h:dH P H a fn.results.toList=ap vs) :
  (results fn (ρ.act a).tmps).run P w=.ok (ρ.val (BS vs)) w:=by
 have b:=qM r h
 have c:results fn (ρ.act a).tmps=(do
   let vs <-fn.results.mapM (s9 (ρ.act a).tmps)
   pure (if h:vs.size=1 then vs[0] else .tuple vs)):=by
  unfold results;congr 2
 rw[c,Array.mapM_eq_mapM_toList];simp only[Sem.run_bind,Sem.run_map,b,Result.andThen_ok,Sem.run_pure,OT]
def Qd.plain{F:Fence}{n:Nat}{f:FuncId}{args:Array gt}{R:Ending->ip->Prop}(h:CallsIn F.plain n P f args w R):CallsIn F n P f args w R:=h
def Rel.GX(r:Rel P ρ H w):Ow H:=r.dom
def Ren.mode(ρ:Ren):FrameMode->FrameMode
 |.panicking b=>.panicking (b.map ρ.pe)
 |u=>u
def B9(N:Nat):FrameMode->Prop
 |.panicking b=>∀ p∈b,aV N p.v=bv
 |_=>True
def B9.mono{N M:Nat}{u:FrameMode}(h:B9 N u)(b:N<=M):B9 M u:=by
 cases u with
 |panicking d=>exact fun p c=>cS b _ (h p c)
 |_=>trivial
def Oh{N:Nat}{ρ b:Ren}(e:Ext N ρ b){c:List PanicEntry}(h:∀ p∈c,aV N p.v=bv):c.map b.pe=c.map ρ.pe:=by apply List.map_congr_left;intro p d;simp only[Ren.pe,fJ e _ (h p d)]
def rF{N:Nat}{ρ b:Ren}(e:Ext N ρ b){u:FrameMode}(h:B9 N u):b.mode u=ρ.mode u:=by
 cases u with
 |panicking c=>simp only[Ren.mode,Oh e h]
 |_=>rfl
def C2(ρ:Ren):∀(l:List PanicEntry),(l.map ρ.pe).dropWhile (!·.goexit)=(l.dropWhile (!·.goexit)).map ρ.pe
 |[]=>rfl
 |p::l=>by
  simp only[zB9,List.dropWhile_cons,Ren.pe];split
  .exact C2 ρ l
  .rfl
def L7{l:List PanicEntry}{p:PanicEntry}(h:p∈l.dropWhile (!·.goexit)):p∈l:=(List.dropWhile_sublist _).subset h
def Fc(ρ:Ren)(u:FrameMode):settle (ρ.mode u)=ρ.mode (settle u):=by
 cases u with
 |panicking b =>
  cases b with
  |nil=>rfl
  |cons p l =>
   obtain⟨v,r,g⟩:=p
   cases r with
   |false=>rfl
   |true =>simp only[Ren.mode,zB9,Ren.pe,settle];rw[show List.map ρ.pe l=l.map ρ.pe from rfl,C2];cases l.dropWhile (!·.goexit)<;>rfl
 |_=>rfl
def GW{N:Nat}{u:FrameMode}(h:B9 N u):B9 N (settle u):=by
 cases u with
 |panicking b =>
  cases b with
  |nil=>exact h
  |cons p l =>
   obtain⟨v,r,g⟩:=p
   cases r with
   |false=>exact h
   |true =>
    simp only[settle]
    cases e:l.dropWhile (!·.goexit) with
    |nil=>trivial
    |cons q l' =>intro p c;exact h p (zC4 _ (L7 (by rw[e]; exact c)))
 |_=>trivial
def Ef(ρ:Ren)(u:FrameMode)(b:List PanicEntry):raised (ρ.mode u) (b.map ρ.pe)=ρ.mode (raised u b):=by cases u<;>simp[Ren.mode,raised]
def Gg{N:Nat}{u:FrameMode}{b:List PanicEntry}(h:B9 N u)(c:∀ p∈b,aV N p.v=bv):B9 N (raised u b):=by
 cases u with
 |panicking old =>
  intro p hp;rcases zB4.1 hp with hp|hp
  .exact c p hp
  .exact h p hp
 |_=>exact c
def J3{e:i4->gt}{o:Oper}(h:isRec o.op=bv):(execOp e o).run P w=.ok .recover w:=by
 obtain⟨dst,b,ty,af,c,d⟩:=o;simp only at h;unfold isRec at h;split at h
 .simp[execOp,resolve,invoke,builtin]
 .cases h
def BC(ρ:Ren){c:Frame}{u:FrameMode}(b:c.mode=ρ.mode u)(cs:List Frame) :
  recoverD (c::cs)=ap (ρ.val (eN u).1,{c with mode:=ρ.mode (eN u).2}::cs)\/(recoverD (c::cs)=bi/\eN u=(.nilIface,u)):=by
 cases u with
 |panicking d =>
  cases d with
  |nil=>right; simp only[Ren.mode,zE6]at b; simp[recoverD,b,eN]
  |cons p l =>
   obtain⟨v,r,g⟩:=p;simp only[Ren.mode,zB9,Ren.pe]at b
   cases r with
   |true=>right; simp[recoverD,b,eN]
   |false =>
    cases g with
    |true=>right; simp[recoverD,b,eN]
    |false=>left; simp[recoverD,b,eN,Ren.mode,Ren.pe]
 |run=>right; simp only[Ren.mode]at b; simp[recoverD,b,eN]
 |returning=>right; simp only[Ren.mode]at b; simp[recoverD,b,eN]
def BH{N:Nat}{u:FrameMode}(h:B9 N u):aV N (eN u).1=bv/\B9 N (eN u).2:=by
 unfold eN;split
 .rename_i v b;refine⟨h _ (zD7 ..),fun p hp=>?_⟩;rcases zA9.1 hp with rfl|hp
  .exact h ⟨v,gc,gc⟩ (zD7 ..)
  .exact h p (zC4 _ hp)
 .exact⟨by simp[aV],h⟩
def Qx(P:io)(ρ:Ren)(H:aa)(w:ip)(d:Frame)(cs:List Frame)(e:Exit)(a1:ai)(c:FrameMode)(H1:aa)(Q:Exit->Act->List Frame->ip->Prop):Prop :=
 ∀ b w1,St P ρ H w b H1 w1->iO H1.next a1->Li H1.next e->B9 H1.next c->Q (b.exit e) (b.act a1) ({d with mode:=b.mode c}::cs) w1
def tL{c:Frame}{u:FrameMode}(h:c.mode=u):({c with mode:=u}:Frame)=c:=by subst h; rfl
def vq{ops:Array Oper}{F:Fence}{n:Nat}{Q:Exit->Act->List Frame->ip->Prop}(M:cU F){cs:List Frame} :
  ∀(rest:List Oper)(k:Nat)(ρ:Ren)(H:aa)(w:ip)(a:ai)(u:FrameMode)(i:Frame)(e:Exit)(a1:ai)(t:FrameMode)(H1:aa),ops.toList.drop k=rest->j7 P ops rest a u H=ap (e,a1,t,H1) ->
   Rel P ρ H w->iO H.next a->B9 H.next u->i.mode=ρ.mode u->Qx P ρ H w i cs e a1 t H1 Q->wpOpsSIn F n P ops Q (List.range' k rest.length) (ρ.act a) (i::cs) w
 |[],k,ρ,H,w,a,u,i,e,a1,t,H1,_,h,r,j,d,l,B=>by simp only[j7,i5,i6]at h;obtain⟨rfl,rfl,rfl,rfl⟩:=h;have:=B ρ w (St.refl r) j trivial d;rw[tL l]at this;exact this
 |o::rest,k,ρ,H,w,a,u,i,e,a1,t,H1,O,h,r,j,d,l,B=>by
  have S:ops[k]?=ap o:=by have:=congrArg (·[0]?) O;simpa using this
  have C:ops.toList.drop (k+1)=rest:=by have:=congrArg List.tail O;simpa using this
  have next:∀(c:Ren)(g:aa)(w1:ip)(v:gt)(x:FrameMode)(y:Frame),St P ρ H w c g w1->aV g.next v=bv->B9 g.next x->y.mode=c.mode x->(∀ m,({y with mode:=m}:Frame)={i with mode:=m}) ->
    j7 P ops rest (a.put o.dst v) x g=ap (e,a1,t,H1)->wpOpsSIn F n P ops Q (List.range' (k+1) rest.length) ((ρ.act a).put o.dst (c.val v)) (y::cs) w1:=by
   intro c g w1 v x y s q E G T b;rw[<-fO s.ext j,jy];refine vq M rest (k+1) c g w1 _ x y e a1 t H1 C b s.rel ((j.mono s.le.next).put _ q) E G ?_;intro I U s2 J V W;rw[T];exact B I U (s.trans s2) J V W
  simp only[zA3,List.range'_succ,wpOpsSIn,S];refine⟨fun f _=>M.fn f,?_⟩;simp only[j7]at h;split at h
  .rename_i K;rw[gh ρ K,if_pos rfl];split at h
   .rename_i z;rw[J3 z];simp only;obtain⟨X,Y⟩:=BH d
    rcases BC ρ l cs with L|⟨L,J⟩
    .rw[L];exact next ρ H w _ _ _ (St.refl r) X Y rfl (fun _=>rfl) h
    .rw[L];rw[J]at h;have:=next ρ H w .nilIface u i (St.refl r) (by simp[aV]) d l (fun _=>rfl) h
     rw[show ρ.val .nilIface=.nilIface from by simp[Ren.val]]at this;exact this
   .split at h
    .rename_i v g hx;obtain⟨⟨c,w1,s,b⟩,_⟩:=sj r hx;simp only[gu]at b;rw[b];exact next c g w1 v u i s (CR r.glob.1 r.GX j hx) (d.mono s.le.next) (by rw[l,rF s.ext d]) (fun _=>rfl) h
    .rename_i g hx;obtain⟨⟨c,w1,s,b⟩,_⟩:=sj r hx;simp only[gu]at b;rw[b];have:=next c g w1 undef u i s (eG _) (d.mono s.le.next) (by rw[l,rF s.ext d]) (fun _=>rfl) h
     rw[Ren.val_undef]at this;exact this
    .rename_i v g hx;obtain⟨⟨c,w1,s,b⟩,_⟩:=sj r hx;simp only[gu]at b;rw[b];have q:aV g.next v=true:=CR r.glob.1 r.GX j hx;simp only[i5,i6]at h;obtain⟨rfl,rfl,rfl,rfl⟩:=h;have:=B c w1 s (j.mono s.le.next) (fun p R=>by simp at R; subst R; exact q) (d.mono s.le.next);rw[fO s.ext j,rF s.ext d,tL l]at this;exact this
    .cases h
  .rename_i K;rw[gh ρ K];simp only[zC8,if_false];have:=next ρ H w undef u i (St.refl r) (eG _) d l (fun _=>rfl) h
   rw[Ren.val_undef]at this;exact this
  .cases h
def Mb{rec:Rec}(p:Sound P rec){F:Fence}{n:Nat}(I:cU F)(q:F.round=bi){cs:List Frame} :
  ∀(c:Code)(ρ:Ren)(H:aa)(w:ip)(a:ai)(u:FrameMode)(b:Frame)(e:Exit)(a1:ai)(d:FrameMode)(H1:aa)(Q:Exit->Act->List Frame->ip->Prop),BV P rec c a u H=ap (e,a1,d,H1) ->
   Rel P ρ H w->iO H.next a->B9 H.next u->b.mode=ρ.mode u->Qx P ρ H w b cs e a1 d H1 Q->c.wpSIn F n P Q (ρ.act a) (b::cs) w:=by
 have lift:∀(c:Code)(ρ:Ren)(H:aa)(w:ip)(a:ai)(u:FrameMode)(b:Frame)(e:Exit)(a1:ai)(d:FrameMode)(H1:aa)(Q:Exit->Act->List Frame->ip->Prop),
   (rec.run bi c a H).map (fun r=>(r.1,r.2.1,u,r.2.2))=ap (e,a1,d,H1) ->
   Rel P ρ H w->iO H.next a->B9 H.next u->b.mode=ρ.mode u->Qx P ρ H w b cs e a1 d H1 Q->c.wpSIn F n P Q (ρ.act a) (b::cs) w:=by
  intro c ρ H w a u b e a1 d H1 Q h r g f i j;simp only[zB5,i6]at h;obtain⟨⟨S,T,U⟩,hr,rfl,rfl,rfl,rfl⟩:=h;refine wpSIn_of_wpIn q (p.run bi c a H _ _ _ hr ρ w F n _ I (by rw[q]; rfl) (fun l K=>by cases K) r g ?_);intro k w1 s v B;have:=j k w1 s v B (f.mono s.le.next);rw[rF s.ext f,tL i]at this;exact this
 intro c
 induction c with
 |seq x y m o =>
  intro ρ H w a u b e a1 d H1 Q h r g f i j;simp only[BV]at h;refine wpSIn_seq ?_;split at h
  .rename_i a2 J H2 hx;refine m ρ H w a u b .normal a2 J H2 _ hx r g f i ?_;intro k w1 s v _ C;refine o k H2 w1 a2 J _ e a1 d H1 Q h s.rel v C rfl ?_;intro E L s2 M O R;exact j E L (s.trans s2) M O R
  .rename_i dK;refine m ρ H w a u b e a1 d H1 _ h r g f i ?_;intro k w1 s v B C;have:=j k w1 s v B C
   cases e with
   |normal=>exact absurd h (dK a1 d H1)
   |_=>exact this
 |cond c x y m o =>
  intro ρ H w a u b e a1 d H1 Q h r g f i j;simp only[BV]at h;split at h
  .rename_i G;refine wpSIn_cond (t:=true) (by rw[aJ r G]; simp[Ren.val]) ?_;exact m ρ H w a u b e a1 d H1 Q h r g f i j
  .rename_i G;refine wpSIn_cond (t:=false) (by rw[aJ r G]; simp[Ren.val]) ?_;exact o ρ H w a u b e a1 d H1 Q h r g f i j
  .cases h
 |region id ops z =>
  intro ρ H w a u b e a1 d H1 Q h r g f i j
  cases z with
  |true=>exact lift _ ρ H w a u b e a1 d H1 Q h r g f i j
  |false =>
   simp only[BV]at h;split at h
   .refine wpSIn_region ?_;rw[List.range_eq_range'];have:=vq (n:=n) (Q:=Q) I (cs:=cs) ops.toList 0 ρ H w a u b e a1 d H1 lw h r g f i j;simpa using this
   .exact lift _ ρ H w a u b e a1 d H1 Q h r g f i j
 |_ =>intro ρ H w a u b e a1 d H1 Q h r g f i j;exact lift _ ρ H w a u b e a1 d H1 Q h r g f i j
def R8(P:io)(ρ:Ren)(H:aa)(w:ip)(out:Out)(c:FrameMode)(H1:aa)(R:Ending->FrameMode->ip->Prop):Prop :=
 ∀ b w1,St P ρ H w b H1 w1->B9 H1.next c->match out with
  |.ok v=>R (.returned (b.val v)) (b.mode c) w1
  |.error d=>(∀ p∈d,aV H1.next p.v=bv)->R (.panicked (d.map b.pe)) (b.mode c) w1
def wI{rec:Rec}(j:Sound P rec)(r:Rel P ρ H w){f:FuncId}{args:List gt}{u:FrameMode}{out:Out}{t:FrameMode}{H1:aa}(h:sP P rec f args u H=ap (out,t,H1))(l:aX H.next args=bv)(B:B9 H.next u)
  {F:Fence} {n:Nat} {R:Ending->FrameMode->ip->Prop} (v:cU F) (m:F.round=bi) (o:R8 P ρ H w out t H1 R):CallsDIn F n P f (args.map ρ.val).toArray (ρ.mode u) w R:=by
 simp only[sP,zA1,zA2]at h;obtain⟨fn,p,c,C,h⟩:=h;split at h
 .rename_i d;have d:=iq d;simp only[zA2]at h;obtain⟨⟨e,a1,E,H2⟩,hr,h⟩:=h;refine callsDIn_of_wpSIn p C (v.fn f) (fun G cs I=>?_);have k:({tmps:=(args.map ρ.val).toArray++Array.replicate (fn.ntmps-(args.map ρ.val).toArray.size) undef,defers:=[]}:Act)=ρ.act ⟨{RV.ofList args with n:=fn.ntmps},[]⟩:=by rw[A6 ρ args fn.ntmps d]; rfl
  rw[k];refine Mb j v m c ρ H w _ u G e a1 E H2 _ hr r (E1 l) B I ?_;intro g w1 s L J q;obtain⟨K,M⟩:=a1;unfold Rd at h;split at h
  .rename_i x y z b;simp only[i6,ai.mk.injEq]at b;obtain⟨rfl,⟨rfl,rfl⟩,rfl,rfl⟩:=b;simp only[zB5,i6]at h;obtain⟨vs,i,rfl,rfl,rfl⟩:=h;exact⟨rfl,_,rfl,_,oI s.rel i,o g w1 s q⟩
  .rename_i x y z b;simp only[i6,ai.mk.injEq]at b;obtain⟨rfl,⟨rfl,rfl⟩,rfl,rfl⟩:=b;simp only[zB5,i6]at h;obtain⟨vs,i,rfl,rfl,rfl⟩:=h;exact⟨rfl,_,rfl,_,oI s.rel i,o g w1 s q⟩
  .rename_i O x y z b;simp only[i6,ai.mk.injEq]at b;obtain⟨rfl,⟨rfl,rfl⟩,rfl,rfl⟩:=b;simp only[i5,i6]at h;obtain⟨rfl,rfl,rfl⟩:=h;exact⟨rfl,_,rfl,o g w1 s q J⟩
  .cases h
 .cases h
def vM(ρ:Ren)(c:Array gt):ρ.eC c=(c.toList.map ρ.val).toArray:=by rw[Ren.dO]; apply Array.ext'; simp
def nB{rec:Rec}(c:Sound P rec){F:Fence}{n:Nat}(q:cU F)(k:F.round=bi){fn:Func}{a1:ai}{R:Ending->ip->Prop} :
  ∀(j:List Deferred)(u:FrameMode)(H:aa)(w:ip)(ρ:Ren)(out:Out)(H1:aa),dL P rec fn a1 j u H=ap (out,H1)->Rel P ρ H w->iO H.next a1->(∀ d∈j,Pu H.next d)->B9 H.next u ->
   Lm P ρ H w out H1 R->LeavesInM F n P fn (ρ.act a1).tmps R (j.map ρ.sd) (ρ.mode u) w
 |[],u,H,w,ρ,out,H1,h,r,t,y,I,G=>by
  cases u with
  |run=>simp[dL]at h
  |returning =>simp only[dL,zB5,i6]at h;obtain⟨vs,J,rfl,rfl⟩:=h;exact⟨_,oI r J,G ρ w (St.refl r) (P3 (sJ r.glob.1 r.GX t J))⟩
  |panicking O =>simp only[dL,i5,i6]at h;obtain⟨rfl,rfl⟩:=h;exact G ρ w (St.refl r) I
 |d::j,u,H,w,ρ,out,H1,h,r,t,y,I,G=>by
  have dK:ρ.mode u≠.run:=by
   cases u with
   |run=>simp[dL]at h
   |_=>simp[Ren.mode]
  refine⟨dK,?_⟩
  rcases y d (zD7 ..) with⟨x,rfl,hx⟩|⟨f,cap,l,rfl,K,Q⟩
  .have m : (match (generalizing := false) H.get x with
     |some ⟨.deferred (ap []),_,_⟩=>dL P rec fn a1 j u (H.cy x (ap ⟨.deferred bi,gc,⟨[],0⟩⟩))
     |_=>bi)=ap (out,H1):=by
    cases u with
    |run=>simp[dL]at h
    |_=>simp only[dL]at h; exact h
   clear h;split at m
   .rename_i o v S;obtain⟨o',T,W⟩:=r.obj _ _ S;simp only[Fits]at W;subst W;obtain⟨X,Y,Z⟩:=fU (w:=w) (ρ.blk x) _ (.deferred bi) T
    have L:St P ρ H w ρ (H.cy x (ap ⟨.deferred bi,gc,⟨[],0⟩⟩)) {w with heap:=w.heap.setIfInBounds (ρ.blk x) (.deferred bi)} :=
     St.cy r (bw S) (rr S rfl) (by simp[ki]) (by simp[Fits]) X Y Z rfl rfl rfl
    have ih:=nB c q k (n:=n) (R:=R) j u _ _ ρ out H1 m L.rel t (fun d b=>y d (zC4 _ b)) I (fun i w1 s=>G i w1 (L.trans s));refine .inl ⟨ρ.blk x,_,rfl,?_,ih⟩;simp[Instr.takeDeferred,getObj,Sem.run,T,hJ (P:=P) (o':=.deferred bi) T (fun _ _ _=>by simp)]
   .cases m
  .have m : (if aB P f then
     match (generalizing:=false) sP P rec f (l.toList++cap.toList) u H with
     |some (.ok _,M,H1)=>dL P rec fn a1 j (settle M) H1
     |some (.error O,M,H1)=>dL P rec fn a1 j (raised M O) H1
     |none=>bi
    else bi)=ap (out,H1):=by
    cases u with
    |run=>simp[dL]at h
    |_=>simp only[dL]at h; exact h
   clear h;split at m
   .rename_i hb;have p:aX H.next (l.toList++cap.toList)=true:=eI (by rw[<-j8]; exact Q) (by rw[<-j8]; exact K);have z:ρ.eC l++ρ.eC cap=((l.toList++cap.toList).map ρ.val).toArray:=by rw[vM,vM]; simp
    refine .inr ⟨q.deep,.func f,ρ.eC cap,f,((l.toList++cap.toList).map ρ.val).toArray,rfl,?_,fun g _=>q.fn g,?_⟩
    .simp only[Ren.sd,Ren.fn,invoke,z];exact uS hb
    .split at m
     .rename_i v M H2 B;refine wI c r B p I q k ?_;intro i w1 s C;simp only;rw[Fc,<-fO s.ext t,show j.map ρ.sd=j.map i.sd from List.map_congr_left fun d b=>(sn s.ext (y d (zC4 _ b))).symm];exact nB c q k j _ H2 w1 i out H1 m s.rel (t.mono s.le.next) (fun d b=>(y d (zC4 _ b)).mono s.le.next) (GW C) (fun E U s2=>G E U (s.trans s2))
     .rename_i O M H2 B;refine wI c r B p I q k ?_;intro i w1 s C V;simp only;rw[Ef,<-fO s.ext t,show j.map ρ.sd=j.map i.sd from List.map_congr_left fun d b=>(sn s.ext (y d (zC4 _ b))).symm];exact nB c q k j _ H2 w1 i out H1 m s.rel (t.mono s.le.next) (fun d b=>(y d (zC4 _ b)).mono s.le.next) (Gg C V) (fun E U s2=>G E U (s.trans s2))
     .cases m
   .cases m
def w7{rec:Rec}(g:Sound P rec){f:FuncId}{args:List gt}{fn:Func}{c:Code}{e:Exit}{a1:ai}{H2 H1:aa}{out:Out}(m:P.funcs[f]?=ap fn)(x:fn.body=ap c)(o:args.length<=fn.ntmps)
  (y:de P bi c ⟨{RV.ofList args with n:=fn.ntmps},[]⟩ H e a1 H2) (h:Km P rec fn (e,a1,H2)=ap (out,H1)):br P f args H out H1:=by
 intro ρ w r p F n R q z;refine Qd.plain (callsIn_of_wp_marks m x (q.plain.fn f) ?_ rfl);have i:({tmps:=(args.map ρ.val).toArray++Array.replicate (fn.ntmps-(args.map ρ.val).toArray.size) undef,defers:=[]}:Act)=ρ.act ⟨{RV.ofList args with n:=fn.ntmps},[]⟩:=by rw[A6 ρ args fn.ntmps o]; rfl
 rw[i];refine y ρ w F.plain n _ q.plain rfl (fun l s=>by cases s) r (E1 p) ?_;intro b w1 j k t
 have d:∀(u:FrameMode),dL P rec fn a1 a1.defers u H2=ap (out,H1)->B9 H2.next u->LeavesInM F.plain n P fn (b.act a1).tmps R (b.act a1).defers (b.mode u) w1 :=
  fun u s B=>nB g q.plain rfl a1.defers u H2 w1 b out H1 s j.rel k k.2 B (fun v C s2=>z v C (j.trans s2))
 cases e with
 |normal=>exact d .returning h trivial
 |ret=>exact d .returning h trivial
 |panic E=>exact d (.panicking E) h t
 |exit id=>simp[Km]at h
 |goto l=>simp[Km]at h
 |outgrown=>simp[Km]at h
def yj{rec:Rec}(b:Sound P rec)(r:Rel P ρ H w){f:FuncId}{args:List gt}{out:Out}{H1:aa}(h:CS P rec f args H=ap (out,H1))(d:aX H.next args=bv)
  {F:Fence} {n:Nat} {R:Ending->ip->Prop} (j:cU F) (k:Lm P ρ H w out H1 R):CallsIn F n P f (args.map ρ.val).toArray w R:=by
 simp only[CS,zA1,zA2]at h;obtain⟨fn,g,c,l,h⟩:=h;split at h
 .rename_i i;simp only[zA2]at h;obtain⟨⟨e,a1,H2⟩,hr,h⟩:=h;exact w7 b g l (iq i) (b.run bi c _ H e a1 H2 hr) h ρ w r d F n R j k
 .cases h
def uP{l:Nat}{b:Loop}{e:RV}(h:getLoop H l=ap (b,e)):∃ o,H.get l=ap ⟨.loop b,o,e⟩:=by
 unfold getLoop at h;split at h
 .rename_i r o d c;simp only[i5,i6]at h;obtain⟨rfl,rfl⟩:=h;exact⟨o,c⟩
 .cases h
def lE(r:Rel P ρ H w){l:Nat}{b lp':Loop}{e:RV}(h:getLoop H l=ap (b,e))(f:lp'.defers=b.defers) :
  ∃ fn,(Instr.getLoop (ρ.blk l)).run P w=.ok {b with fn:=fn,tmps:=ρ.tmps e,defers:=ρ.blk b.defers} w /\
   ∃ w1,(setObj (ρ.blk l) (.loop {lp' with fn:=fn,tmps:=ρ.tmps e,defers:=ρ.blk b.defers})).run P w=.ok () w1/\St P ρ H w ρ (eK H l lp' e) w1:=by
 obtain⟨o,c⟩:=uP h;obtain⟨fn,g,d⟩:=pC r c;refine⟨fn,d,_,hJ g (fun _ _ _=>by simp),?_⟩;obtain⟨j,k,m⟩:=fU (w:=w) (ρ.blk l) _ (.loop {lp' with fn:=fn,tmps:=ρ.tmps e,defers:=ρ.blk b.defers}) g;have i:=(r.dom _ _ c).2;simp only[ki]at i;refine St.cy r (bw c) (rr c rfl) ?_ ?_ j k m rfl rfl rfl
 .simp only[ki,f]; exact i
 .simp only[Fits,f]; exact⟨fn,rfl⟩
def St.below(r:Rel P ρ H w){w1:ip}(h:RowKit.Below w.heap.size w w1):St P ρ H w ρ H w1:=by refine⟨Ext.refl _ _,Le.refl _,⟨r.base,r.glob,r.inj,r.dom,fun n o c=>?_⟩,h.os,h.tape,h.output,h.size,fun b d _=>h.block b d,fun n g f=>absurd (r.lt f) li,fun _ _=>⟨id,rfl⟩⟩;rw[h.block _ (r.sT (bw c))];exact r.obj n o c
def tD(ρ:Ren):∀(l:List gt),(∀ x∈l,af x=bv)->l.map ρ.val=l
 |[],_=>rfl
 |x::l,h=>by rw[zB9,di ρ x (h x (zD7 ..)),tD ρ l (fun y b=>h y (zC4 _ b))]
def zG{rec:Rec}(b:Sound P rec)(r:Rel P ρ H w){f:FuncId}{args:List gt}{out:Out}{H1:aa}(h:IK P rec f args H=ap (out,H1))(c:aX H.next args=bv)
  {F:Fence} {n:Nat} {R:Ending->ip->Prop} (d:cU F) (i:Lm P ρ H w out H1 R):CallsIn F n P f (args.map ρ.val).toArray w R:=by
 unfold IK at h;split at h
 .rename_i v g j;simp only[i5,i6]at h;obtain⟨rfl,rfl⟩:=h;exact b.know f args v H g j ρ w r c F n R d i
 .exact yj b r h c d i
def B5(P:io)(rd:Round)(H:aa)(out:Out)(H1:aa):Prop :=
 ∀(ρ:Ren)(w:ip),Rel P ρ H w->rd.l<H.next->(∀ i,i<rd.env.n->aV H.next (rd.env.get i)=bv)->∀(F:Fence)(n:Nat)(f:FuncId)(R:Ending->ip->Prop),cU F->Lm P ρ H w out H1 R->RoundIn F n P (ρ.blk rd.l) f (ρ.tmps rd.env) rd.assign rd.body w R
def FX{rd:Round}{a1 a2:ai}{H2 M:aa}{O:Exit}{q c:Loop}{le s:RV}{j:Option Code}(hr:de P (ap rd.l) rd.assign ⟨rd.env,[]⟩ H .normal a1 H2)
  (Q:getLoop H2 rd.l=ap (q,le)) (u:q.state=.ready) (S:de P (ap rd.l) rd.body a1 (eK H2 rd.l {q with state:=.busy} le) O a2 M) (p:pD O=ap j) (C:getLoop M rd.l=ap (c,s)) :
  B5 P rd H (.ok (kw j.isNone)) (eK M rd.l {c with state:=if j.isNone then .ready else .done,pending:=j} s):=by
 intro ρ w r T U F n f R V hR;refine roundIn_of_wpIn (V.fn f) ?_;have E:({tmps:=ρ.tmps rd.env,defers:=[]}:Act)=ρ.act ⟨rd.env,[]⟩:=rfl;rw[E];refine hr ρ w (F.inRound (ρ.blk rd.l)) n _ (V.inRound _) rfl (fun l e=>by cases e; exact T) r ⟨U,fun d hd=>by cases hd⟩ ?_;intro h w1 v W hsx;have k:h.blk rd.l=ρ.blk rd.l:=v.ext.blk _ T;obtain⟨fn,G,X,x,y⟩:=lE v.rel (lp':={q with state:=.busy}) Q rfl;rw[k]at G x;refine⟨X,?_,?_⟩
 .simp only[Instr.beginRound,Sem.run_bind,G,Result.andThen_ok];rw[show ({({q with fn:=fn,tmps:=h.tmps le,defers:=h.blk q.defers}:Loop) with state:=.busy}:Loop)={({q with state:=.busy}:Loop) with fn:=fn,tmps:=h.tmps le,defers:=h.blk q.defers} from rfl,x];simp[u]
 .have I:(eK H2 rd.l {q with state:=.busy} le).next=H2.next:=rfl;have J:rd.l<H2.next:=zD1 T v.le.next;refine S h X (F.inRound (ρ.blk rd.l)) n _ (V.inRound _) (by simp[k]) (fun l e=>by cases e; rw[I]; exact J) y.rel W ?_;intro i w3 m Y Z;have B:i.blk rd.l=ρ.blk rd.l:=(m.ext.blk _ (by rw[I]; exact J)).trans k;obtain⟨K,z,w4,o,L⟩:=lE m.rel (lp':={c with state:=if j.isNone then .ready else .done,pending:=j}) C rfl;rw[B]at z o
  have g:(Instr.endRound (ρ.blk rd.l) j).run P w3=.ok (kw j.isNone) w4:=by
   simp only[Instr.endRound,Sem.run_bind,z,Result.andThen_ok]
   rw[show ({({c with fn:=K,tmps:=i.tmps s,defers:=i.blk c.defers}:Loop) with state:=if j.isNone then .ready else .done,pending:=j}:Loop) =
    {({c with state:=if j.isNone then .ready else .done,pending:=j}:Loop) with fn:=K,tmps:=i.tmps s,defers:=i.blk c.defers} from rfl,o]
   simp
  have b:=hR i w4 (((v.trans y).trans m).trans L) (by simp only[aV]);simp only[Ren.val]at b
  cases O with
  |normal=>simp only[pD,i5]at p; subst p; exact⟨_,_,g,b⟩
  |ret=>simp only[pD,i5]at p; subst p; exact⟨_,_,g,b⟩
  |exit id=>simp only[pD,i5]at p; subst p; exact⟨_,_,g,b⟩
  |goto t=>simp only[pD,i5]at p; subst p; exact⟨_,_,g,b⟩
  |panic ch=>simp[pD]at p
  |outgrown=>simp[pD]at p
def Db{rec:Rec}(c:Sound P rec){rd:Round}{out:Out}{H1:aa}(h:GH rec rd H=ap (out,H1)):B5 P rd H out H1:=by
 unfold GH at h;simp only[zA1,zA2]at h;obtain⟨⟨e,a1,H2⟩,hr,h⟩:=h
 cases e with
 |normal =>
  simp only[zA2]at h;obtain⟨⟨g,le⟩,hlp,h⟩:=h;simp only at h;split at h
  .rename_i b;simp only[zA2]at h;obtain⟨⟨i,a2,k⟩,hr2,j,hj,⟨d,f⟩,hlp2,h⟩:=h;simp only[i5,i6]at h;obtain⟨rfl,rfl⟩:=h;exact FX (c.run _ _ _ _ _ _ _ hr) hlp b (c.run _ _ _ _ _ _ _ hr2) hj hlp2
  .cases h
 |exit id=>cases h
 |goto l=>cases h
 |ret=>cases h
 |panic m=>cases h
 |outgrown=>cases h
end
section
variable{P:io}{ρ:Ren}{H:aa}{w:ip}
def R4(P:io)(ρ:Ren)(H:aa)(w:ip)(a:Act)(dst:Option Tmp)(out:Out)(H1:aa)(K:Act->ip->Prop)(Q:Exit->Act->ip->Prop):Prop :=
 ∀ b w1,St P ρ H w b H1 w1->match out with
  |.ok v=>aV H1.next v=bv->K (a.put dst (b.val v)) w1
  |.error c=>(∀ p∈c,aV H1.next p.v=bv)->Q (.panic (c.map b.pe)) a w1
def Da{rec:Rec}(m:Sound P rec)(r:Rel P ρ H w){a:ai}(B:iO H.next a){o:Oper}{out:Out}{H1:aa}(h:Qk P rec a H o=ap (out,H1)){ca:Act}(y:∀ x∈o.op.operands,ca.eval x=(ρ.act a).eval x)
  {F:Fence} {n:Nat} {K:Act->ip->Prop} {Q:Exit->Act->ip->Prop} (s:cU F) (q:R4 P ρ H w ca o.dst out H1 K Q):o.wpIn F n P ca w K Q:=by
 simp only[Qk,zA2]at h;obtain⟨⟨x,g⟩,hx,h⟩:=h;have j:=CR r.glob.1 r.GX B hx;obtain⟨⟨l,w1,d,c⟩,hnd⟩:=sj r hx;refine⟨fun f _=>s.fn f,?_⟩;have t:∀ cs b,o.op≠.select cs b:=fun cs b e=>by rw[e]at hx; simp[cj,Df]at hx
 rw[Oper.semAt_eq _ _ _ hnd,execOp_congr o t y]
 cases x with
 |value v =>simp only[Q2,i5,i6]at h;obtain⟨rfl,rfl⟩:=h;simp only[gu]at c;rw[c,Oper.uponIn_value];exact q l w1 d j
 |skip =>simp only[Q2,i5,i6]at h;obtain⟨rfl,rfl⟩:=h;simp only[gu]at c;rw[c,Oper.uponIn_skip];have:=q l w1 d (eG _);simpa using this
 |enter f args =>
  simp only[Q2]at h;simp only[gu]at c;rw[c,Oper.uponIn_enter];refine⟨s.deep,zG m d.rel h j s ?_⟩;intro k u i
  cases out with
  |ok v=>exact q k u (d.trans i)
  |error C=>exact q k u (d.trans i)
 |round rd =>
  simp only[Q2]at h;simp only[gu]at c;obtain⟨fn,c⟩:=c;rw[c,Oper.uponIn_round];refine⟨s.deep,Db m h l w1 d.rel j.1 j.2 _ _ _ _ s ?_⟩;intro k u i
  cases out with
  |ok v=>exact q k u (d.trans i)
  |error C=>exact q k u (d.trans i)
 |panic v =>simp only[Q2,i5,i6]at h;obtain⟨rfl,rfl⟩:=h;simp only[gu]at c;rw[c,Oper.uponIn_panic];exact q l w1 d (fun p z=>by simp at z; subst z; exact j)
def F8(P:io)(a:ai)(H:aa)(o:Oper)(out:Out)(H1:aa):Prop :=
 ∀(ρ:Ren)(w:ip),Rel P ρ H w->iO H.next a->∀(ca:Act),(∀ x∈o.op.operands,ca.eval x=(ρ.act a).eval x) ->
  ∀(F:Fence)(n:Nat)(K:Act->ip->Prop)(Q:Exit->Act->ip->Prop),cU F->R4 P ρ H w ca o.dst out H1 K Q->o.wpIn F n P ca w K Q
def HU{rec:Rec}(b:Sound P rec){a:ai}{o:Oper}{out:Out}{H1:aa}(h:Qk P rec a H o=ap (out,H1)):F8 P a H o out H1 :=
 fun _ _ r d _ c _ _ _ _ f g=>Da b r d h c f g
def HJ{rec:Rec}(b:Sound P rec)(r:Rel P ρ H w){a:ai}(c:iO H.next a){o:Oper}{out:Out}{H1:aa}(h:Qk P rec a H o=ap (out,H1))
  {F:Fence} {n:Nat} {K:Act->ip->Prop} {Q:Exit->Act->ip->Prop} (d:cU F) (f:R4 P ρ H w (ρ.act a) o.dst out H1 K Q):o.wpIn F n P (ρ.act a) w K Q :=
 Da b r c h (fun _ _=>rfl) d f
def xw(r:Rel P ρ H w){a:ai}(p:iO H.next a){o:Oper}{d:Deferred}(h:qC P a o.op=ap d):(execOp (ρ.act a).eval o).run P w=.ok (.defer (ρ.sd d)) w/\Pu H.next d:=by
 obtain⟨dst,v,ty,after,x,y⟩:=o;simp only at h;unfold qC at h;split at h
 .rename_i c;split at h
  .rename_i f j;simp only[zA1,zA2]at h;obtain⟨args,i,z,l,h⟩:=h;unfold K4 at h;split at h
   .rename_i g first b
    simp only[i5]at h;subst h;have m:=cD r.glob.1 p l;simp only[aV,zA7]at m;refine⟨?_,.inr ⟨g,b,_,rfl,m.2,?_⟩⟩
    .have s:=aJ r l;have q:=kH r i;obtain⟨n,k,t⟩:=c;simp only at j q;subst j;simp only[execOp,resolve,s,Ren.val,Deferred.ofValue,Ren.fn,Sem.run_bind,Sem.run_pure,Result.andThen_ok,Ren.sd];congr 3;rw[vM,vM,List.map_append];have u:k.map (ρ.act a).eval=(args.map ρ.val).toArray:=by apply Array.ext';simpa using q
     rw[u]; simp
    .obtain⟨B⟩:=first
     rw[eU]at m ⊢;exact eI m.1 (l7 r.glob.1 p i)
   .cases h
  .cases h
 .cases h
def nk{rec:Rec}(b:Sound P rec){t:Bool}{ops:Array Oper}{F:Fence}{n:Nat}{Q:Exit->Act->ip->Prop}(m:cU F)(j:t=bv->F.round=bi) :
  ∀(rest:List Oper)(k:Nat)(ρ:Ren)(H:aa)(w:ip)(a:ai)(e:Exit)(a1:ai)(H1:aa),ops.toList.drop k=rest->qV P rec t ops rest a H=ap (e,a1,H1)->Rel P ρ H w->iO H.next a ->
   (∀ i w1,St P ρ H w i H1 w1->iO H1.next a1->Li H1.next e->Q (i.exit e) (i.act a1) w1)->wpOpsIn F n P ops Q (List.range' k rest.length) (ρ.act a) w
 |[],k,ρ,H,w,a,e,a1,H1,_,h,r,l,s=>by simp only[qV,i5,i6]at h;obtain⟨rfl,rfl,rfl⟩:=h;exact s ρ w (St.refl r) l trivial
 |o::rest,k,ρ,H,w,a,e,a1,H1,J,h,r,l,s=>by
  have K:ops[k]?=ap o:=by have:=congrArg (·[0]?) J;simpa using this
  have hd':ops.toList.drop (k+1)=rest:=by have:=congrArg List.tail J;simpa using this
  simp only[zA3,List.range'_succ,wpOpsIn,K];simp only[qV]at h;split at h
  .rename_i z;rw[gh ρ z,if_pos rfl];split at h
   .rename_i v g p;refine HJ b r l p m ?_;intro i w1 c q;have B:iO g.next a:=l.mono c.le.next;rw[<-fO c.ext l,jy];refine nk b m j rest (k+1) i g w1 (a.put o.dst v) e a1 H1 hd' h c.rel (B.put _ q) ?_;intro C L u M O;exact s C L (c.trans u) M O
   .rename_i S g p;simp only[i5,i6]at h;obtain⟨rfl,rfl,rfl⟩:=h;refine HJ b r l p m ?_;intro i w1 c q;have:=s i w1 c (l.mono c.le.next) q;rw[fO c.ext l]at this;exact this
   .split at h
    .rename_i d E;obtain⟨x,G⟩:=xw r l E;refine⟨fun f _=>m.fn f,?_⟩;rw[j rfl,Oper.semAt_none,x];have y:=jy ρ ⟨a.env,d::a.defers⟩ o.dst undef;rw[Ren.val_undef]at y
     have I:iO H.next ⟨a.env,d::a.defers⟩:=⟨l.1,fun R hd'=>by
      rcases zA9.1 hd' with rfl|hd'
      .exact G
      .exact l.2 R hd'⟩
     have:=nk (n:=n) (Q:=Q) b m j rest (k+1) ρ H w (ai.put ⟨a.env,d::a.defers⟩ o.dst undef) e a1 H1 hd' h r (I.put _ (eG _)) s;rw[<-y]at this;exact this
    .cases h
  .rename_i z;rw[gh ρ z];simp only[zC8,if_false];refine⟨fun f _=>m.fn f,?_⟩;have y:=jy ρ a o.dst undef;rw[Ren.val_undef]at y;rw[y];exact nk b m j rest (k+1) ρ H w (a.put o.dst undef) e a1 H1 hd' h r (l.put _ (eG _)) s
  .cases h
def qu(r:Rel P ρ H w){ro:Option Nat}{a:ai}{j:Array Tmp}{assign body:Code}{l:Nat}{mark:List Deferred}{H1:aa}(s:∀ l,ro=ap l->l<H.next)(b:∀ i,i<a.env.n->aV H.next (a.env.get i)=bv)
  (h:enterLoop ro a j assign body H=ap (l,mark,H1)) (fn:FuncId) :
  ∃ f w1,St P ρ H w f H1 w1/\(Instr.enterLoop fn (ρ.act a).tmps j assign body (ro.map ρ.blk)).run P w=.ok (f.blk l,mark.map f.sd) w1/\l<H1.next/\∀ d∈mark,Pu H1.next d:=by
 unfold enterLoop at h
 .split at h
  .simp only[i5,i6]at h;obtain⟨rfl,rfl,rfl⟩:=h;have p:=St.new r ⟨.deferred (ap []),gc,⟨[],0⟩⟩ (.deferred (ap [])) 0 0 (by simp[ki]) (by simp[Fits]);have g:(H.new ⟨.deferred (ap []),gc,⟨[],0⟩⟩).next=H.next+1:=rfl
   have s2:=St.new p.rel (lh a j assign body H.next)
    (.loop {state:=.ready,pending:=bi,fn:=fn,tmps:=ρ.tmps a.env,params:=j,assign,body,defers:=w.heap.size}) 0 0
    (by
     simp only[lh,ki,g]
     exact⟨zD9 _,fun i hi=>cS (Nat.le_succ _) _ (b i hi)⟩)
    (by
     simp only[lh,Fits,g];refine⟨fn,?_⟩
     have t:Ext H.next ρ ((ρ.at H.next w.heap.size 0 0).at (H.next+1) (w.alloc (.deferred (ap []))).heap.size 0 0) :=
      (Ren.gB ρ H.next w.heap.size 0 0).trans (Ren.gB _ (H.next+1) _ 0 0) (Nat.le_succ _)
     rw[Ren.rq t _ b,(Ren.gB (ρ.at H.next w.heap.size 0 0) (H.next+1) _ 0 0).blk _ (zD9 _),Ren.at_blk])
   refine⟨_,_,p.trans s2,?_,zD9 _,fun d c=>by simp at c; subst c; exact .inl ⟨_,rfl,by show H.next<H.next+1+1; omega⟩⟩;have u:((ρ.at H.next w.heap.size 0 0).at (H.next+1) (w.alloc (.deferred (ap []))).heap.size 0 0).blk (H.next+1)=w.heap.size+1:=by rw[Ren.at_blk]; simp
   have k:((ρ.at H.next w.heap.size 0 0).at (H.next+1) (w.alloc (.deferred (ap []))).heap.size 0 0).blk H.next=w.heap.size:=by rw[(Ren.gB (ρ.at H.next w.heap.size 0 0) (H.next+1) _ 0 0).blk _ (zD9 _),Ren.at_blk]
   simp only[Instr.enterLoop,Option.map_none,Sem.run_bind,run_newObj,Result.andThen_ok,Sem.run_pure,g,u];simp only[zB9,zE6,Ren.sd,k];simp[Ren.act];rfl
  .rename_i z;simp only[zA1,zA2]at h;obtain⟨⟨q,le⟩,hlp,h⟩:=h;simp only at h;split at h
   .rename_i c;have c:=bO c;simp only[i5,i6]at h;obtain⟨rfl,rfl,rfl⟩:=h;obtain⟨o,v⟩:=uP hlp;obtain⟨x,y,m⟩:=pC r v
    have s2:=St.new r (lh a j assign body q.defers)
     (.loop {state:=.ready,pending:=bi,fn:=fn,tmps:=ρ.tmps a.env,params:=j,assign,body,defers:=ρ.blk q.defers}) 0 0
     (by
      simp only[lh,ki]
      exact⟨c,b⟩)
     (by
      simp only[lh,Fits];refine⟨fn,?_⟩
      rw[Ren.rq (Ren.gB ρ H.next w.heap.size 0 0) _ b,(Ren.gB ρ H.next w.heap.size 0 0).blk _ c])
    refine⟨_,_,s2,?_,zD9 _,fun d c=>by cases c⟩;simp only[Instr.enterLoop,zB1,Sem.run_bind,m,run_newObj,Result.andThen_ok,Sem.run_pure,Ren.at_blk,zE6];simp[Ren.act]
   .cases h
end
mutual
def dQ{N:Nat}:∀ v,aV N v=bv->∀ n∈ae v,n<N
 |.bool _,_,n,hn=>by simp[ae]at hn
 |.int _ _,_,n,hn=>by simp[ae]at hn
 |.float _ _,_,n,hn=>by simp[ae]at hn
 |.complex _ _ _,_,n,hn=>by simp[ae]at hn
 |.string _,_,n,hn=>by simp[ae]at hn
 |i9 bi,_,n,hn=>by simp[ae]at hn
 |i9 (ap a),h,n,hn=>by simp only[ae,zA6]at hn;subst hn;exact bO (by simpa[aV]using h)
 |jp bi _ _,_,n,hn=>by simp[ae]at hn
 |jp (ap a) _ _,h,n,hn=>by simp only[ae,zA6]at hn;subst hn;exact bO (by simpa[aV]using h)
 |.map bi,_,n,hn=>by simp[ae]at hn
 |.map (ap r),h,n,hn=>by simp only[ae,zA6]at hn;subst hn;exact bO (by simpa[aV]using h)
 |.chan bi,_,n,hn=>by simp[ae]at hn
 |.chan (ap r),h,n,hn=>by simp only[ae,zA6]at hn;subst hn;exact bO (by simpa[aV]using h)
 |.func f a b,h,n,hn=>by
  cases f with
  |yield l =>
   simp only[aV,zA7]at h;simp only[ae,zA9,zB4]at hn;rcases hn with rfl|hn|hn
   .exact bO h.1.1
   .exact iD a h.1.2 n hn
   .exact iD b h.2 n hn
  |_ =>
   simp only[aV,zA7]at h;simp only[ae,zB4]at hn;rcases hn with hn|hn
   .exact iD a h.1 n hn
   .exact iD b h.2 n hn
 |.nilFunc,_,n,hn=>by simp[ae]at hn
 |.iface t v,h,n,hn=>dQ v (by simpa[aV]using h) n (by simpa[ae]using hn)
 |.nilIface,_,n,hn=>by simp[ae]at hn
 |.agg cs,h,n,hn=>iD cs (by simpa[aV]using h) n (by simpa[ae]using hn)
 |.tuple cs,h,n,hn=>iD cs (by simpa[aV]using h) n (by simpa[ae]using hn)
def iD{N:Nat}:∀ c,eU N c=bv->∀ n∈sI c,n<N
 |⟨l⟩,h,n,b=>uh l (by simpa[eU]using h) n (by simpa[sI]using b)
def uh{N:Nat}:∀ l,aX N l=bv->∀ n∈gH l,n<N
 |[],_,n,hn=>by simp[gH]at hn
 |v::r,h,n,hn=>by
  simp only[aX,zA7]at h;simp only[gH,zB4]at hn;rcases hn with hn|hn
  .exact dQ v h.1 n hn
  .exact uh r h.2 n hn
end
def mA(ρ b:Ren)(n:Nat):Prop:=b.blk n=ρ.blk n/\b.sh n=ρ.sh n/\b.ex n=ρ.ex n/\b.op n=ρ.op n
mutual
def nI{ρ g:Ren}:∀ v,(∀ n∈ae v,mA ρ g n)->g.val v=ρ.val v
 |.bool _,_=>by rw[Ren.val,Ren.val]
 |.int _ _,_=>by rw[Ren.val,Ren.val]
 |.float _ _,_=>by rw[Ren.val,Ren.val]
 |.complex _ _ _,_=>by rw[Ren.val,Ren.val]
 |.string _,_=>by rw[Ren.val,Ren.val]
 |i9 bi,_=>by rw[Ren.val,Ren.val]
 |i9 (ap a),h=>by obtain⟨d,i,k,j⟩:=h a.block ol;simp only[Ren.val,d,i]
 |jp bi _ _,_=>by rw[Ren.val,Ren.val]
 |jp (ap a) _ _,h=>by obtain⟨d,i,k,j⟩:=h a.block ol;simp only[Ren.val,Ren.ni,Ren.oZ,Ren.zl,d,i,k,j]
 |.map bi,_=>by rw[Ren.val,Ren.val]
 |.map (ap r),h=>by obtain⟨d,i,k,j⟩:=h r ol;simp only[Ren.val,d]
 |.chan bi,_=>by rw[Ren.val,Ren.val]
 |.chan (ap r),h=>by obtain⟨d,i,k,j⟩:=h r ol;simp only[Ren.val,j]
 |.func f a b,h=>by
  cases f with
  |yield l =>simp only[ae,zA9,zB4]at h;simp only[Ren.val,Ren.fn,(h l (.inl rfl)).1,mr a (fun n c=>h n (.inr (.inl c))),mr b (fun n c=>h n (.inr (.inr c)))]
  |_ =>simp only[ae,zB4]at h;simp only[Ren.val,Ren.fn,mr a (fun n c=>h n (.inl c)),mr b (fun n c=>h n (.inr c))]
 |.nilFunc,_=>by rw[Ren.val,Ren.val]
 |.iface t v,h=>by rw[Ren.val,Ren.val,nI v (fun n c=>h n (by simpa[ae]using c))]
 |.nilIface,_=>by rw[Ren.val,Ren.val]
 |.agg cs,h=>by rw[Ren.val,Ren.val,mr cs (fun n c=>h n (by simpa[ae]using c))]
 |.tuple cs,h=>by rw[Ren.val,Ren.val,mr cs (fun n c=>h n (by simpa[ae]using c))]
def mr{ρ b:Ren}:∀ c,(∀ n∈sI c,mA ρ b n)->b.eC c=ρ.eC c
 |⟨l⟩,h=>by rw[Ren.eC,Ren.eC,DK l (fun n d=>h n (by simpa[sI]using d))]
def DK{ρ b:Ren}:∀ l,(∀ n∈gH l,mA ρ b n)->b.gI l=ρ.gI l
 |[],_=>rfl
 |v::r,h=>by simp only[gH,zB4]at h;rw[Ren.gI,Ren.gI,nI v (fun n c=>h n (.inl c)),DK r (fun n c=>h n (.inr c))]
end
def Ew{l:List gt}{v:gt}(h:v∈l){n:Nat}(b:n∈ae v):n∈gH l:=by
 induction l with
 |nil=>cases h
 |cons x r c =>
  simp only[gH,zB4];rcases zA9.1 h with rfl|h
  .exact .inl b
  .exact .inr (c h)
def uD{l:List gt}{n:Nat}(hn:n∈gH l):∃ v∈l,n∈ae v:=by
 induction l with
 |nil=>simp[gH]at hn
 |cons x r b =>
  simp only[gH,zB4]at hn;rcases hn with hn|hn
  .exact⟨x,zD7 ..,hn⟩
  .obtain⟨v,c,h⟩:=b hn; exact⟨v,zC4 _ c,h⟩
def D6{v:RV}{i:Nat}(h:i<v.n):v.get i∈v.jJ 0 v.n:=by rw[RV.gl];exact zB6.2 ⟨i,zF5.2 h,by simp⟩
def uU{v:RV}{x:gt}(h:x∈v.jJ 0 v.n):∃ i,i<v.n/\x=v.get i:=by rw[RV.gl]at h;obtain⟨i,hi,rfl⟩:=zB6.1 h;exact⟨i,zF5.1 hi,by simp⟩
def OO{k:gt}(h:oC k=bv):ae k=[]:=by cases k<;>simp_all [oC,ae]
def qT{N:Nat}{o:dw}(h:ki N o):∀ n∈p8 o,n<N:=by
 obtain⟨g,k,v⟩:=o;intro n hn
 cases g with
 |cells c e f =>simp only[ki]at h;simp only[p8]at hn;obtain⟨x,hx,b⟩:=uD hn;obtain⟨i,hi,rfl⟩:=uU hx;exact dQ _ (h i hi) n b
 |map l d =>simp only[ki]at h;simp only[p8,List.mem_flatMap]at hn;obtain⟨e,j,hn⟩:=hn;have:=h e (by simpa using j);rw[OO this.1,zD0]at hn;exact dQ _ this.2 n hn
 |loop r =>
  simp only[ki]at h;simp only[p8,zA9]at hn;rcases hn with rfl|hn
  .exact h.1
  .obtain⟨x,hx,b⟩:=uD hn;obtain⟨i,hi,rfl⟩:=uU hx;exact dQ _ (h.2 i hi) n b
 |_=>simp[p8]at hn
def Fits.agree{P:io}{ρ b:Ren}{n:Nat}{o:dw}{o':Obj}(h:Fits P ρ n o o')(d:mA ρ b n)(hi:∀ k∈p8 o,mA ρ b k):Fits P b n o o':=by
 obtain⟨m,F,v⟩:=o
 cases m with
 |cells G t I =>
  simp only[Fits]at h ⊢;obtain⟨c,q,u,y,z,B⟩:=h;refine⟨c,q,u,fun i f=>?_,?_,?_⟩
  .rw[d.2.1,y i f,nI _ (fun k g=>hi k (by simp only[p8]; exact Ew (D6 f) g))]
  .rw[d.2.1,d.2.2.1]; exact z
  .rw[d.2.1,d.2.2.1]; exact B
 |map J j =>simp only[Fits]at h ⊢;rw[h];congr 1;apply Array.map_congr_left;intro x hx;simp only[Ren.entry];rw[nI _ (fun k g=>hi k (by simp only[p8,List.mem_flatMap]; exact⟨x,by simpa using hx,List.mem_append_right _ g⟩))]
 |loop r =>
  simp only[Fits]at h ⊢;obtain⟨fn,h⟩:=h;refine⟨fn,?_⟩;have C:b.tmps v=ρ.tmps v:=by unfold Ren.tmps;congr 1;funext i;exact nI _ (fun k g=>hi k (by simp only[p8,zA9]; exact .inr (Ew (D6 i.2) g)))
  rw[h,C,(hi r.defers (by simp[p8])).1]
 |stringIter s p=>exact⟨h.1,by rw[d.2.1]; exact h.2⟩
 |deferred E =>
  cases E with
  |none=>exact h
  |some l=>cases l<;>exact h
 |_=>exact h
def wS{n:Nat}{l:List Nat}:EK n l=bv ↔ n∈l:=by
 induction l with
 |nil=>simp[EK]
 |cons m r b =>
  rw[EK,zG3,b,zA9];constructor
  .rintro (h|h)
   .exact .inl (Nat.eq_of_beq_eq_true h).symm
   .exact .inr h
  .rintro (h|h)
   .exact .inl (by rw[h]; exact Nat.beq_refl m)
   .exact .inr h
def Ii(H:aa):∀(F:List Nat)(g:aa)(n:Nat),(aa.lay g H F).get n=if n∈F then H.get n else g.get n
 |[],g,n=>by simp[aa.lay]
 |m::r,g,n=>by
  rw[aa.lay,Ii H r,aa.pR];by_cases b:n∈r
  .simp[b]
  .by_cases c:n=m
   .subst c; simp
   .simp[b,c]
def oR(N n:Nat):(aa.none N).get n=none:=by simp[aa.none,aa.get]
def bf(H:aa)(F:List Nat)(n:Nat):(H.restrict F).get n=if n∈F then H.get n else none:=by rw[aa.restrict,Ii,oR]
def Dd(H:aa):∀(F:List Nat)(g:aa),(aa.lay g H F).next=g.next/\(aa.lay g H F).base=g.base/\(aa.lay g H F).dirty=g.dirty
 |[],g=>⟨rfl,rfl,rfl⟩
 |m::r,g=>Dd H r (g.put m (H.get m))
def aI(H:aa)(F:List Nat):(H.restrict F).next=H.next/\(H.restrict F).base=H.next/\(H.restrict F).dirty=[]:=Dd H F _
def yW(g:aa):∀(W:List Nat)(H:aa)(n:Nat),(aa.eA H g W).get n=if n∈W then g.get n else H.get n
 |[],H,n=>by simp[aa.eA]
 |m::r,H,n=>by
  rw[aa.eA,yW g r,aa.fg];by_cases b:n∈r
  .simp[b]
  .by_cases c:n=m
   .subst c; simp
   .simp[b,c]
def uQ(g:aa):∀(W:List Nat)(H:aa),(aa.eA H g W).next=H.next/\(aa.eA H g W).base=H.base/\(∀ n,n∈H.dirty->n∈(aa.eA H g W).dirty)/\(∀ n∈W,n<H.base->n∈(aa.eA H g W).dirty)
 |[],H=>⟨rfl,rfl,fun _ h=>h,fun _ h=>by cases h⟩
 |m::r,H=>by
  obtain⟨d,f,b,i⟩:=uQ g r (H.cy m (g.get m));refine⟨d,f,fun n hn=>b n ?_,fun n hn c=>?_⟩
  .simp only[aa.eD]; split
   .exact zC4 _ hn
   .exact hn
  .rcases zA9.1 hn with rfl|hn
   .exact b n (by simp[aa.eD,bx c])
   .exact i n hn c
def xV(g:aa):∀(k b:Nat)(H:aa)(n:Nat),(aa.cF H g b k).get n=if b<=n/\n<b+k then g.get n else H.get n
 |0,b,H,n=>by rw[aa.cF,if_neg li]
 |k+1,b,H,n=>by
  rw[aa.cF,xV g k (b+1),aa.pR];by_cases c:b+1<=n/\n<b+1+k
  .rw[if_pos c,if_pos li]
  .rw[if_neg c];by_cases d:n=b
   .subst d; rw[if_pos rfl,if_pos li]
   .rw[if_neg d,if_neg li]
def lf(g:aa):∀(k b:Nat)(H:aa),(aa.cF H g b k).base=H.base/\(aa.cF H g b k).dirty=H.dirty
 |0,b,H=>⟨rfl,rfl⟩
 |k+1,b,H=>lf g k (b+1) (H.put b (g.get b))
def HZ(H g:aa)(n:Nat):Prop:=n∈g.dirty\/(H.next<=n/\n<g.next)
instance (H g:aa) (n:Nat):Decidable (HZ H g n):=by unfold HZ; exact inferInstance
def sN(H g:aa)(f:H.next<=g.next)(n:Nat):(H.merge g).get n=if HZ H g n then g.get n else H.get n:=by
 have h:(H.merge g).get n=(aa.cF (aa.eA H g g.dirty) g H.next (g.next-H.next)).get n:=rfl;rw[h,xV,yW];by_cases d:H.next<=n/\n<g.next
 .have b:HZ H g n:=Or.inr d;rw[if_pos li,if_pos b]
 .rw[if_neg li];by_cases c:n∈g.dirty
  .have b:HZ H g n:=Or.inl c;rw[if_pos c,if_pos b]
  .have b:¬HZ H g n:=fun h=>h.elim c d;rw[if_neg c,if_neg b]
def jD(H g:aa):(H.merge g).next=g.next/\(H.merge g).base=H.base/\(∀ n,n∈H.dirty->n∈(H.merge g).dirty)/\(∀ n∈g.dirty,n<H.base->n∈(H.merge g).dirty):=by
 obtain⟨k,d,f,h⟩:=uQ g g.dirty H;obtain⟨i,c⟩:=lf g (g.next-H.next) H.next (aa.eA H g g.dirty);refine⟨rfl,i.trans d,fun n b=>?_,fun n b j=>?_⟩
 .show n∈(aa.cF (aa.eA H g g.dirty) g H.next (g.next-H.next)).dirty;rw[c]; exact f n b
 .show n∈(aa.cF (aa.eA H g g.dirty) g H.next (g.next-H.next)).dirty;rw[c]; exact h n b j
def rY(g:aa):∀(l:List Nat)(H:aa)(n:Nat),n∈(aa.eA H g l).dirty->n∈H.dirty\/n∈l
 |[],H,n,h=>.inl h
 |m::l,H,n,h=>by
  rcases rY g l _ n h with h|h
  .simp only[aa.eD]at h;split at h
   .rcases zA9.1 h with h|h
    .exact .inr pu
    .exact .inl h
   .exact .inl h
  .exact .inr pu
def Ey(H g:aa){n:Nat}(h:n∈(H.merge g).dirty):n∈H.dirty\/n∈g.dirty:=by have h:n∈(aa.cF (aa.eA H g g.dirty) g H.next (g.next-H.next)).dirty:=h;rw[(lf g (g.next-H.next) H.next (aa.eA H g g.dirty)).2]at h;exact rY g _ _ _ h
def kq(H g:aa)(b:H.next<=g.next){n:Nat}(h:HZ H g n):(H.merge g).get n=g.get n:=by rw[sN H g b,if_pos h]
def fC(H g:aa)(b:H.next<=g.next){n:Nat}(h:¬HZ H g n):(H.merge g).get n=H.get n:=by rw[sN H g b,if_neg h]
section
variable{P:io}{ρ:Ren}{H:aa}{w:ip}
def rU(r:Rel P ρ H w)(F:List Nat):Rel P ρ (H.restrict F) w:=by
 obtain⟨g,l,q⟩:=aI H F
 have i:∀ n o,(H.restrict F).get n=ap o->H.get n=ap o:=fun n o h=>by
  rw[bf]at h;split at h
  .exact h
  .cases h
 have c:∀ n,(H.restrict F).get n≠bi->H.get n≠none:=fun n h=>by
  cases e:(H.restrict F).get n with
  |none=>exact absurd e h
  |some o=>exact bw (i n o e)
 have d:∀ n,(H.restrict F).get n≠bi->(H.restrict F).get n=H.get n:=fun n h=>by
  rw[bf]at h ⊢;split at h
  .rename_i f; rw[if_pos f]
  .exact absurd rfl h
 refine⟨by rw[g,l]; exact zA5 _,by rw[g]; exact r.glob,fun m n k f p=>(r.inj m n (c m k) (c n f) p).imp id fun⟨a,b⟩=>⟨by rw[d m k]; exact a,by rw[d n f]; exact b⟩,fun n o j=>?_,fun n o j=>r.obj n o (i n o j)⟩;rw[g]; exact r.dom n o (i n o j)
def LB(r:Rel P ρ H w){F:List Nat}{u:Ren}{g:aa}{w1:ip}(O:∀ n∈F,H.get n≠bi)(s:St P ρ (H.restrict F) w u g w1)(hd:∀ n∈g.dirty,n∈F) :
  St P ρ H w u (H.merge g) w1:=by
 obtain⟨M,Z,k3⟩:=aI H F;have c:H.next<=g.next:=by have:=s.le.next; rw[M]at this; exact this
 obtain⟨m1,m2,m3,m4⟩:=jD H g;have v:∀ n,n∈F->(H.restrict F).get n=H.get n:=fun n k=>by rw[bf,if_pos k]
 have j:∀ n,n∉F->(H.restrict F).get n=none:=fun n k=>by rw[bf,if_neg k]
 -- of a block that was not written: it lies in the part unturned, or outside
 have Q:∀ n,n∈F->¬HZ H g n->g.get n=H.get n:=fun n k l=>by rw[<-v n k];exact s.le.jZ n (by rw[Z]; exact r.lt (O n k)) (fun h=>l (.inl h))
 have J:∀ n∈F,Fz (H.get n)->n∉g.dirty/\g.get n=H.get n:=fun n k h=>by obtain⟨a,b⟩:=s.ro n (by rw[v n k]; exact h);rw[k3]at a;exact⟨fun h=>(by cases a h),by rw[b,v n k]⟩
 have d:Ext H.next ρ u:=by have:=s.ext; rw[M]at this; exact this
 -- where a block of the merged heap comes from
 have f:∀ n o,(H.merge g).get n=ap o->(g.get n=ap o/\(n∈F\/H.next<=n))\/(n∉F/\n<H.next/\H.get n=ap o):=by
  intro n o t;by_cases l:HZ H g n
  .rw[kq H g c l]at t;refine .inl ⟨t,?_⟩;rcases l with h|h
   .exact .inl (hd n h)
   .exact .inr h.1
  .rw[fC H g c l]at t;by_cases R:n∈F
   .exact .inl ⟨by rw[Q n R l]; exact t,.inl R⟩
   .exact .inr ⟨R,(r.dom n o t).1,t⟩
 have hout:∀ n,n∉F->H.get n≠bi->w1.heap[ρ.blk n]?=w.heap[ρ.blk n]?:=fun n R k=>by
  refine s.old _ (r.sT k) fun m hm q S=>?_;rw[M]at hm
  have i:m∈F:=by
   rcases Classical.em (m∈F) with h|h
   .exact h
   .exact absurd (j m h) S
  have T:m∈g.dirty:=q.elim (fun h=>by rw[Z]at h; omega) id;exact fun e=>(r.inj m n (O m i) k e).elim (fun e=>R (e▸i)) fun h=>(J m i h.1).1 T
 refine⟨d,⟨by rw[m1]; exact c,m2,m3,fun n hb k=>?_,fun n k h0=>?_⟩,⟨?_,?_,?_,?_,?_⟩,s.os,s.tape,s.output,s.size,?_,?_,fun n hz=>?_⟩
 .refine fC H g c (fun l=>?_);rcases l with h|h
  .exact k (m4 n h hb)
  .have:=r.base; omega
 .by_cases l:HZ H g n
  .rw[kq H g c l];rcases l with h|h
   .exact absurd h0 (O n (hd n h))
   .omega
  .rw[fC H g c l]; exact h0
 .rw[m1,m2]; exact zC7 r.base c
 .rw[m1]; exact⟨zC7 r.glob.1 c,s.rel.glob.2⟩
 .-- one to one
  intro a b ha hb z;obtain⟨oa,B⟩:∃ o,(H.merge g).get a=ap o:=Option.ne_none_iff_exists'.1 ha;obtain⟨ob,C⟩:∃ o,(H.merge g).get b=ap o:=Option.ne_none_iff_exists'.1 hb
  have E:∀ x y ox oy,g.get x=ap ox->(x∈F\/H.next<=x)->y∉F->y<H.next->H.get y=ap oy->u.blk x=u.blk y->Fz (g.get x)/\Fz (H.get y):=by
   intro x y ox oy hx G hy hyn U z;rw[d.blk y hyn]at z;rcases zC2 x H.next with hlt|hge
   .have G:x∈F:=G.elim id (fun h=>by omega);rw[d.blk x hlt]at z
    rcases r.inj x y (O x G) (bw U) z with e|⟨e1,e2⟩
    .exact absurd (e▸G) hy
    .exact⟨by rw[(J x G e1).2]; exact e1,e2⟩
   .rcases s.fresh x (by rw[M]; exact hge) (bw hx) with h|⟨m,K,V,W,X⟩
    .have:=r.sT (bw U); omega
    .rw[X]at z
     have i:m∈F:=by
      rcases Classical.em (m∈F) with h|h
      .exact h
      .exact absurd (j m h) V
     have T:m∈g.dirty:=W.elim (fun h=>by rw[Z]at h; rw[M]at K; omega) id;exact (r.inj m y (O m i) (bw U) z).elim (fun e=>absurd (e▸i) hy) fun h=>absurd T (J m i h.1).1
  rcases f a oa B with⟨p,L⟩|⟨p,L,I⟩<;>rcases f b ob C with⟨Y,j2⟩|⟨Y,j2,j3⟩
  .rw[B,C,<-p,<-Y]; exact s.rel.inj a b (bw p) (bw Y) z
  .rw[B,C,<-p,<-j3]; exact .inr (E a b oa ob p L Y j2 j3 z)
  .rw[B,C,<-I,<-Y]; exact .inr (E b a ob oa Y j2 p L I z.symm).symm
  .rw[d.blk a L,d.blk b j2]at z;rw[B,C,<-I,<-j3]; exact r.inj a b (bw I) (bw j3) z
 .intro n o t;rw[m1]
  rcases f n o t with⟨p,_⟩|⟨_,L,I⟩
  .exact s.rel.dom n o p
  .exact⟨zD1 L c,(r.dom n o I).2.mono c⟩
 .intro n o t
  rcases f n o t with⟨p,_⟩|⟨p,L,I⟩
  .exact s.rel.obj n o p
  .obtain⟨o',l,R⟩:=r.obj n o I;have q:=r.dom n o I;refine⟨o',?_,R.ext q.1 q.2 d⟩;rw[d.blk n L,hout n p (bw I)]; exact l
 .intro b hb hc;refine s.old b hb fun m hm q S=>?_;rw[M]at hm
  have i:m∈F:=by
   rcases Classical.em (m∈F) with h|h
   .exact h
   .exact absurd (j m h) S
  rcases q with h|h
  .rw[Z]at h; omega
  .refine hc m hm ?_ (O m i);rcases zC2 m H.base with hb'|hb'
   .exact .inr (m4 m h hb')
   .exact .inl hb'
 .intro n k hgn;obtain⟨o,t⟩:∃ o,(H.merge g).get n=ap o:=Option.ne_none_iff_exists'.1 hgn
  rcases f n o t with⟨p,_⟩|⟨_,L,_⟩
  .rcases s.fresh n (by rw[M]; exact k) (bw p) with h|⟨m,K,V,W,X⟩
   .exact .inl h
   .rw[M]at K
    have i:m∈F:=by
     rcases Classical.em (m∈F) with h|h
     .exact h
     .exact absurd (j m h) V
    refine .inr ⟨m,K,O m i,?_,X⟩;rcases W with h|h
    .rw[Z]at h; omega
    .rcases zC2 m H.base with hb'|hb'
     .exact .inr (m4 m h hb')
     .exact .inl hb'
  .omega
 .have hnd:n∉g.dirty:=fun h=>(J n (hd n h) hz).1 h;have l:¬HZ H g n:=fun h=>h.elim hnd fun h=>absurd (r.lt hz.ne) li;exact⟨fun h=>(Ey H g h).resolve_right hnd,fC H g c l⟩
end
structure tm where
 on:Bool
 v:gt
 F:List Nat
 g:aa
 bad:Bool
def jT(P:io)(ops:Array Oper)(D:Nat->tm)(A:Nat->ai)(HH:Nat->aa)(i:Nat):Prop :=
 ∃ o,ops[i]?=ap o/\A (i+1)=(A i).put o.dst (D i).v/\((D i).bad=gc->cG ops (A i) o=ap (D i).on) /\
  ((D i).on=bv->F8 P (A i) ((HH i).restrict (D i).F) o (.ok (D i).v) (D i).g/\(∀ n∈(D i).F,(HH i).get n≠bi)/\(∀ n∈(D i).g.dirty,n∈(D i).F)/\HH (i+1)=(HH i).merge (D i).g) /\
  ((D i).on=gc->(D i).v=undef/\HH (i+1)=HH i)
def qb(D:Nat->tm)(HH:Nat->aa)(i:Nat):Fp:=⟨i,(D i).F,(D i).g.dirty,(HH i).next,(D i).g.next⟩
def cJ(anc:List Nat)(D:Nat->tm)(HH:Nat->aa)(j:Nat)(r:Fp):Prop :=
 (D j).on=bv->tR (anc.getD j 0) (D j).F (D j).v (D j).g (HH j).next r=bv
def nK{P:io}{rec:Rec}(p:Sound P rec){ops:Array Oper}{anc:List Nat}:∀(rest:List Oper)(k:Nat)(b:List Fp)(a:ai)(H:aa)(a1:ai)(H1:aa),
  (∃ tl,ops.toList.drop k=rest++tl)->j0 P rec ops anc rest k b a H=ap (a1,H1) ->
  ∃ (D:Nat->tm) (A:Nat->ai) (HH:Nat->aa),A k=a/\HH k=H/\A (k+rest.length)=a1/\HH (k+rest.length)=H1 /\
   (∀ i,k<=i->i<k+rest.length->jT P ops D A HH i) /\
   (∀ i j,k<=i->i<j->j<k+rest.length->(D i).on=bv->cJ anc D HH j (qb D HH i)) /\
   (∀ r∈b,∀ j,k<=j->j<k+rest.length->cJ anc D HH j r)/\(∀ i,(D i).bad=gc)
 |[],k,b,a,H,a1,H1,_,h=>by
  simp only[j0,i5,i6]at h;obtain⟨rfl,rfl⟩:=h;refine⟨fun _=>⟨gc,undef,[],H,gc⟩,fun _=>a,fun _=>H,rfl,rfl,rfl,rfl,?_,?_,?_,fun _=>rfl⟩
  .intro i u l; simp at l; omega
  .intro i j u l x; simp at x; omega
  .intro r _ j u l; simp at l; omega
 |o::rest,k,b,a,H,a1,H1,E,h=>by
  obtain⟨tl,E⟩:=E;have U:ops[k]?=ap o:=by have:=congrArg (·[0]?) E;simpa using this
  have I:∃ tl,ops.toList.drop (k+1)=rest++tl:=⟨tl,by
   have:=congrArg List.tail E
   simpa using this⟩
  -- the operation's own record laid before those of the rest
  have m:∀(d:tm)(c:List Fp)(H2:aa),(∀ r∈b,r∈c)->j0 P rec ops anc rest (k+1) c (a.put o.dst d.v) H2=ap (a1,H1) ->
    cG ops a o=ap d.on->d.bad=gc ->
    (d.on=bv->F8 P a (H.restrict d.F) o (.ok d.v) d.g/\(∀ n∈d.F,H.get n≠bi)/\(∀ n∈d.g.dirty,n∈d.F)/\H2=H.merge d.g/\(⟨k,d.F,d.g.dirty,H.next,d.g.next⟩:Fp)∈c /\
     ∀ r∈b,tR (anc.getD k 0) d.F d.v d.g H.next r=bv) ->
    (d.on=gc->d.v=undef/\H2=H) ->
    ∃ (D:Nat->tm) (A:Nat->ai) (HH:Nat->aa),A k=a/\HH k=H/\A (k+(o::rest).length)=a1/\HH (k+(o::rest).length)=H1 /\
     (∀ i,k<=i->i<k+(o::rest).length->jT P ops D A HH i) /\
     (∀ i j,k<=i->i<j->j<k+(o::rest).length->(D i).on=bv->cJ anc D HH j (qb D HH i)) /\
     (∀ r∈b,∀ j,k<=j->j<k+(o::rest).length->cJ anc D HH j r)/\(∀ i,(D i).bad=gc):=by
   intro d c H2 y z q B s C;obtain⟨D,A,HH,V,Q,W,X,Y,Z,R,f4⟩:=nK p rest (k+1) c _ H2 a1 H1 I z;have f:k+(o::rest).length=k+1+rest.length:=by simp only[zA3]; omega
   have dK:∀ {i},k+1<=i->¬i=k:=fun h=>by omega
   refine⟨fun i=>if i=k then d else D i,fun i=>if i=k then a else A i,fun i=>if i=k then H else HH i,by simp,by simp,?_,?_,?_,?_,?_,fun i=>by by_cases e:i=k<;>simp[e,B,f4]⟩
   .rw[f]; show (if k+1+rest.length=k then a else A (k+1+rest.length))=a1;rw[if_neg li]; exact W
   .rw[f]; show (if k+1+rest.length=k then H else HH (k+1+rest.length))=H1;rw[if_neg li]; exact X
   .intro i u l;rw[f]at l;by_cases e:i=k
    .subst e;refine⟨o,U,?_,?_,?_,?_⟩
     .simp only[if_pos,if_neg (show ¬i+1=i by omega)]; rw[V]
     .simp only[if_pos]; exact fun _=>q
     .simp only[if_pos,if_neg (show ¬i+1=i by omega)];intro h; obtain⟨J,K,x3,x4,_⟩:=s h;exact⟨J,K,x3,by rw[Q]; exact x4⟩
     .simp only[if_pos,if_neg (show ¬i+1=i by omega)];intro h; obtain⟨J,K⟩:=C h;exact⟨J,by rw[Q]; exact K⟩
    .obtain⟨o',y1,y2,y3,y4,y5⟩:=Y i li l;refine⟨o',y1,?_,?_,?_,?_⟩
     .simp only[if_neg e,if_neg (show ¬i+1=k by omega)]; exact y2
     .simp only[if_neg e]; exact y3
     .simp only[if_neg e,if_neg (show ¬i+1=k by omega)]; exact y4
     .simp only[if_neg e,if_neg (show ¬i+1=k by omega)]; exact y5
   .intro i j u l x G;rw[f]at x;have S:¬j=k:=by omega
    by_cases e:i=k
    .subst e;simp only[if_pos]at G;obtain⟨_,_,_,_,x5,_⟩:=s G;have:=R _ x5 j li x;simp only[cJ,qb,if_neg S,if_pos]at this ⊢;exact this
    .simp only[if_neg e]at G;have:=Z i j li l x G;simp only[cJ,qb,if_neg S,if_neg e]at this ⊢;exact this
   .intro r t j u l;rw[f]at l;by_cases e:j=k
    .subst e;simp only[cJ,if_pos];intro h;exact (s h).2.2.2.2.2 r t
    .have:=R r (y r t) j li l;simp only[cJ,if_neg e]at this ⊢;exact this
  simp only[j0]at h;split at h
  .rename_i L;split at h
   .rename_i v g M;split at h
    .rename_i T;simp only[zA7,zD3]at T;obtain⟨⟨c1,c2⟩,c3⟩:=T;refine m ⟨bv,v,Eh P o.op a H,g,gc⟩ _ _ (fun r t=>zC4 _ t) h L rfl (fun _=>⟨HU p M,fun n O=>?_,fun n O=>wS.1 (c2 n O),rfl,zD7 ..,c3⟩) (fun h=>by cases h);have:=c1 n O;intro e;rw[e]at this;cases this
    .cases h
   .cases h
  .rename_i L;exact m ⟨gc,undef,[],H,gc⟩ b H (fun r t=>t) h L rfl (fun h=>by cases h) (fun _=>⟨rfl,rfl⟩)
  .cases h
section
variable{P:io}{ρ:Ren}{H:aa}{w:ip}
def Gk:cU Fence.wide:=⟨fun _=>trivial,rfl,rfl⟩
def F2{n:Nat}{a:Act}{o:Oper}{φ:Prop}(h:o.wpIn Fence.wide n P a w (fun _ _=>φ) (fun _ _ _=>φ)):φ:=by
 obtain⟨_,h⟩:=h;generalize (o.semAt Fence.wide.round a.eval).run P w=j at h
 cases j with
 |ok x w' =>
  cases x with
  |value v=>exact h
  |skip=>exact h
  |defer d=>exact h
  |enter f args =>
   obtain⟨_,_,g⟩:=h;obtain⟨e,w1,m,b,_⟩:=g [] (room_wide _)
   cases e with
   |returned v=>exact b
   |panicked c=>exact b
   |outgrown=>obtain⟨_,_,h⟩:=b; exact h
  |row r args =>obtain⟨_,g⟩:=h;obtain⟨v,w1,b,_⟩:=g default [] (room_wide _);exact b
  |round l f tmps i k =>
   obtain⟨_,_,g⟩:=h;obtain⟨e,w1,b,_⟩:=g default [] (room_wide _)
   cases e with
   |returned v=>exact b
   |panicked c=>exact b
   |outgrown=>obtain⟨_,_,h⟩:=b; exact h
  |_=>exact h.elim
 |halt x w' =>
  cases x with
  |panic v=>exact h
  |_=>exact h.elim
def Ms(r:Rel P ρ H w){a:ai}(f:iO H.next a){o:Oper}{v:gt}{g:aa}(h:F8 P a H o (.ok v) g) :
  ∃ b w1,St P ρ H w b g w1/\aV g.next v=true:=by
 refine F2 (P:=P) (w:=w) (n:=0) (o:=o) (a:=ρ.act a) (h ρ w r f _ (fun _ _=>rfl) _ _ _ _ Gk ?_);intro b w1 c d;exact⟨b,w1,c,d⟩
def wh(r:Rel P ρ H w){ops:Array Oper}{D:Nat->tm}{A:Nat->ai}{HH:Nat->aa}{m:Nat}(q:HH 0=H)(x:iO H.next (A 0))
  (y:∀ i,i<m->jT P ops D A HH i):∀ i,i<=m->∃ c k,St P ρ H w c (HH i) k/\iO (HH i).next (A i):=by
 intro i
 induction i with
 |zero=>intro _; exact⟨ρ,w,by rw[q]; exact St.refl r,by rw[q]; exact x⟩
 |succ i z =>
  intro hi;obtain⟨c,k,b,d⟩:=z li;obtain⟨o,G,s,I,B,C⟩:=y i li
  cases f:(D i).on with
  |true =>obtain⟨l,j,E,t⟩:=B f;obtain⟨n,w1,h,p⟩:=Ms (rU b.rel (D i).F) (by rw[(aI _ _).1]; exact d) l;have u:=LB b.rel j h E;have v:((HH i).merge (D i).g).next=(D i).g.next:=(jD _ _).1;refine⟨n,w1,by rw[t]; exact b.trans u,?_⟩;rw[t,v,s];refine (d.mono ?_).put _ p;have:=u.le.next;rw[v]at this;exact this
  |false =>obtain⟨l,j⟩:=C f;refine⟨c,k,by rw[j]; exact b,?_⟩;rw[j,s,l];exact d.put _ (eG _)
end
def qd{b:List Nat}{k:Nat}:∀(c:List Edge)(s:Nat),(oU b c s).testBit k=bv->s.testBit k=bv\/∃ e∈c,Region.binds .any e=bv/\(k=e.on\/(b.getD e.on 0).testBit k=bv)
 |[],s,h=>.inl h
 |e::c,s,h=>by
  rcases qd c _ h with h|⟨f,g,d,i⟩
  .split at h
   .rename_i d;rw[Nat.testBit_or,Nat.testBit_or,zG3,zG3]at h;rcases h with (h|h)|h
    .exact .inl h
    .refine .inr ⟨e,zD7 ..,d,.inl ?_⟩;rw[Nat.testBit_shiftLeft,zA7]at h;have m:e.on<=k:=by simpa using h.1
     have n:k-e.on=0:=by
      have:=h.2;rcases Nat.eq_zero_or_pos (k-e.on) with h0|h0
      .exact h0
      .obtain⟨j,l⟩:∃ j,k-e.on=j+1:=⟨k-e.on-1,by omega⟩
       rw[l,Nat.testBit_succ]at this;simp at this
     omega
    .exact .inr ⟨e,zD7 ..,d,.inr h⟩
   .exact .inl h
  .exact .inr ⟨f,zC4 _ g,d,i⟩
def qv:∀(l:List Oper)(b:List Nat),(∀ j,j<b.length->(jK l b).getD j 0=b.getD j 0)/\(jK l b).length=b.length+l.length /\
  ∀ i o,l[i]?=ap o->∃ c,(jK l b).getD (b.length+i) 0=oU c o.after.toList 0/\∀ j,(c.getD j 0)≠0->c.getD j 0=(jK l b).getD j 0
 |[],b=>⟨fun _ _=>rfl,by simp[jK],fun i o h=>by simp at h⟩
 |o::l,b=>by
  obtain⟨f,m,n⟩:=qv l (b++[oU b o.after.toList 0]);simp only[jK];refine⟨fun j g=>?_,?_,fun i o' d=>?_⟩
  .rw[f j pp,List.getD,List.getD,List.getElem?_append_left g]
  .rw[m]; simp; omega
  .cases i with
   |zero =>
    simp only[zF3,i5]at d;subst d;refine⟨b,?_,fun j g=>?_⟩
    .rw[zD6,f b.length lw,List.getD,zG5 (zA5 _)]; simp
    .have k:j<b.length:=by
      rcases zC2 j b.length with h|h
      .exact h
      .exact absurd (by simp[List.getD,zC5 h]) g
     rw[f j pp,List.getD,List.getD,List.getElem?_append_left k]
   |succ i =>simp only[zG6]at d;obtain⟨c,p,q⟩:=n i o' d;refine⟨c,?_,q⟩;rw[<-p];congr 1;simp; omega
def Au{ops:Array Oper}{j k:Nat}{o:Oper}(f:ops[j]?=ap o)(h:((iU ops).getD j 0).testBit k=bv) :
  ∃ e∈o.after,Region.binds .any e=bv/\(k=e.on\/((iU ops).getD e.on 0).testBit k=bv):=by
 obtain⟨_,_,g⟩:=qv ops.toList [];obtain⟨c,d,i⟩:=g j o (by simpa using f);simp only[zB0,zC6]at d;unfold iU at h ⊢;rw[d]at h
 rcases qd _ _ h with h|⟨e,l,m,b⟩
 .simp at h
 .refine⟨e,by simpa using l,m,b.imp id (fun b=>?_)⟩;rw[<-i e.on (fun n=>by rw[n]at b; simp at b)]; exact b
def km{t:Nat}:∀(l:List Nat),(uq l).testBit t=bv ↔ t∈l
 |[]=>by simp[uq]
 |u::l=>by
  rw[uq,Nat.testBit_or,zG3,km l,zA9];refine or_congr ?_ Iff.rfl;rw[Nat.testBit_shiftLeft,zA7];constructor
  .rintro⟨b,c⟩;have b:u<=t:=by simpa using b
   rcases Nat.eq_zero_or_pos (t-u) with h0|h0
   .omega
   .obtain⟨k,d⟩:∃ k,t-u=k+1:=⟨t-u-1,by omega⟩
    rw[d,Nat.testBit_succ]at c;simp at c
  .rintro rfl;simp
def and_zero{x y:Nat}(h:Nat.beq (x &&& y) 0=bv){t:Nat}(hx:x.testBit t=bv):y.testBit t=false:=by have b:=Nat.eq_of_beq_eq_true h;have:=Nat.testBit_and x y t;rw[b,hx,Nat.zero_testBit]at this;simpa using this.symm
def CK{ops:Array Oper}{x y:Oper}(h:Cd (so ops x) (so ops y)=bv):x.apart ops y=true:=by
 simp only[Cd,so,zA7]at h;obtain⟨g,i⟩:=h
 have a1:∀ d,x.dst=ap d->d∉y.looksAt ops/\y.dst≠ap d:=by
  intro d b;have f:(uq x.dst.toList).testBit d=true:=(km _).2 (by simp[b]);have:=and_zero g f;rw[Nat.testBit_or,Bool.or_eq_false_iff]at this;refine⟨fun c=>?_,fun c=>?_⟩
  .rw[(km _).2 c]at this; cases this.1
  .rw[(km (t:=d) y.dst.toList).2 (by simp[c])]at this; cases this.2
 have a2:∀ d,y.dst=ap d->d∉x.looksAt ops:=by intro d b c;have f:(uq y.dst.toList).testBit d=true:=(km _).2 (by simp[b]);have:=and_zero i f;rw[(km _).2 c]at this; cases this
 unfold Oper.apart;rw[zA7];constructor
 .cases b:x.dst with
  |none=>rfl
  |some d =>obtain⟨j,k⟩:=a1 d b;simp only[zA7,Bool.not_eq_true',bne_iff_ne,ne_eq];exact⟨by simpa using j,k⟩
 .cases b:y.dst with
  |none=>rfl
  |some d=>simpa using a2 d b
def tK(ops:Array Oper):∀(l:List Oper)(i:Nat),(Go.Ax.uJ ops l)[i]?=(l[i]?).map (so ops)
 |[],i=>by simp[Go.Ax.uJ]
 |o::l,0=>by simp[Go.Ax.uJ]
 |o::l,i+1=>by simp only[Go.Ax.uJ,zG6]; exact tK ops l i
def rL{j:Nat}:∀(l:List Edge),wq j l=bv->∀ e∈l,Region.binds .any e=bv->e.on<j
 |[],_,e,he,_=>by cases he
 |x::l,h,e,he,b=>by
  simp only[wq,zA7]at h;rcases zA9.1 he with rfl|he
  .have:=h.1;rw[b]at this;simp only[zE4,Bool.false_or]at this;exact bO this
  .exact rL l h.2 e he b
def jB{ops:Array Oper}{anc:List Nat}:∀(l:List Oper)(k:Nat),ops.toList.drop k=l->nD (Go.Ax.uJ ops ops.toList) anc l k=bv ->
  ∀ j c,k<=j->ops[j]?=ap c->(∀ i f,i<j->ops[i]?=ap f->(anc.getD j 0).testBit i=bv\/f.apart ops c=bv)/\∀ e∈c.after,Region.binds .any e=bv->e.on<j
 |[],k,g,_,j,c,v,d=>by
  have:ops.size<=k:=by have:=congrArg List.length g;simp at this;omega
  have y:j<ops.size:=by
   rcases zC2 j ops.size with h|h
   .exact h
   .simp[Array.getElem?_eq_none h]at d
  omega
 |o::l,k,g,h,j,c,v,d=>by
  have t:ops[k]?=ap o:=by have:=congrArg (·[0]?) g;simpa using this
  have n:ops.toList.drop (k+1)=l:=by have:=congrArg List.tail g;simpa using this
  simp only[nD,zA7]at h;obtain⟨⟨u,z⟩,h3⟩:=h;by_cases e:j=k
  .subst e;rw[t]at d;cases d;have p:(Go.Ax.uJ ops ops.toList).getD j ⟨0,0⟩=so ops o:=by rw[List.getD,tK]; simp[t]
   rw[p]at u;refine⟨fun i f hi q=>?_,fun e B C=>rL _ z e (by simpa using B) C⟩
   have r:∀(l:List Mask)(b i:Nat)(m:Mask),wv (so ops o) (anc.getD j 0) l b=bv->l[i]?=ap m->(anc.getD j 0).testBit (b+i)=bv\/Cd m (so ops o)=true:=by
    intro l
    induction l with
    |nil=>intro b i m _ h; simp at h
    |cons x l E =>
     intro b i m s hx;simp only[wv,zA7,zG3]at s
     cases i with
     |zero=>simp at hx; subst hx; exact s.1
     |succ i =>have:=E (b+1) i m s.2 (by simpa using hx);rw[show b+(i+1)=b+1+i from by omega]; exact this
   have:=r _ 0 i (so ops f) u (by rw[List.getElem?_take_of_lt hi,tK]; simp[q]);rw[zC6]at this;exact this.imp id CK
  .exact jB l (k+1) n h3 j c li d
def re(D:Nat->tm)(HH:Nat->aa)(i n:Nat):Prop:=(D i).on=bv/\HZ (HH i) (D i).g n
instance (D:Nat->tm) (HH:Nat->aa) (i n:Nat):Decidable (re D HH i n):=by unfold re; exact inferInstance
def hx(D:Nat->tm)(HH:Nat->aa)(X:Nat->Bool):Nat->Nat->Option dw
 |0,n=>(HH 0).get n
 |k+1,n=>if X k=bv/\re D HH k n then (D k).g.get n else hx D HH X k n
def gA(ops:Array Oper)(k:Nat):Option Tmp:=(ops[k]?).bind (·.dst)
def ax(ops:Array Oper)(D:Nat->tm)(a:ai)(X:Nat->Bool):Nat->ai
 |0=>a
 |k+1=>if X k=bv then (ax ops D a X k).put (gA ops k) (D k).v else ax ops D a X k
def Mu(a:ai)(d:Option Tmp)(v:gt):(a.put d v).env.n=a.env.n/\(a.put d v).defers=a.defers:=by
 cases d with
 |none=>exact⟨rfl,rfl⟩
 |some d=>simp only[ai.put_eq]; split<;>exact⟨rfl,rfl⟩
def j9(a:ai)(d:Option Tmp)(v:gt)(t:Nat)(b:t<a.env.n):(a.put d v).env.get t=if d=ap t then v else a.env.get t:=by
 cases d with
 |none=>simp[ai.put_eq]
 |some d =>
  simp only[ai.put_eq];by_cases h:d<a.env.n
  .rw[if_pos (bx h)];simp only[RV.rJ,i5];by_cases e:t=d
   .subst e; simp
   .rw[if_neg e,if_neg (fun h=>e h.symm)]
  .rw[if_neg (by rw[mc h]; simp)];rw[if_neg (fun e=>h (by cases e; exact b))]
section
variable{ops:Array Oper}{D:Nat -> tm}{HH:Nat -> aa}{a:ai}
def l4{X Y:Nat->Bool}{n:Nat}:∀ k,(∀ j,j<k->re D HH j n->X j=Y j)->hx D HH X k n=hx D HH Y k n
 |0,_=>rfl
 |k+1,h=>by
  rw[hx,hx,l4 k (fun j c=>h j li)];by_cases b:re D HH k n
  .rw[h k (zD9 _) b]
  .simp[b]
def HI{i n:Nat}:∀ k,i<=k->hx D HH (fun j=>ge (j<i)) k n=hx D HH (fun _=>bv) i n
 |0,h=>by
  have:i=0:=by omega
  subst this; rfl
 |k+1,h=>by
  by_cases e:i=k+1
  .subst e;exact l4 (k+1) (fun j b _=>by simp[b])
  .rw[hx,if_neg pp];exact HI k li
def zH{X f:Nat->Bool}{i n:Nat}(hi:X i=gc)(d:f i=bv)(l:∀ j,j≠i->f j=X j):∀ k,i<k->(∀ j,i<j->j<k->re D HH j n->re D HH i n->X j=gc) ->
  hx D HH f k n=if re D HH i n then (D i).g.get n else hx D HH X k n
 |0,h,_=>by omega
 |k+1,h,m=>by
  by_cases e:k=i
  .subst e;rw[hx,hx,l4 (X:=f) (Y:=X) k (fun j p _=>l j li)];by_cases b:re D HH k n
   .rw[if_pos ⟨d,b⟩,if_pos b]
   .rw[if_neg (fun h=>b h.2),if_neg b,if_neg (fun h=>b h.2)]
  .rw[hx,hx,zH hi d l k li (fun j o q=>m j o li),l k e];by_cases c:X k=bv/\re D HH k n
   .rw[if_pos c,if_pos c];by_cases b:re D HH i n
    .have:=m k li (zD9 _) c.2 b;rw[c.1]at this; cases this
    .rw[if_neg b]
   .rw[if_neg c,if_neg c]
def qa{X:Nat->Bool}:∀ k,(ax ops D a X k).env.n=a.env.n/\(ax ops D a X k).defers=a.defers
 |0=>⟨rfl,rfl⟩
 |k+1=>by
  rw[ax];split
  .obtain⟨b,c⟩:=Mu (ax ops D a X k) (gA ops k) (D k).v;obtain⟨d,f⟩:=qa (X:=X) k;exact⟨b.trans d,c.trans f⟩
  .exact qa k
def kF{X Y:Nat->Bool}{t:Nat}(b:t<a.env.n):∀ k,(∀ j,j<k->gA ops j=ap t->X j=Y j)->(ax ops D a X k).env.get t=(ax ops D a Y k).env.get t
 |0,_=>rfl
 |k+1,h=>by
  have g:=kF b k (fun j m=>h j li);have c:=(qa (ops:=ops) (D:=D) (a:=a) (X:=X) k).1;have d:=(qa (ops:=ops) (D:=D) (a:=a) (X:=Y) k).1;rw[ax,ax];by_cases f:gA ops k=ap t
  .rw[h k (zD9 _) f];split
   .rw[j9 _ _ _ _ (by rw[c]; exact b),j9 _ _ _ _ (by rw[d]; exact b),if_pos f,if_pos f]
   .exact g
  .have i:(if X k=bv then (ax ops D a X k).put (gA ops k) (D k).v else ax ops D a X k).env.get t=(ax ops D a X k).env.get t:=by
    split
    .rw[j9 _ _ _ _ (by rw[c]; exact b),if_neg f]
    .rfl
   have l:(if Y k=bv then (ax ops D a Y k).put (gA ops k) (D k).v else ax ops D a Y k).env.get t=(ax ops D a Y k).env.get t:=by
    split
    .rw[j9 _ _ _ _ (by rw[d]; exact b),if_neg f]
    .rfl
   rw[i,l,g]
def wj{i t:Nat}(b:t<a.env.n):∀ k,i<=k->(ax ops D a (fun j=>ge (j<i)) k).env.get t=(ax ops D a (fun _=>bv) i).env.get t
 |0,h=>by
  have:i=0:=by omega
  subst this; rfl
 |k+1,h=>by
  by_cases e:i=k+1
  .subst e;exact kF b (k+1) (fun j c _=>by simp[c])
  .rw[ax,if_neg pp];exact wj b k li
def tB{X c:Nat->Bool}{i t:Nat}(d:t<a.env.n)(hi:X i=gc)(f:c i=bv)(p:∀ j,j≠i->c j=X j):∀ k,i<k->(∀ j,i<j->j<k->gA ops j=ap t->gA ops i=ap t->X j=gc) ->
  (ax ops D a c k).env.get t=if gA ops i=ap t then (D i).v else (ax ops D a X k).env.get t
 |0,h,_=>by omega
 |k+1,h,r=>by
  have q:=(qa (ops:=ops) (D:=D) (a:=a) (X:=X) k).1;have g:=(qa (ops:=ops) (D:=D) (a:=a) (X:=c) k).1;by_cases e:k=i
  .subst e;have b:=kF (ops:=ops) (D:=D) (X:=c) (Y:=X) d k (fun j x _=>p j li);rw[ax,ax,if_pos f,if_neg (show ¬X k=bv by rw[hi]; simp),j9 _ _ _ _ (by rw[g]; exact d),b]
  .have s:=tB d hi f p k li (fun j u y=>r j u li);rw[ax,ax,p k e];by_cases l:X k=bv
   .rw[if_pos l,if_pos l,j9 _ _ _ _ (by rw[g]; exact d),j9 _ _ _ _ (by rw[q]; exact d),s];by_cases m:gA ops k=ap t
    .rw[if_pos m,if_pos m];by_cases o:gA ops i=ap t
     .have:=r k li (zD9 _) m o;rw[l]at this; cases this
     .rw[if_neg o]
    .rw[if_neg m,if_neg m]
   .rw[if_neg l,if_neg l]; exact s
end
def RF(ρ b:Ren)(p:Prop)[Decidable p](n:Nat):RY (if p then b.op n else ρ.op n)=true:=by
 split
 .exact b.op1 n
 .exact ρ.op1 n
def Ren.mix(ρ b:Ren)(lo hi:Nat):Ren :=
 ⟨fun n=>if lo<=n/\n<hi then b.blk n else ρ.blk n,fun n=>if lo<=n/\n<hi then b.sh n else ρ.sh n,fun n=>if lo<=n/\n<hi then b.ex n else ρ.ex n,fun n=>if lo<=n/\n<hi then b.op n else ρ.op n,fun n=>(RF ρ b _ n)⟩
def OW(ρ b:Ren){lo hi n:Nat}(h:¬(lo<=n/\n<hi)):mA ρ (ρ.mix b lo hi) n:=by simp only[mA,Ren.mix,if_neg h,and_self]
def P6(ρ b:Ren){lo hi n:Nat}(c:Ext lo ρ b)(h:n<hi):mA b (ρ.mix b lo hi) n:=by
 by_cases d:lo<=n
 .simp only[mA,Ren.mix,if_pos (zA0 d h),and_self]
 .have:¬(lo<=n/\n<hi):=fun h=>d h.1;simp only[mA,Ren.mix,if_neg this,c.blk n li,c.sh n li,c.ex n li,c.op n li,and_self]
def Ih(p q:Nat->Bool):∀(l:List Nat),(∀ j∈l,q j=bv->p j=bv)->∀ i∈l,p i=bv->q i=gc->(l.filter q).length<(l.filter p).length
 |[],_,i,hi,_,_=>by cases hi
 |x::l,h,i,hi,k,m=>by
  have f:∀ l:List Nat,(∀ j∈l,q j=bv->p j=bv)->(l.filter q).length<=(l.filter p).length:=by
   intro l
   induction l with
   |nil=>intro _; simp
   |cons y l g =>
    intro h;have:=g (fun j d=>h j (zC4 _ d));by_cases c:q y=bv
    .have b:=h y (zD7 ..) c;simp[c,b,this]
    .by_cases b:p y=bv
     .simp[c,b]; omega
     .simp[c,b]; omega
  rcases zA9.1 hi with rfl|hi
  .have:=f l (fun j d=>h j (zC4 _ d));simp only[List.filter_cons,k,m,if_true,zC8,if_false,zA3];omega
  .have g:=Ih p q l (fun j d=>h j (zC4 _ d)) i hi k m;by_cases c:q x=bv
   .have b:=h x (zD7 ..) c;simp[c,b,g]
   .by_cases b:p x=bv
    .simp[c,b]; omega
    .simp[c,b]; omega
def AH{a b:List Nat}(h:OE a b=bv){n:Nat}(c:n∈a):n∉b:=fun d=>by have:=zD3.1 h n c;rw[wS.2 d]at this;cases this
def uL{lo hi:Nat}{l:List Nat}(h:CF lo hi l=bv){n:Nat}(b:n∈l):n<lo\/hi<=n:=by have:=zD3.1 h n b;simp only[zG3]at this;exact this.imp bO iq
def pP{anc:Nat}{F:List Nat}{v:gt}{g:aa}{next:Nat}{r:Fp}(h:tR anc F v g next r=bv)(c:anc.testBit r.i=gc) :
  (∀ n∈r.W,n∉F)/\(∀ n∈r.F,n∉g.dirty)/\(r.lo<r.hi->(∀ n∈F,n<r.lo\/r.hi<=n)/\∀ n∈fV v g next,n<r.lo\/r.hi<=n):=by
 simp only[tR,c,Bool.false_or,zA7]at h;obtain⟨⟨d,f⟩,h3⟩:=h;refine⟨fun n b=>AH d b,fun n b=>AH f b,fun j=>?_⟩;simp only[zG3,zA7]at h3;rcases h3 with h3|h3
 .have:=iq h3; omega
 .exact⟨fun n b=>uL h3.1 b,fun n b=>uL h3.2 b⟩
def qi{n:Nat}:∀(k a:Nat),a<=n->n<a+k->n∈c8 a k
 |0,a,b,c=>by omega
 |k+1,a,b,c=>by
  rw[c8,zA9];by_cases e:n=a
  .exact .inl e
  .exact .inr (qi k (a+1) li li)
structure kM (P:io) (ops:Array Oper) (D:Nat->tm) (A:Nat->ai) (HH:Nat->aa) (ρ0:Ren) (w0:ip):Prop where
 rel:Rel P ρ0 (HH 0) w0
 sc:iO (HH 0).next (A 0)
 fact:∀ i,i<ops.size->jT P ops D A HH i
 pair:∀ i j,i<j->j<ops.size->(D i).on=bv->cJ (iU ops) D HH j (qb D HH i)
 stat:∀ j oj,ops[j]?=ap oj->(∀ i oi,i<j->ops[i]?=ap oi->((iU ops).getD j 0).testBit i=bv\/oi.apart ops oj=bv)/\∀ e∈oj.after,Region.binds .any e=bv->e.on<j
 ex:∀ i,i<=ops.size->∃ ρi wi,St P ρ0 (HH 0) w0 ρi (HH i) wi/\iO (HH i).next (A i)
section
variable{P:io}{ops:Array Oper}{D:Nat -> tm}{A:Nat -> ai}{HH:Nat -> aa}{ρ0:Ren}{w0:ip}
structure Loc (P:io) (D:Nat->tm) (HH:Nat->aa) (i:Nat):Prop where
 F:∀ n∈(D i).F,(HH i).get n≠bi
 W:∀ n∈(D i).g.dirty,n∈(D i).F
 merge:HH (i+1)=(HH i).merge (D i).g
 le:(HH i).next<=(D i).g.next
 lt:∀ n,(HH i).get n≠bi->n<(HH i).next
 dom:∀ n o,(D i).g.get n=ap o->n<(D i).g.next/\ki (D i).g.next o
 domH:∀ n o,(HH i).get n=ap o->n<(HH i).next/\ki (HH i).next o
 jZ:∀ n,n∈(D i).F->n∉(D i).g.dirty->(D i).g.get n=(HH i).get n
 gone:∀ n,n<(HH i).next->n∉(D i).F->(D i).g.get n=bi
 v:aV (D i).g.next (D i).v=bv
 glob:P.globals.size<=(HH i).next
def kM.loc(T:kM P ops D A HH ρ0 w0){i:Nat}(hi:i<ops.size)(d:(D i).on=bv):Loc P D HH i:=by
 obtain⟨o,x,y,z,k,_⟩:=T.fact i hi;obtain⟨l,h,m,p⟩:=k d;obtain⟨q,B,b,f⟩:=T.ex i li;obtain⟨r,w1,s,g⟩:=Ms (rU b.rel (D i).F) (by rw[(aI _ _).1]; exact f) l;obtain⟨j,t,C⟩:=aI (HH i) (D i).F;refine⟨h,m,p,by have:=s.le.next; rw[j]at this; exact this,fun n c=>b.rel.lt c,s.rel.dom,b.rel.dom,fun n c u=>?_,fun n c v=>?_,g,b.rel.glob.1⟩
 .rw[s.le.jZ n (by rw[t]; exact b.rel.lt (h n c)) u,bf,if_pos c]
 .exact s.le.gone n (by rw[j]; exact c) (by rw[bf,if_neg v])
def kM.step(T:kM P ops D A HH ρ0 w0){i:Nat}(hi:i<ops.size) :
  (HH i).next<=(HH (i+1)).next/\((D i).on=bv->(HH (i+1)).next=(D i).g.next)/\((D i).on=gc->HH (i+1)=HH i)/\(HH (i+1)).base=(HH i).base/\(∀ n,n∈(HH i).dirty->n∈(HH (i+1)).dirty) /\
   ((D i).on=bv->∀ n∈(D i).g.dirty,n<(HH i).base->n∈(HH (i+1)).dirty):=by
 obtain⟨o,m,p,q,r,d⟩:=T.fact i hi
 cases b:(D i).on with
 |true =>have L:=T.loc hi b;obtain⟨c,f,j,k⟩:=jD (HH i) (D i).g;rw[L.merge];exact⟨by rw[c]; exact L.le,fun _=>c,(fun h=>by cases h),f,j,fun _=>k⟩
 |false =>obtain⟨s,l⟩:=d b;rw[l];exact⟨zA5 _,(fun h=>by cases h),fun _=>rfl,rfl,fun _ h=>h,(fun h=>by cases h)⟩
def kM.mono(T:kM P ops D A HH ρ0 w0){i:Nat}:∀ {j:Nat},i<=j->j<=ops.size->(HH i).next<=(HH j).next/\(HH j).base=(HH i).base/\∀ n,n∈(HH i).dirty->n∈(HH j).dirty
 |0,h,_=>by
  have:i=0:=by omega
  subst this; exact⟨zA5 _,rfl,fun _ h=>h⟩
 |j+1,h,m=>by
  by_cases e:i=j+1
  .subst e; exact⟨zA5 _,rfl,fun _ h=>h⟩
  .obtain⟨b,c,d⟩:=kM.mono T (i:=i) (j:=j) li li;obtain⟨f,_,_,g,k,_⟩:=T.step (i:=j) li;exact⟨zC7 b f,g.trans c,fun n l=>k n (d n l)⟩
def kM.FW(T:kM P ops D A HH ρ0 w0){n:Nat}:∀ k,k<=ops.size->hx D HH (fun _=>bv) k n=(HH k).get n
 |0,_=>rfl
 |k+1,d=>by
  rw[hx,kM.FW T k li]
  cases b:(D k).on with
  |true =>
   have L:=T.loc (i:=k) li b;rw[L.merge,sN _ _ L.le];by_cases c:HZ (HH k) (D k).g n
   .rw[if_pos ⟨rfl,b,c⟩,if_pos c]
   .rw[if_neg (fun h=>c h.2.2),if_neg c]
  |false =>rw[if_neg (fun h=>by have:=h.2.1; rw[b]at this; cases this),(T.step (i:=k) li).2.2.1 b]
def kM.sK(T:kM P ops D A HH ρ0 w0):∀ k,k<=ops.size->ax ops D (A 0) (fun _=>bv) k=A k
 |0,_=>rfl
 |k+1,d=>by obtain⟨o,b,c,_⟩:=T.fact k li;rw[ax,if_pos rfl,kM.sK T k li,c,gA,b];rfl
def kM.Hv(T:kM P ops D A HH ρ0 w0){k:Nat}(b:k<=ops.size):(A k).env.n=(A 0).env.n/\(A k).defers=(A 0).defers:=by rw[<-T.sK k b]; exact qa k
def yu(ops:Array Oper)(X:Nat->Bool):Prop:=∀ j b,ops[j]?=ap b->X j=bv->∀ e∈b.after,Region.binds .any e=bv->X e.on=bv
def kM.anc(T:kM P ops D A HH ρ0 w0){X:Nat->Bool}(l:yu ops X){k:Nat}:∀(j:Nat),j<ops.size->X j=bv->((iU ops).getD j 0).testBit k=bv->X k=true:=by
 intro j
 induction j using Nat.strongRecOn with
 |_ j m =>
  intro n p h
  obtain⟨f,b⟩:∃ o,ops[j]?=ap o:=⟨ops[j],by simp[n]⟩
  obtain⟨e,g,i,hk⟩:=Au b h;have d:=(T.stat j f b).2 e g i;have c:=l j f b p e g i;rcases hk with rfl|hk
  .exact c
  .exact m e.on d li c hk
def kM.mo(T:kM P ops D A HH ρ0 w0){X:Nat->Bool}(g:yu ops X){i k:Nat}{o:Oper}(d:ops[i]?=ap o)(f:∀ e∈o.after,Region.binds .any e=bv->X e.on=bv)(hi:i<ops.size)
  (h:((iU ops).getD i 0).testBit k=bv):X k=true:=by
 obtain⟨e,b,c,hk⟩:=Au d h;have j:=(T.stat i o d).2 e b c;rcases hk with rfl|hk
 .exact f e b c
 .exact T.anc g e.on li (f e b c) hk
def ql(ops:Array Oper)(HH:Nat->aa)(X:Nat->Bool)(n:Nat):Prop:=n<(HH 0).next\/∃ k,k<ops.size/\X k=bv/\(HH k).next<=n/\n<(HH (k+1)).next
def kM.part(T:kM P ops D A HH ρ0 w0){n:Nat}:∀ k,k<=ops.size->n<(HH k).next->n<(HH 0).next\/∃ j,j<k/\(HH j).next<=n/\n<(HH (j+1)).next
 |0,_,h=>.inl h
 |k+1,d,h=>by
  rcases zC2 n (HH k).next with h1|h1
  .rcases kM.part T k li h1 with b|⟨j,b,c⟩
   .exact .inl b
   .exact .inr ⟨j,by omega,c⟩
  .exact .inr ⟨k,zD9 _,h1,h⟩
structure dZ (ops:Array Oper) (X X':Nat->Bool) (i:Nat) (o:Oper):Prop where
 lt:i<ops.size
 at_:ops[i]?=ap o
 not:X i=gc
 now:X' i=bv
 rest:∀ j,j≠i->X' j=X j
 edges:∀ e∈o.after,Region.binds .any e=bv->X e.on=bv
 closed:yu ops X
def dZ.after(T:kM P ops D A HH ρ0 w0){X b:Nat->Bool}{i:Nat}{o:Oper}(r:dZ ops X b i o){j:Nat}(c:j<ops.size)(d:X j=bv):((iU ops).getD j 0).testBit i=false:=by
 cases h:((iU ops).getD j 0).testBit i with
 |false=>rfl
 |true =>have:=T.anc r.closed j c d h;rw[r.not]at this; cases this
def dZ.Eh(T:kM P ops D A HH ρ0 w0){X q:Nat->Bool}{i:Nat}{o:Oper}(r:dZ ops X q i o)(b:(D i).on=bv){n:Nat}(d:n∈(D i).F){j:Nat}(f:j<ops.size)(hw:re D HH j n) :
  X j=ge (j<i):=by
 have L:=T.loc r.lt b;obtain⟨c,hw⟩:=hw;rcases Nat.lt_trichotomy j i with h|h|h
 .rw[decide_eq_true h]
  cases k:((iU ops).getD i 0).testBit j with
  |true=>exact T.mo r.closed r.at_ r.edges r.lt k
  |false =>
   obtain⟨l,m,p⟩:=pP (T.pair j i h r.lt c b) k;rcases hw with hw|hw
   .exact absurd d (l n hw)
   .have:=(p (by show (HH j).next<(D j).g.next; omega)).1 n d;simp only[qb]at this;omega
 .subst h; rw[r.not]; simp
 .rw[decide_eq_false li]
  cases s:X j with
  |false=>rfl
  |true =>
   obtain⟨l,m,p⟩:=pP (T.pair i j h f b c) (r.after T f s);rcases hw with hw|hw
   .exact absurd hw (m n d)
   .have t:=L.lt n (L.F n d);have u:=(T.mono (i:=i) (j:=j) li li).1;omega
def dZ.ins(T:kM P ops D A HH ρ0 w0){X k:Nat->Bool}{i:Nat}{o:Oper}(r:dZ ops X k i o){n j:Nat}(d:i<j)(f:j<ops.size)(hw:re D HH j n)(hwi:re D HH i n):X j=false:=by
 obtain⟨c,hw⟩:=hw;obtain⟨b,hwi⟩:=hwi;have L:=T.loc r.lt b;have h:=T.loc f c;have q:=(T.mono (i:=i+1) (j:=j) li li).1;have s:=(T.step r.lt).2.1 b
 cases l:X j with
 |false=>rfl
 |true =>
  obtain⟨m,t,p⟩:=pP (T.pair i j d f b c) (r.after T f l);rcases hwi with hwi|hwi<;>rcases hw with hw|hw
  .exact absurd (h.W n hw) (m n hwi)
  .have:=L.lt n (L.F n (L.W n hwi)); have:=L.le; omega
  .have:=(p (by show (HH i).next<(D i).g.next; omega)).1 n (h.W n hw);simp only[qb]at this;omega
  .omega
def dZ.looks(T:kM P ops D A HH ρ0 w0){X k:Nat->Bool}{i:Nat}{o:Oper}(r:dZ ops X k i o){t:Nat}(f:t∈o.looksAt ops){j:Nat}(g:j<ops.size)(l:gA ops j=ap t):X j=ge (j<i):=by
 obtain⟨d,b⟩:∃ o,ops[j]?=ap o:=⟨ops[j],by simp[g]⟩
 have c:d.dst=ap t:=by simpa[gA,b]using l
 rcases Nat.lt_trichotomy j i with h|h|h
 .rw[decide_eq_true h];rcases (T.stat i o r.at_).1 j d h b with ha|ha
  .exact T.mo r.closed r.at_ r.edges r.lt ha
  .exact absurd f ((Oper.apart_spec ha).1 t c)
 .subst h; rw[r.not]; simp
 .rw[decide_eq_false li]
  cases m:X j with
  |false=>rfl
  |true =>
   rcases (T.stat j d b).1 i o h r.at_ with ha|ha
   .rw[r.after T g m]at ha; cases ha
   .exact absurd f ((Oper.apart_spec ha).2.2 t c)
def dZ.dst(T:kM P ops D A HH ρ0 w0){X l:Nat->Bool}{i:Nat}{o:Oper}(r:dZ ops X l i o){t j:Nat}(d:i<j)(h:j<ops.size)(m:gA ops j=ap t)(f:gA ops i=ap t):X j=false:=by
 obtain⟨k,b⟩:∃ o,ops[j]?=ap o:=⟨ops[j],by simp[h]⟩
 have g:k.dst=ap t:=by simpa[gA,b]using m
 have c:o.dst=ap t:=by simpa[gA,r.at_]using f
 cases n:X j with
 |false=>rfl
 |true =>
  rcases (T.stat j k b).1 i o d r.at_ with ha|ha
  .rw[r.after T h n]at ha; cases ha
  .exact absurd g ((Oper.apart_spec ha).2.1 t c)
def dZ.tmp(T:kM P ops D A HH ρ0 w0){X d:Nat->Bool}{i:Nat}{o:Oper}(r:dZ ops X d i o){t:Nat}(f:t∈o.looksAt ops):(ax ops D (A 0) X ops.size).tmp t=(A i).tmp t:=by
 have b:=(qa (ops:=ops) (D:=D) (a:=A 0) (X:=X) ops.size).1;have c:=(T.Hv (k:=i) (by have:=r.lt; omega)).1;unfold ai.tmp;rw[b,c];by_cases h:t<(A 0).env.n
 .rw[bx h];simp only[if_true];rw[kF (Y:=fun j=>ge (j<i)) h ops.size (fun j g l=>r.looks T f g l),wj h ops.size (by have:=r.lt; omega),T.sK i (by have:=r.lt; omega)]
 .rw[mc h]; simp
def dZ.want(T:kM P ops D A HH ρ0 w0){X c:Nat->Bool}{i:Nat}{o:Oper}(r:dZ ops X c i o)(f:(D i).bad=gc)(ρ:Ren):Region.wanted o (yielded ops (ρ.act (ax ops D (A 0) X ops.size)).tmps)=(D i).on:=by
 obtain⟨o',b,m,g,_⟩:=T.fact i r.lt;rw[r.at_]at b;cases b;rw[<-gh ρ (g f)];unfold Region.wanted
 cases h:o.guard with
 |none=>rfl
 |some k =>
  obtain⟨j,want⟩:=k;simp only[ud]
  cases l:(ops[j]?).bind (·.dst) with
  |none=>rfl
  |some d=>simp only[r.tmp T (t:=d) (by simp[Oper.looksAt,h,l])]
def dZ.RM(T:kM P ops D A HH ρ0 w0){X b:Nat->Bool}{i:Nat}{o:Oper}(r:dZ ops X b i o)(ρ:Ren):∀ x∈o.op.operands,(ρ.act (ax ops D (A 0) X ops.size)).eval x=(ρ.act (A i)).eval x:=by
 intro x hx
 cases x with
 |tmp t =>show (ρ.act (ax ops D (A 0) X ops.size)).tmps.getD t undef=(ρ.act (A i)).tmps.getD t undef;rw[sC,sC,r.tmp T (t:=t) (List.mem_append_left _ (List.mem_filterMap.2 ⟨.tmp t,by simpa using hx,rfl⟩))]
 |_=>rfl
end
section
variable{P:io}{ops:Array Oper}{D:Nat -> tm}{A:Nat -> ai}{HH:Nat -> aa}{ρ0:Ren}{w0:ip}
def CZ(ops:Array Oper)(HH:Nat->aa)(n:Nat):Prop:=(HH 0).base<=n\/n∈(HH ops.size).dirty
structure Inv (P:io) (ops:Array Oper) (D:Nat->tm) (A:Nat->ai) (HH:Nat->aa) (ρ0:Ren) (w0:ip) (X:Nat->Bool) (ρ:Ren) (w:ip):Prop where
 glob:∀ g,g<P.globals.size->ρ.blk g=g/\ρ.sh g=0
 inj:∀ a b,hx D HH X ops.size a≠bi->hx D HH X ops.size b≠bi->ρ.blk a=ρ.blk b->a=b\/Fz (hx D HH X ops.size a)/\Fz (hx D HH X ops.size b)
 ro:∀ n,Fz ((HH 0).get n)->hx D HH X ops.size n=(HH 0).get n
 dom:∀ n o,hx D HH X ops.size n=ap o->ql ops HH X n/\∀ k∈p8 o,ql ops HH X k
 obj:∀ n o,hx D HH X ops.size n=ap o->∃ o',w.heap[ρ.blk n]?=ap o'/\Fits P ρ n o o'
 env:∀ t,t<(A 0).env.n->∀ k∈ae ((ax ops D (A 0) X ops.size).env.get t),ql ops HH X k
 ext:Ext (HH 0).next ρ0 ρ
 os:w.os=w0.os
 tape:w.tape=w0.tape
 output:w.output=w0.output
 size:w0.heap.size<=w.heap.size
 old:∀ b,b<w0.heap.size->(∀ n,n<(HH 0).next->CZ ops HH n->(HH 0).get n≠bi->ρ0.blk n≠b)->w.heap[b]?=w0.heap[b]?
 fresh:∀ n,(HH 0).next<=n->hx D HH X ops.size n≠bi->w0.heap.size<=ρ.blk n\/∃ k,k<(HH 0).next/\(HH 0).get k≠bi/\CZ ops HH k/\ρ.blk n=ρ0.blk k
 gone:∀ n,n<(HH 0).next->(HH 0).get n=bi->hx D HH X ops.size n=bi
def ql.mono{X b:Nat->Bool}(h:∀ j,X j=bv->b j=bv){n:Nat}(c:ql ops HH X n):ql ops HH b n :=
 c.imp id (fun⟨k,d,f,g⟩=>⟨k,d,h k f,g⟩)
def kD(ρ c:Ren){a b:ai}(d:a.env.n=b.env.n)(f:a.defers.map ρ.sd=b.defers.map c.sd)(g:∀ t,t<b.env.n->ρ.val (a.env.get t)=c.val (b.env.get t)):ρ.act a=c.act b:=by
 unfold Ren.act;rw[f];congr 1;apply Array.ext_getElem?;intro i;rw[jc,jc,d];split
 .rename_i h; rw[g i h]
 .rfl
def dZ.up{X b:Nat->Bool}{i:Nat}{o:Oper}(r:dZ ops X b i o):∀ j,X j=bv->b j=true:=fun j h=>by
 by_cases e:j=i
 .rw[e]; exact r.now
 .rw[r.rest j e]; exact h
def JK(T:kM P ops D A HH ρ0 w0){ρ b:Ren}(h:Ext (HH 0).next ρ0 ρ)(f:Ext (HH 0).next ρ0 b):(A 0).defers.map b.sd=(A 0).defers.map ρ.sd:=by apply List.map_congr_left;intro d c;rw[sn h (T.sc.2 d c),sn f (T.sc.2 d c)]
def dZ.off(T:kM P ops D A HH ρ0 w0){X g:Nat->Bool}{i:Nat}{o:Oper}(r:dZ ops X g i o)(d:(D i).on=gc){ρ:Ren}{w:ip}(I:Inv P ops D A HH ρ0 w0 X ρ w) :
  Inv P ops D A HH ρ0 w0 g ρ w/\(ρ.act (ax ops D (A 0) X ops.size)).put o.dst undef=ρ.act (ax ops D (A 0) g ops.size):=by
 have c:∀ n,hx D HH g ops.size n=hx D HH X ops.size n:=fun n=>l4 _ (fun j _ s=>r.rest j (fun e=>by rw[e]at s; have:=s.1; rw[d]at this; cases this));obtain⟨o',u,Q,R,S,B⟩:=T.fact i r.lt;rw[r.at_]at u;cases u;have C:=(B d).1;have p:gA ops i=o.dst:=by simp[gA,r.at_]
 have v:∀ t,t<(A 0).env.n->(ax ops D (A 0) g ops.size).env.get t=if o.dst=ap t then undef else (ax ops D (A 0) X ops.size).env.get t:=fun t f=>by rw[tB f r.not r.now r.rest ops.size r.lt (fun j l m E F=>r.dst T l m E F),p,C]
 refine⟨⟨I.glob,fun a b G J=>by rw[c,c]; exact I.inj a b (by rw[<-c]; exact G) (by rw[<-c]; exact J),fun n K=>by rw[c]; exact I.ro n K,fun n o q=>?_,fun n o q=>I.obj n o (by rw[<-c]; exact q),fun t f k h=>?_,I.ext,I.os,I.tape,I.output,I.size,I.old,fun n l m=>I.fresh n l (by rw[<-c]; exact m),fun n l m=>by rw[c]; exact I.gone n l m⟩,?_⟩
 .have:=I.dom n o (by rw[<-c]; exact q);exact⟨this.1.mono r.up,fun k h=>(this.2 k h).mono r.up⟩
 .rw[v t f]at h;split at h
  .simp[undef,ae,sI,gH]at h
  .exact (I.env t f k h).mono r.up
 .have x:=jy ρ (ax ops D (A 0) X ops.size) o.dst undef;rw[Ren.val_undef]at x;rw[x];obtain⟨L,M⟩:=Mu (ax ops D (A 0) X ops.size) o.dst undef;obtain⟨y,O⟩:=qa (ops:=ops) (D:=D) (a:=A 0) (X:=X) ops.size;obtain⟨z,s2⟩:=qa (ops:=ops) (D:=D) (a:=A 0) (X:=g) ops.size;refine kD ρ ρ (by rw[L,y,z]) (by rw[M,O,s2]) (fun t f=>?_);rw[z]at f;rw[j9 _ _ _ _ (by rw[y]; exact f),v t f]
def dZ.same(T:kM P ops D A HH ρ0 w0){X c:Nat->Bool}{i:Nat}{o:Oper}(r:dZ ops X c i o)(b:(D i).on=bv){n:Nat}(d:n∈(D i).F):hx D HH X ops.size n=(HH i).get n:=by have hi:=r.lt;rw[l4 (Y:=fun j=>ge (j<i)) ops.size (fun j f g=>r.Eh T b d f g),HI ops.size li,T.FW i li]
def dZ.rel(T:kM P ops D A HH ρ0 w0){X t:Nat->Bool}{i:Nat}{o:Oper}(r:dZ ops X t i o)(c:(D i).on=bv){ρ:Ren}{w:ip}(I:Inv P ops D A HH ρ0 w0 X ρ w) :
  Rel P ρ ((HH i).restrict (D i).F) w:=by
 have L:=T.loc r.lt c;obtain⟨l,u,G⟩:=aI (HH i) (D i).F
 have f:∀ n x,((HH i).restrict (D i).F).get n=ap x->n∈(D i).F/\(HH i).get n=ap x:=fun n x h=>by
  rw[bf]at h;split at h
  .rename_i v; exact⟨v,h⟩
  .cases h
 have g:∀ n,((HH i).restrict (D i).F).get n≠bi->hx D HH X ops.size n≠none:=fun n h=>by obtain⟨x,d⟩:=Option.ne_none_iff_exists'.1 h;obtain⟨m,p⟩:=f n x d;rw[r.same T c m,p]; simp
 refine⟨by rw[l,u]; exact zA5 _,by rw[l]; exact⟨L.glob,I.glob⟩,fun a b q s y=>by
  obtain⟨z,j⟩:=Option.ne_none_iff_exists'.1 q;obtain⟨B,k⟩:=Option.ne_none_iff_exists'.1 s;obtain⟨a1,a2⟩:=f a z j;obtain⟨C,E⟩:=f b B k;have:=I.inj a b (g a q) (g b s) y;rw[r.same T c a1,r.same T c C,a2,E]at this
  rw[j,k]; exact this,fun n x d=>?_,fun n x d=>?_⟩
 .rw[l]; exact L.domH n x (f n x d).2
 .obtain⟨m,p⟩:=f n x d;exact I.obj n x (by rw[r.same T c m]; exact p)
def dZ.out(T:kM P ops D A HH ρ0 w0){X l:Nat->Bool}{i:Nat}{o:Oper}(r:dZ ops X l i o)(c:(D i).on=bv){n:Nat}(hn:n∈fV (D i).v (D i).g (HH i).next):ql ops HH l n:=by
 have L:=T.loc r.lt c;have hi:=r.lt;have q:=(T.step r.lt).2.1 c
 have d:n<(D i).g.next:=by
  rw[fV,zB4]at hn;rcases hn with hn|hn
  .exact dQ _ L.v n hn
  .obtain⟨x,_,hx⟩:=List.mem_flatMap.1 hn;unfold eY at hx;split at hx
   .rename_i s f; exact qT (L.dom x s f).2 n hx
   .cases hx
 rcases T.part (i+1) li (by rw[q]; exact d) with h|⟨j,z,m,k⟩
 .exact .inl h
 .by_cases e:j=i
  .subst e; exact .inr ⟨j,r.lt,r.now,m,k⟩
  .have t:j<i:=by omega
   refine .inr ⟨j,by omega,?_,m,k⟩;rw[r.rest j e]
   cases p:((iU ops).getD i 0).testBit j with
   |true=>exact T.mo r.closed r.at_ r.edges r.lt p
   |false =>
    have b:(D j).on=true:=by
     cases b:(D j).on with
     |true=>rfl
     |false =>have:=(T.step (i:=j) li).2.2.1 b;rw[this]at k; omega
    have u:=(T.step (i:=j) li).2.1 b;obtain⟨B,C,y⟩:=pP (T.pair j i t r.lt b c) p;have:=(y (by show (HH j).next<(D j).g.next; omega)).2 n hn;simp only[qb]at this;omega
def dZ.PY(T:kM P ops D A HH ρ0 w0){X d:Nat->Bool}{i:Nat}{o:Oper}(r:dZ ops X d i o)(b:(D i).on=bv){n:Nat}(f:ql ops HH X n):¬((HH i).next<=n/\n<(D i).g.next):=by
 have hi:=r.lt;have l:=(T.step r.lt).2.1 b
 rcases f with h|⟨k,m,c,p,q⟩
 .have:=(T.mono (i:=0) (j:=i) li li).1; omega
 .rcases Nat.lt_trichotomy k i with h|h|h
  .have:=(T.mono (i:=k+1) (j:=i) li li).1; omega
  .subst h; rw[r.not]at c; cases c
  .have:=(T.mono (i:=i+1) (j:=k) li li).1; omega
def kM.own(T:kM P ops D A HH ρ0 w0){i:Nat}(hi:i<ops.size)(b:(D i).on=bv){n:Nat}(c:n∈(D i).g.dirty):CZ ops HH n:=by
 have d:=(T.mono (i:=0) (j:=i) li li).2.1;rcases zC2 n (HH 0).base with h|h
 .right;have:=(T.step hi).2.2.2.2.2 b n c (by rw[d]; exact h);exact (T.mono (i:=i+1) (j:=ops.size) li li).2.2 n this
 .exact .inl h
def dZ.on(T:kM P ops D A HH ρ0 w0){X X':Nat->Bool}{i:Nat}{o:Oper}(r:dZ ops X X' i o)(z:(D i).on=bv){ρ:Ren}{w:ip}(I:Inv P ops D A HH ρ0 w0 X ρ w)
  {d:Ren} {w1:ip} (s:St P ρ ((HH i).restrict (D i).F) w d (D i).g w1) :
  Inv P ops D A HH ρ0 w0 X' (ρ.mix d (HH i).next (D i).g.next) w1/\(ρ.act (ax ops D (A 0) X ops.size)).put o.dst (d.val (D i).v)=(ρ.mix d (HH i).next (D i).g.next).act (ax ops D (A 0) X' ops.size):=by
 have L:=T.loc r.lt z;have hi:=r.lt;have hs:=(T.step r.lt).2.1 z;have hlo:=(T.mono (i:=0) (j:=i) li li).1;obtain⟨k1,k2,k3⟩:=aI (HH i) (D i).F;have J:Ext (HH i).next ρ d:=by have:=s.ext; rw[k1]at this; exact this
 obtain⟨o',f1,f2,f3,f4,f5⟩:=T.fact i r.lt;rw[r.at_]at f1;cases f1;have hdi:gA ops i=o.dst:=by simp[gA,r.at_]
 have hLF:∀ m,((HH i).restrict (D i).F).get m≠bi->m∈(D i).F:=fun m h=>by
  rw[bf]at h;split at h
  .rename_i hm; exact hm
  .exact absurd rfl h
 have B:∀ n∈(D i).F,hx D HH X ops.size n≠none:=fun n f=>by rw[r.same T z f]; exact L.F n f
 -- memory behind the operation
 have hh:∀ n,hx D HH X' ops.size n=if re D HH i n then (D i).g.get n else hx D HH X ops.size n:=fun n =>
  zH r.not r.now r.rest ops.size r.lt (fun j l p h3 Z=>r.ins T l p h3 Z)
 have C:∀ n x,hx D HH X' ops.size n=ap x->((D i).g.get n=ap x/\(n∈(D i).F\/(HH i).next<=n))\/(n∉(D i).F/\hx D HH X ops.size n=ap x):=fun n x c=>by
  rw[hh]at c;split at c
  .rename_i V;refine .inl ⟨c,?_⟩;rcases V.2 with h|h
   .exact .inl (L.W n h)
   .exact .inr h.1
  .rename_i V;by_cases hf:n∈(D i).F
   .refine .inl ⟨?_,.inl hf⟩;rw[L.jZ n hf (fun h=>V ⟨z,.inl h⟩),<-r.same T z hf]; exact c
   .exact .inr ⟨hf,c⟩
 -- how the renamings agree
 have g1:∀ n,n<(D i).g.next->mA d (ρ.mix d (HH i).next (D i).g.next) n:=fun n f=>P6 ρ d J f;have Y:∀ n,ql ops HH X n->mA ρ (ρ.mix d (HH i).next (D i).g.next) n:=fun n f=>OW ρ d (r.PY T z f)
 have hblk:∀ n,hx D HH X ops.size n≠bi->ρ.blk n<w.heap.size:=fun n f=>by
  obtain⟨x,c⟩:=Option.ne_none_iff_exists'.1 f;obtain⟨y,hy,_⟩:=I.obj n x c;rcases zC2 (ρ.blk n) w.heap.size with h|h
  .exact h
  .simp[Array.getElem?_eq_none h]at hy
 have hFL:∀ m∈(D i).F,((HH i).restrict (D i).F).get m=(HH i).get m:=fun m h=>by rw[bf,if_pos h]
 have hro:∀ m∈(D i).F,Fz (hx D HH X ops.size m)->m∉(D i).g.dirty/\(D i).g.get m=hx D HH X ops.size m:=fun m h hz=>by rw[r.same T z h]at hz ⊢;obtain⟨a,b⟩:=s.ro m (by rw[hFL m h]; exact hz);rw[k3]at a;exact⟨fun h=>(by cases a h),by rw[b,hFL m h]⟩
 -- the blocks that the operation has written or made anew, by where they came from
 have hnew:∀ n x,(D i).g.get n=ap x->(HH i).next<=n->w.heap.size<=d.blk n\/∃ m,m∈(D i).F/\m∈(D i).g.dirty/\m<(HH i).next/\d.blk n=ρ.blk m:=fun n x c f=>by
  rcases s.fresh n (by rw[k1]; exact f) (bw c) with h|⟨m,l,p,h3,Z⟩
  .exact .inl h
  .refine .inr ⟨m,hLF m p,?_,by rw[k1]at l; exact l,Z⟩;rcases h3 with h3|h3
   .rw[k2]at h3; rw[k1]at l; omega
   .exact h3
 have he:∀ t,t<(A 0).env.n->(ax ops D (A 0) X' ops.size).env.get t=if o.dst=ap t then (D i).v else (ax ops D (A 0) X ops.size).env.get t:=fun t K=>by rw[tB K r.not r.now r.rest ops.size r.lt (fun j l p h3 Z=>r.dst T l p h3 Z),hdi]
 have hvout:∀ k∈ae (D i).v,ql ops HH X' k:=fun k E=>r.out T z (by rw[fV]; exact List.mem_append_left _ E);have M:Ext (HH 0).next ρ0 (ρ.mix d (HH i).next (D i).g.next):=by have ha:∀ n,n<(HH 0).next->mA ρ (ρ.mix d (HH i).next (D i).g.next) n:=fun n f=>Y n (.inl f);exact⟨fun n f=>(ha n f).1.trans (I.ext.blk n f),fun n f=>(ha n f).2.1.trans (I.ext.sh n f),fun n f=>(ha n f).2.2.1.trans (I.ext.ex n f),fun n f=>(ha n f).2.2.2.trans (I.ext.op n f)⟩
 have hglob:P.globals.size<=(HH 0).next:=T.rel.glob.1;refine⟨⟨fun g hg=>?_,?_,fun n hz=>?_,?_,?_,?_,M,s.os.trans I.os,s.tape.trans I.tape,s.output.trans I.output,zC7 I.size s.size,?_,?_,?_⟩,?_⟩
 .have ha:=Y g (.inl li);rw[ha.1,ha.2.1]; exact I.glob g hg
 .-- one to one
  intro a b ha hb u;obtain⟨xa,O⟩:=Option.ne_none_iff_exists'.1 ha;obtain⟨xb,Q⟩:=Option.ne_none_iff_exists'.1 hb
  have R:∀ x y ox oy,(D i).g.get x=ap ox->(x∈(D i).F\/(HH i).next<=x)->y∉(D i).F->hx D HH X ops.size y=ap oy->(ρ.mix d (HH i).next (D i).g.next).blk x=(ρ.mix d (HH i).next (D i).g.next).blk y->Fz ((D i).g.get x)/\Fz (hx D HH X ops.size y):=by
   intro x y ox oy hox S hyF hoy u;rw[(g1 x (L.dom x ox hox).1).1,(Y y (I.dom y oy hoy).1).1]at u;rcases zC2 x (HH i).next with hlt|hge
   .have S:x∈(D i).F:=S.elim id (fun h=>by omega);rw[J.blk x hlt]at u
    rcases I.inj x y (B x S) (bw hoy) u with e|⟨e1,e2⟩
    .exact absurd (e▸S) hyF
    .exact⟨by rw[(hro x S e1).2]; exact e1,e2⟩
   .rcases hnew x ox hox hge with h|⟨m,l,p,h3,Z⟩
    .have:=hblk y (bw hoy); omega
    .rw[Z]at u;exact (I.inj m y (B m l) (bw hoy) u).elim (fun e=>absurd (e▸l) hyF) fun h=>absurd p (hro m l h.1).1
  rcases C a xa O with⟨l,p⟩|⟨l,p⟩<;>rcases C b xb Q with⟨j1,j2⟩|⟨j1,j2⟩
  .rw[(g1 a (L.dom a xa l).1).1,(g1 b (L.dom b xb j1).1).1]at u;rw[O,Q,<-l,<-j1];exact s.rel.inj a b (bw l) (bw j1) u
  .rw[O,Q,<-l,<-j2];exact .inr (R a b xa xb l p j1 j2 u)
  .rw[O,Q,<-p,<-j1];exact .inr (R b a xb xa j1 j2 l p u.symm).symm
  .rw[(Y a (I.dom a xa p).1).1,(Y b (I.dom b xb j2).1).1]at u;rw[O,Q,<-p,<-j2];exact I.inj a b (bw p) (bw j2) u
 .-- what is for reading only
  have h0:=I.ro n hz;rw[hh];split
  .rename_i V;have hz':Fz (hx D HH X ops.size n):=by rw[h0]; exact hz
   rcases V.2 with h|h
   .exact absurd h (hro n (L.W n h) hz').1
   .have:=T.rel.lt hz.ne; omega
  .exact h0
 .-- what is named
  intro n x c;have hx0:=c;rw[hh]at c;split at c
  .rename_i V;have hd:=L.dom n x c;refine⟨?_,fun k E=>r.out T z ?_⟩
   .rcases V.2 with h|h
    .obtain⟨y,hy⟩:=Option.ne_none_iff_exists'.1 (B n (L.W n h));exact (I.dom n y hy).1.mono r.up
    .exact .inr ⟨i,r.lt,r.now,h.1,by rw[hs]; exact h.2⟩
   .rw[fV];refine List.mem_append_right _ (List.mem_flatMap.2 ⟨n,?_,by simp only[eY,c]; exact E⟩);rcases V.2 with h|h
    .exact List.mem_append_left _ h
    .exact List.mem_append_right _ (qi _ _ h.1 li)
  .have:=I.dom n x c;exact⟨this.1.mono r.up,fun k E=>(this.2 k E).mono r.up⟩
 .-- the objects
  intro n x c
  rcases C n x c with⟨l,_⟩|⟨l,p⟩
  .obtain⟨y,hy,hf⟩:=s.rel.obj n x l;have hd:=L.dom n x l;refine⟨y,by rw[(g1 n hd.1).1]; exact hy,hf.agree (g1 n hd.1) (fun k E=>g1 k (qT hd.2 k E))⟩
  .obtain⟨y,hy,hf⟩:=I.obj n x p;have hd:=I.dom n x p;refine⟨y,?_,hf.agree (Y n hd.1) (fun k E=>Y k (hd.2 k E))⟩;rw[(Y n hd.1).1,<-hy];refine s.old _ (hblk n (bw p)) fun m hm hdm hgm e=>?_;have G:=hLF m hgm;have hmd:m∈(D i).g.dirty:=hdm.elim (fun h=>by rw[k2]at h; rw[k1]at hm; omega) id;exact (I.inj m n (B m G) (bw p) e).elim (fun e=>l (e▸G)) fun h=>(hro m G h.1).1 hmd
 .-- the temporaries
  intro t K k E;rw[he t K]at E;split at E
  .exact hvout k E
  .exact (I.env t K k E).mono r.up
 .-- what was there before
  intro b hb hc;rw[<-I.old b hb hc];refine s.old b (zD1 hb I.size) fun m hm hdm hgm=>?_;have G:=hLF m hgm
  have hmd:m∈(D i).g.dirty:=by
   rcases hdm with h|h
   .rw[k2]at h; rw[k1]at hm; omega
   .exact h
  have U:=T.own r.lt z hmd;rcases zC2 m (HH 0).next with h|h
  .rw[I.ext.blk m h];exact hc m h U (fun e=>B m G (I.gone m h e))
  .rcases I.fresh m h (B m G) with h'|⟨q,l,p,h3,Z⟩
   .omega
   .rw[Z]; exact hc q l h3 p
 .-- what is new
  intro n f dK;obtain⟨x,c⟩:=Option.ne_none_iff_exists'.1 dK
  rcases C n x c with⟨l,p⟩|⟨l,p⟩
  .rw[(g1 n (L.dom n x l).1).1];rcases zC2 n (HH i).next with hlt|hge
   .have hnF:n∈(D i).F:=p.elim id (fun h=>by omega);rw[J.blk n hlt];exact I.fresh n f (B n hnF)
   .rcases hnew n x l hge with h|⟨m,m1,m2,m3,m4⟩
    .exact .inl (zC7 I.size h)
    .rw[m4];have U:=T.own r.lt z m2;rcases zC2 m (HH 0).next with h|h
     .exact .inr ⟨m,h,fun e=>B m m1 (I.gone m h e),U,I.ext.blk m h⟩
     .exact I.fresh m h (B m m1)
  .rw[(Y n (I.dom n x p).1).1];exact I.fresh n f (bw p)
 .-- what is gone
  intro n f h0;rw[hh];split
  .rename_i V;rcases V.2 with h|h
   .exact absurd (I.gone n f h0) (B n (L.W n h))
   .omega
  .exact I.gone n f h0
 .-- the frame
  have hval:d.val (D i).v=(ρ.mix d (HH i).next (D i).g.next).val (D i).v:=(nI _ (fun k E=>g1 k (dQ _ L.v k E))).symm
  have hmid:ρ.act (ax ops D (A 0) X ops.size)=(ρ.mix d (HH i).next (D i).g.next).act (ax ops D (A 0) X ops.size):=by
   obtain⟨q1,q2⟩:=qa (ops:=ops) (D:=D) (a:=A 0) (X:=X) ops.size;refine kD _ _ rfl ?_ (fun t K=>?_)
   .rw[q2]; exact JK T M I.ext
   .rw[q1]at K;exact (nI _ (fun k E=>Y k (I.env t K k E))).symm
  rw[hmid,hval,jy];obtain⟨p1,p2⟩:=Mu (ax ops D (A 0) X ops.size) o.dst (D i).v;obtain⟨q1,q2⟩:=qa (ops:=ops) (D:=D) (a:=A 0) (X:=X) ops.size;obtain⟨s1,s2⟩:=qa (ops:=ops) (D:=D) (a:=A 0) (X:=X') ops.size;refine kD _ _ (by rw[p1,q1,s1]) (by rw[p2,q2,s2]) (fun t K=>?_);rw[s1]at K;rw[j9 _ _ _ _ (by rw[q1]; exact K),he t K]
end
section
variable{P:io}{ops:Array Oper}{D:Nat -> tm}{A:Nat -> ai}{HH:Nat -> aa}{ρ0:Ren}{w0:ip}
def bH(l:Array Bool)(j:Nat):Bool:=l.getD j gc
def left(m:Nat)(X:Nat->Bool):Nat:=((List.range m).filter fun i=>!X i).length
def qN{listed:Array Bool}{i:Nat}(f:listed.size=ops.size)(h:i∈Region.ready .any ops listed):i<ops.size/\bH listed i=gc/\∃ o,ops[i]?=ap o/\∀ e∈o.after,Region.binds .any e=bv->bH listed e.on=true:=by
 obtain⟨c,o,d,g⟩:=mem_ready.1 h
 have b:i<ops.size:=by
  rcases zC2 i ops.size with h|h
  .exact h
  .simp[Array.getElem?_eq_none h]at d
 refine⟨b,?_,o,d,fun e j k=>g e j k⟩;have l:i<listed.size:=by omega
 simp only[bH,Array.getD_eq_getD_getElem?,Array.getElem?_eq_getElem l,Option.getD_some]at c ⊢;exact c
def Lc{listed:Array Bool}{i:Nat}{o:Oper}(c:listed.size=ops.size)(hi:i<ops.size)(b:bH listed i=gc)(d:ops[i]?=ap o)(f:∀ e∈o.after,Region.binds .any e=bv->bH listed e.on=bv):i∈Region.ready .any ops listed:=by
 refine mem_ready.2 ⟨?_,o,d,fun e h g=>f e h g⟩;have j:i<listed.size:=by omega
 simp only[bH,Array.getD_eq_getD_getElem?,Array.getElem?_eq_getElem j,Option.getD_some]at b ⊢;exact b
def HR(T:kM P ops D A HH ρ0 w0){listed:Array Bool}(b:listed.size=ops.size)(h:Region.ready .any ops listed=[]):∀ i,i<ops.size->bH listed i=true:=by
 intro i
 induction i using Nat.strongRecOn with
 |_ i f =>
  intro hi
  cases g:bH listed i with
  |true=>rfl
  |false =>
   obtain⟨o,d⟩:∃ o,ops[i]?=ap o:=⟨ops[i],by simp[hi]⟩
   have:i∈Region.ready .any ops listed:=Lc b hi g d (fun e j k=>by
    have c:=(T.stat i o d).2 e j k
    exact f e.on c li)
   rw[h]at this; cases this
def BP(T:kM P ops D A HH ρ0 w0){X:Nat->Bool}(l:∀ i,i<ops.size->X i=bv){ρ:Ren}{w:ip}(I:Inv P ops D A HH ρ0 w0 X ρ w) :
  St P ρ0 (HH 0) w0 ρ (HH ops.size) w/\ρ.act (ax ops D (A 0) X ops.size)=ρ.act (A ops.size):=by
 have d:∀ n,hx D HH X ops.size n=(HH ops.size).get n:=fun n=>by rw[l4 (Y:=fun _=>bv) ops.size (fun j f _=>l j f),T.FW ops.size (zA5 _)]
 obtain⟨q,K,c,r⟩:=T.ex ops.size (zA5 _)
 refine⟨⟨I.ext,c.le,⟨c.rel.base,⟨c.rel.glob.1,I.glob⟩,fun a b s g=>by rw[<-d,<-d]; exact I.inj a b (by rw[d]; exact s) (by rw[d]; exact g),c.rel.dom,fun n o u=>I.obj n o (by rw[d]; exact u)⟩,I.os,I.tape,I.output,I.size,
  fun b g v=>I.old b g v,fun n x y=>?_,c.ro⟩,?_⟩
 .rcases I.fresh n x (by rw[d]; exact y) with h|⟨k,z,B,C,E⟩
  .exact .inl h
  .exact .inr ⟨k,z,B,C,E⟩
 .obtain⟨F,G⟩:=qa (ops:=ops) (D:=D) (a:=A 0) (X:=X) ops.size;obtain⟨m,J⟩:=T.Hv (k:=ops.size) (zA5 _);refine kD _ _ (by rw[F,m]) (by rw[G,J]) (fun t p=>?_);rw[m]at p;rw[kF (Y:=fun _=>bv) p ops.size (fun j f _=>l j f),T.sK ops.size (zA5 _)]
def pO(T:kM P ops D A HH ρ0 w0){X:Nat->Bool}(m:∀ i,X i=gc){w:ip}(f:w.heap=w0.heap)(q:w.os=w0.os)(r:w.tape=w0.tape)(s:w.output=w0.output) :
  Inv P ops D A HH ρ0 w0 X ρ0 w/\ax ops D (A 0) X ops.size=A 0:=by
 have c:∀ k n,hx D HH X k n=(HH 0).get n:=fun k n=>by
  induction k with
  |zero=>rfl
  |succ k g=>rw[hx,if_neg (fun h=>by rw[m]at h; cases h.1),g]
 have p:∀ k,ax ops D (A 0) X k=A 0:=fun k=>by
  induction k with
  |zero=>rfl
  |succ k g=>rw[ax,if_neg (by rw[m]; simp),g]
 refine⟨⟨T.rel.glob.2,fun a b j u=>by rw[c ops.size,c ops.size]; exact T.rel.inj a b (by rw[<-c ops.size]; exact j) (by rw[<-c ops.size]; exact u),fun n _=>c ops.size n,fun n o l=>?_,fun n o l=>by rw[f]; exact T.rel.obj n o (by rw[<-c ops.size]; exact l),fun t v k d=>?_,Ext.refl _ _,q,r,s,
  by rw[f]; exact zA5 _,fun b _ _=>by rw[f],fun n y dK=>?_,fun n _ x=>by rw[c]; exact x⟩,p ops.size⟩
 .have:=T.rel.dom n o (by rw[<-c ops.size]; exact l);exact⟨.inl this.1,fun k d=>.inl (qT this.2 k d)⟩
 .rw[p]at d;exact .inl (dQ _ (T.sc.1 t v) k d)
 .rw[c]at dK;exact absurd (T.rel.lt dK) li
def Q9{listed:Array Bool}{i:Nat}(hi:i<listed.size)(j:Nat):bH (listed.setIfInBounds i bv) j=if j=i then bv else bH listed j:=by
 unfold bH;rw[Array.getD_eq_getD_getElem?,Array.getD_eq_getD_getElem?,Array.getElem?_setIfInBounds];by_cases e:i=j
 .subst e; simp[hi]
 .rw[if_neg e,if_neg (fun h=>e h.symm)]
def vS(T:kM P ops D A HH ρ0 w0){F:Fence}{n:Nat}(Z:cU F){Q:Exit->Act->ip->Prop}
  (hA:∀ i,i<ops.size->(D i).bad=bv->∀ j,j<ops.size->j≠i->((iU ops).getD i 0).testBit j=bv)
  (hB:∀ i o,ops[i]?=ap o->(D i).bad=bv->∀(X X':Nat->Bool)(ρ:Ren)(w:ip),(∀ j,j<ops.size->j≠i->X j=bv)->dZ ops X X' i o->Inv P ops D A HH ρ0 w0 X ρ w ->
   Region.wanted o (yielded ops (ρ.act (ax ops D (A 0) X ops.size)).tmps)=bv/\∀ K:Act->ip->Prop,(∀ act w',Q .normal act w'->K act w')->o.wpIn F n P (ρ.act (ax ops D (A 0) X ops.size)) w K Q)
  (hQ:(∀ i,i<ops.size->(D i).bad=gc)->∀ x w1,St P ρ0 (HH 0) w0 x (HH ops.size) w1->Q .normal (x.act (A ops.size)) w1) :
  ∀(b:Nat)(listed:Array Bool)(ρ:Ren)(w:ip),listed.size=ops.size->left ops.size (bH listed)<=b->yu ops (bH listed)->(∀ i,bH listed i=bv->(D i).bad=gc)->Inv P ops D A HH ρ0 w0 (bH listed) ρ w ->
   wpAnyIn F n P .any ops Q b listed (ρ.act (ax ops D (A 0) (bH listed) ops.size)) w:=by
 have u:∀(listed:Array Bool)(ρ:Ren)(w:ip),listed.size=ops.size->(∀ i,bH listed i=bv->(D i).bad=gc)->Inv P ops D A HH ρ0 w0 (bH listed) ρ w->Region.ready .any ops listed=[]->Q .normal (ρ.act (ax ops D (A 0) (bH listed) ops.size)) w:=by intro listed ρ w c q I y;obtain⟨h1,h2⟩:=BP T (HR T c y) I;rw[h2]; exact hQ (fun i hi=>q i (HR T c y i hi)) ρ w h1
 intro b
 induction b with
 |zero =>
  intro listed ρ w c S U q I
  have y:Region.ready .any ops listed=[]:=by
   cases e:Region.ready .any ops listed with
   |nil=>rfl
   |cons i l =>obtain⟨hi,z,_⟩:=qN c (i:=i) (by rw[e]; exact zD7 ..);have:i∈(List.range ops.size).filter fun i=>!bH listed i:=List.mem_filter.2 ⟨zF5.2 hi,by rw[z]; rfl⟩;have h0:(List.range ops.size).filter (fun i=>!bH listed i)=[]:=zE7 (by unfold left at S; omega);rw[h0]at this; cases this
  exact⟨y,u listed ρ w c q I y⟩
 |succ b ih =>
  intro listed ρ w c S U q I;refine⟨fun y=>u listed ρ w c q I y,fun i hi=>?_⟩;obtain⟨d,z,o,C,g⟩:=qN c hi;have v:=Q9 (listed:=listed) (i:=i) li
  have r:dZ ops (bH listed) (bH (listed.setIfInBounds i bv)) i o :=
   ⟨d,C,z,by rw[v]; simp,fun j p=>by rw[v,if_neg p],g,U⟩
  have k:(listed.setIfInBounds i bv).size=ops.size:=by simp[c]
  have E:left ops.size (bH (listed.setIfInBounds i bv))<=b:=by
   have:=Ih (fun j=>!bH listed j) (fun j=>!bH (listed.setIfInBounds i bv) j) (List.range ops.size) (fun j _ h=>by
    simp only[Bool.not_eq_true']at h ⊢
    cases e:bH listed j with
    |false=>rfl
    |true=>have:=r.up j e; rw[h]at this; cases this) i (zF5.2 d) (by simp[z]) (by simp[r.now])
   unfold left at S ⊢;omega
  have G:yu ops (bH (listed.setIfInBounds i bv)):=by
   intro j oj B J e he q;by_cases L:j=i
   .subst L;rw[C]at B;cases B;exact r.up _ (g e he q)
   .rw[r.rest j L]at J;exact r.up _ (U j oj B J e he q)
  unfold wpOpIn;simp only[C]
  cases m:(D i).bad with
  |true =>
   obtain⟨hw,hk⟩:=hB i o C m _ _ ρ w (fun j p dK=>T.mo r.closed r.at_ r.edges r.lt (hA i d m j p dK)) r I;rw[hw];simp only[if_true]
   have M:∀ j,j<ops.size->bH (listed.setIfInBounds i bv) j=true:=fun j p=>by
    by_cases e:j=i
    .rw[e]; exact r.now
    .rw[r.rest j e]; exact T.mo r.closed r.at_ r.edges r.lt (hA i d m j p e)
   have O:Region.ready .any ops (listed.setIfInBounds i bv)=[]:=by
    cases e:Region.ready .any ops (listed.setIfInBounds i bv) with
    |nil=>rfl
    |cons j l =>obtain⟨p,z,_⟩:=qN k (i:=j) (by rw[e]; exact zD7 ..);rw[M j p]at z; cases z
   refine hk _ (fun act w' hq=>?_)
   cases b with
   |zero=>exact⟨O,hq⟩
   |succ b=>exact⟨fun _=>hq,fun i hi=>by rw[O]at hi; cases hi⟩
  |false =>
  have R:∀ j,bH (listed.setIfInBounds i bv) j=bv->(D j).bad=false:=fun j p=>by
   by_cases e:j=i
   .rw[e]; exact m
   .rw[r.rest j e]at p; exact q j p
  rw[r.want T m ρ]
  cases t:(D i).on with
  |false =>simp only[zC8,if_false];obtain⟨V,W⟩:=r.off T t I;exact⟨fun f _=>Z.fn f,by rw[W]; exact ih _ ρ w k E G R V⟩
  |true =>simp only[if_true];obtain⟨o',f1,f2,f3,f4,f5⟩:=T.fact i d;rw[C]at f1;cases f1;obtain⟨_,_,_,Y⟩:=T.ex i li;refine (f4 t).1 _ _ (r.rel T t I) (by rw[(aI _ _).1]; exact Y) _ (r.RM T ρ) _ _ _ _ Z ?_;intro x w1 s _;obtain⟨V,W⟩:=r.on T t I s;rw[W];exact ih _ _ w1 k E G R V
end
section
variable{P:io}{ρ:Ren}{H:aa}{w:ip}
def DP{rec:Rec}(f:P.follows .mixedOrders=bv)(g:Sound P rec){ops:Array Oper}{id:Nat}(s:gR ops=bv){a a1:ai}{H1:aa}(h:j0 P rec ops (iU ops) ops.toList 0 [] a H=ap (a1,H1))(r:Rel P ρ H w)(z:iO H.next a)
  {F:Fence} {n:Nat} {Q:Exit->Act->ip->Prop} (L:cU F) (M:∀ c w1,St P ρ H w c H1 w1->iO H1.next a1->Q .normal (c.act a1) w1):(Code.region id ops bv).wpIn F n P Q (ρ.act a) w:=by
 obtain⟨D,A,HH,t,k,u,v,B,C,_,d⟩:=nK g ops.toList 0 [] a H a1 H1 ⟨[],by simp⟩ h;simp only[zC6,Array.length_toList]at u v B C;have b:∀ i,i<ops.size->jT P ops D A HH i:=fun i hi=>B i (zB7 _) hi;have l:=wh r (ops:=ops) (D:=D) (A:=A) (HH:=HH) (m:=ops.size) k (by rw[t]; exact z) b;have T:kM P ops D A HH ρ w:=by refine⟨by rw[k]; exact r,by rw[k,t]; exact z,b,fun i j x O hi=>C i j (zB7 _) x O hi,fun j E y=>jB ops.toList 0 lw s j E (zB7 _) y,?_⟩;rw[k]; exact l
 obtain⟨R,U,G,p⟩:=l ops.size (zA5 _);rw[u,v]at p;refine wpIn_region_any f ?_;have q:∀ j,bH (Array.replicate ops.size gc) j=false:=fun j=>by unfold bH;rw[Array.getD_eq_getD_getElem?,Array.getElem?_replicate];split<;>rfl
 obtain⟨I,S⟩:=pO (w:={w with drawn:=w.drawn+1}) T q rfl rfl rfl rfl
 have:=vS T (n:=n) L (Q:=Q) (fun i hi h=>by rw[d]at h; cases h) (fun i o hi h=>by rw[d]at h; cases h) (fun _ c w1 J=>by
  rw[k,v]at J;rw[u]
  exact M c w1 J p) ops.size (Array.replicate ops.size gc) ρ _ lw (by unfold left; exact zC7 (List.length_filter_le _ _) lw) (fun j E _ K=>by rw[q]at K; cases K) (fun j _=>d j) I
 rw[S,t]at this;exact this
def yr(R:P.follows .mixedOrders=bv){ops:Array Oper}{id:Nat}(hst:gR ops=bv){a a2:ai}{ch:List PanicEntry}{H2 H3:aa}{l:List Oper}{o:Oper}(d:ops.toList=l++[o])
  (S:(List.range (ops.size-1)).all (fun j=>((iU ops).getD (ops.size-1) 0).testBit j)=bv) {s:Nat->tm} {U:Nat->ai} {c:Nat->aa} (e1:U 0=a) (e2:c 0=H) (e3:U (0+l.length)=a2) (e4:c (0+l.length)=H2)
  (f1:∀ i,0<=i->i<0+l.length->jT P ops s U c i) (f2:∀ i j,0<=i->i<j->j<0+l.length->(s i).on=bv->cJ (iU ops) s c j (qb s c i)) (hnb:∀ i,(s i).bad=gc)
  (z:cG ops a2 o=ap bv) (hop:F8 P a2 H2 o (.error ch) H3) (r:Rel P ρ H w) (hs:iO H.next a)
  {F:Fence} {n:Nat} {Q:Exit->Act->ip->Prop} (hF:cU F) (hQ:∀ b w1,St P ρ H w b H3 w1->iO H3.next a2->Li H3.next (.panic ch)->Q (b.exit (.panic ch)) (b.act a2) w1):(Code.region id ops bv).wpIn F n P Q (ρ.act a) w:=by
 have V:ops.size=l.length+1:=by
  rw[<-Array.length_toList];conv=>lhs; rw[d]
  simp
 obtain⟨m,hm⟩:=ac l.length;rw[hm]at V e3 e4 f1 f2;simp only[zC6]at e3 e4 f1 f2;have W:ops[m]?=ap o:=by rw[<-Array.getElem?_toList,d,zG5 li,hm];simp
 have hD:∀ i,i≠m->(fun i=>if i=m then (⟨gc,undef,[],H2,bv⟩:tm) else s i) i=s i:=fun i h=>if_neg h
 obtain⟨D,B⟩:∃ D:Nat->tm,D=fun i=>if i=m then⟨gc,undef,[],H2,bv⟩ else s i:=⟨_,rfl⟩
 obtain⟨A,C⟩:∃ A:Nat->ai,A=fun i=>if i=m+1 then a2.put o.dst undef else U i:=⟨_,rfl⟩
 obtain⟨HH,E⟩:∃ HH:Nat->aa,HH=fun i=>if i=m+1 then H2 else c i:=⟨_,rfl⟩
 have G:D m=⟨gc,undef,[],H2,bv⟩:=by rw[B]; simp
 have v:∀ i,i≠m->D i=s i:=fun i h=>by rw[B]; simp[h]
 have am:A (m+1)=a2.put o.dst undef:=by rw[C]; simp
 have O:∀ i,i≠m+1->A i=U i:=fun i h=>by rw[C]; simp[h]
 have xm:HH (m+1)=H2:=by rw[E]; simp
 have x:∀ i,i≠m+1->HH i=c i:=fun i h=>by rw[E]; simp[h]
 clear hD B C E;have J:A m=a2:=by rw[O m li]; exact e3
 have Z:HH m=H2:=by rw[x m li]; exact e4
 have L:A 0=a:=by rw[O 0 li]; exact e1
 have f:HH 0=H:=by rw[x 0 li]; exact e2
 have g:∀ i,i<ops.size->jT P ops D A HH i:=fun i hi=>by
  by_cases e:i=m
  .subst e;exact⟨o,W,by rw[am,J,G],fun h=>(by rw[G]at h; cases h),fun h=>(by rw[G]at h; cases h),fun _=>⟨by rw[G],by rw[xm,Z]⟩⟩
  .obtain⟨o',g1,g2,g3,g4,g5⟩:=f1 i (zB7 _) li;refine⟨o',g1,?_,?_,?_,?_⟩
   .rw[O _ li,O _ li,v i e]; exact g2
   .rw[O _ li,v i e]; exact g3
   .rw[O _ li,v i e,x _ li,x _ li]; exact g4
   .rw[v i e,x _ li,x _ li]; exact g5
 have hex:=wh r (ops:=ops) (D:=D) (A:=A) (HH:=HH) (m:=ops.size) f (by rw[L]; exact hs) g
 have T:kM P ops D A HH ρ w:=by
  refine⟨by rw[f]; exact r,by rw[f,L]; exact hs,g,fun i j hij y hi=>?_,fun j oj hoj=>jB ops.toList 0 lw hst j oj (zB7 _) hoj,?_⟩
  .by_cases e:j=m
   .intro h; rw[e,G]at h; cases h
   .have:=f2 i j (zB7 _) hij li (by rw[<-v i li]; exact hi);simp only[cJ,qb,v j e,v i li,x i li,x j li]at this ⊢;exact this
  .rw[f]; exact hex
 obtain⟨ρm,wm,hstm,u⟩:=hex m li;rw[J,Z]at u;have hsx:HH ops.size=H2:=by rw[V,xm]
 refine wpIn_region_any R ?_;have M:∀ j,bH (Array.replicate ops.size gc) j=false:=fun j=>by unfold bH;rw[Array.getD_eq_getD_getElem?,Array.getElem?_replicate];split<;>rfl
 obtain⟨I,ha⟩:=pO (w:={w with drawn:=w.drawn+1}) T M rfl rfl rfl rfl
 have hbm:∀ i,(D i).bad=bv->i=m:=fun i h=>by
  by_cases e:i=m
  .exact e
  .rw[v i e,hnb]at h; cases h
 have:=vS T (n:=n) hF (Q:=Q) (fun i hi h j y dK=>?_) (fun i o' ho' h X X' b w1 hX r' I=>?_) (fun hall=>by have:=hall m li; rw[G]at this; cases this) ops.size (Array.replicate ops.size gc) ρ _ lw (by unfold left; exact zC7 (List.length_filter_le _ _) lw) (fun j oj _ hX=>by rw[M]at hX; cases hX) (fun j y=>by rw[M]at y; cases y) I
 .rw[ha,L]at this;exact this
 .obtain rfl:=hbm i h;have:=zD3.1 S j (zF5.2 li);rw[show ops.size-1=i by omega]at this;exact this
 .obtain rfl:=hbm i h;rw[W]at ho';obtain rfl:=Option.some.inj ho';obtain⟨I',_⟩:=r'.off T (by rw[G]) I
  obtain⟨p,_⟩:=BP T (fun j y=>by
   by_cases e:j=i
   .rw[e]; exact r'.now
   .rw[r'.rest j e]; exact hX j y e) I'
  rw[f,hsx]at p
  have hact:b.act (ax ops D (A 0) X ops.size)=b.act a2:=by
   rw[<-J];obtain⟨q1,q2⟩:=qa (ops:=ops) (D:=D) (a:=A 0) (X:=X) ops.size;obtain⟨z1,z2⟩:=T.Hv (k:=i) li;refine kD _ _ (by rw[q1,z1]) (by rw[q2,z2]) (fun t ht=>?_);rw[z1]at ht;rw[kF (Y:=fun j=>ge (j<i)) ht ops.size (fun j y _=>?_),wj ht ops.size li,T.sK i li];by_cases e:j=i
   .rw[e,r'.not]; simp
   .rw[hX j y e]; exact (decide_eq_true li).symm
  rw[hact];refine⟨gh b z,fun K _=>hop b w1 p.rel u (b.act a2) (fun _ _=>rfl) F n K Q hF (fun ρ2 w2 q hp=>?_)⟩;have:=hQ ρ2 w2 (p.trans q) (u.mono q.le.next) hp;rw[fO q.ext u]at this;exact this
def J1(S:P.follows .mixedOrders=bv){ops:Array Oper}{id:Nat}(hst:gR ops=bv){a a2:ai}{v:gt}{H2 H3:aa}{l:List Oper}{o:Oper}(d:ops.toList=l++[o])
  (U:(List.range (ops.size-1)).all (fun j=>((iU ops).getD (ops.size-1) 0).testBit j)=bv) {s:Nat->tm} {V:Nat->ai} {c:Nat->aa} (e1:V 0=a) (e2:c 0=H) (e3:V (0+l.length)=a2) (e4:c (0+l.length)=H2)
  (f1:∀ i,0<=i->i<0+l.length->jT P ops s V c i) (f2:∀ i j,0<=i->i<j->j<0+l.length->(s i).on=bv->cJ (iU ops) s c j (qb s c i)) (hnb:∀ i,(s i).bad=gc)
  (B:cG ops a2 o=ap bv) (hop:F8 P a2 H2 o (.ok v) H3) (r:Rel P ρ H w) (hs:iO H.next a)
  {F:Fence} {n:Nat} {Q:Exit->Act->ip->Prop} (hF:cU F) (hQ:∀ b w1,St P ρ H w b H3 w1->iO H3.next (a2.put o.dst v)->Q .normal (b.act (a2.put o.dst v)) w1):(Code.region id ops bv).wpIn F n P Q (ρ.act a) w:=by
 have W:ops.size=l.length+1:=by
  rw[<-Array.length_toList];conv=>lhs; rw[d]
  simp
 obtain⟨m,hm⟩:=ac l.length;rw[hm]at W e3 e4 f1 f2;simp only[zC6]at e3 e4 f1 f2;have Z:ops[m]?=ap o:=by rw[<-Array.getElem?_toList,d,zG5 li,hm];simp
 have hD:∀ i,i≠m->(fun i=>if i=m then (⟨gc,undef,[],H2,bv⟩:tm) else s i) i=s i:=fun i h=>if_neg h
 obtain⟨D,C⟩:∃ D:Nat->tm,D=fun i=>if i=m then⟨gc,undef,[],H2,bv⟩ else s i:=⟨_,rfl⟩
 obtain⟨A,E⟩:∃ A:Nat->ai,A=fun i=>if i=m+1 then a2.put o.dst undef else V i:=⟨_,rfl⟩
 obtain⟨HH,G⟩:∃ HH:Nat->aa,HH=fun i=>if i=m+1 then H2 else c i:=⟨_,rfl⟩
 have J:D m=⟨gc,undef,[],H2,bv⟩:=by rw[C]; simp
 have x:∀ i,i≠m->D i=s i:=fun i h=>by rw[C]; simp[h]
 have am:A (m+1)=a2.put o.dst undef:=by rw[E]; simp
 have R:∀ i,i≠m+1->A i=V i:=fun i h=>by rw[E]; simp[h]
 have xm:HH (m+1)=H2:=by rw[G]; simp
 have y:∀ i,i≠m+1->HH i=c i:=fun i h=>by rw[G]; simp[h]
 clear hD C E G;have L:A m=a2:=by rw[R m li]; exact e3
 have xm0:HH m=H2:=by rw[y m li]; exact e4
 have M:A 0=a:=by rw[R 0 li]; exact e1
 have f:HH 0=H:=by rw[y 0 li]; exact e2
 have g:∀ i,i<ops.size->jT P ops D A HH i:=fun i hi=>by
  by_cases e:i=m
  .subst e;exact⟨o,Z,by rw[am,L,J],fun h=>(by rw[J]at h; cases h),fun h=>(by rw[J]at h; cases h),fun _=>⟨by rw[J],by rw[xm,xm0]⟩⟩
  .obtain⟨o',g1,g2,g3,g4,g5⟩:=f1 i (zB7 _) li;refine⟨o',g1,?_,?_,?_,?_⟩
   .rw[R _ li,R _ li,x i e]; exact g2
   .rw[R _ li,x i e]; exact g3
   .rw[R _ li,x i e,y _ li,y _ li]; exact g4
   .rw[x i e,y _ li,y _ li]; exact g5
 have hex:=wh r (ops:=ops) (D:=D) (A:=A) (HH:=HH) (m:=ops.size) f (by rw[M]; exact hs) g
 have T:kM P ops D A HH ρ w:=by
  refine⟨by rw[f]; exact r,by rw[f,M]; exact hs,g,fun i j hij z hi=>?_,fun j oj hoj=>jB ops.toList 0 lw hst j oj (zB7 _) hoj,?_⟩
  .by_cases e:j=m
   .intro h; rw[e,J]at h; cases h
   .have:=f2 i j (zB7 _) hij li (by rw[<-x i li]; exact hi);simp only[cJ,qb,x j e,x i li,y i li,y j li]at this ⊢;exact this
  .rw[f]; exact hex
 obtain⟨ρm,wm,hstm,u⟩:=hex m li;rw[L,xm0]at u;have hsx:HH ops.size=H2:=by rw[W,xm]
 refine wpIn_region_any S ?_;have O:∀ j,bH (Array.replicate ops.size gc) j=false:=fun j=>by unfold bH;rw[Array.getD_eq_getD_getElem?,Array.getElem?_replicate];split<;>rfl
 obtain⟨I,ha⟩:=pO (w:={w with drawn:=w.drawn+1}) T O rfl rfl rfl rfl
 have hbm:∀ i,(D i).bad=bv->i=m:=fun i h=>by
  by_cases e:i=m
  .exact e
  .rw[x i e,hnb]at h; cases h
 have:=vS T (n:=n) hF (Q:=Q) (fun i hi h j z dK=>?_) (fun i o' ho' h X X' b w1 hX r' I=>?_) (fun hall=>by have:=hall m li; rw[J]at this; cases this) ops.size (Array.replicate ops.size gc) ρ _ lw (by unfold left; exact zC7 (List.length_filter_le _ _) lw) (fun j oj _ hX=>by rw[O]at hX; cases hX) (fun j z=>by rw[O]at z; cases z) I
 .rw[ha,M]at this;exact this
 .obtain rfl:=hbm i h;have:=zD3.1 U j (zF5.2 li);rw[show ops.size-1=i by omega]at this;exact this
 .obtain rfl:=hbm i h;rw[Z]at ho';obtain rfl:=Option.some.inj ho';obtain⟨I',_⟩:=r'.off T (by rw[J]) I
  obtain⟨p,_⟩:=BP T (fun j z=>by
   by_cases e:j=i
   .rw[e]; exact r'.now
   .rw[r'.rest j e]; exact hX j z e) I'
  rw[f,hsx]at p
  have hact:b.act (ax ops D (A 0) X ops.size)=b.act a2:=by
   rw[<-L];obtain⟨q1,q2⟩:=qa (ops:=ops) (D:=D) (a:=A 0) (X:=X) ops.size;obtain⟨z1,z2⟩:=T.Hv (k:=i) li;refine kD _ _ (by rw[q1,z1]) (by rw[q2,z2]) (fun t ht=>?_);rw[z1]at ht;rw[kF (Y:=fun j=>ge (j<i)) ht ops.size (fun j z _=>?_),wj ht ops.size li,T.sK i li];by_cases e:j=i
   .rw[e,r'.not]; simp
   .rw[hX j z e]; exact (decide_eq_true li).symm
  rw[hact];refine⟨gh b B,fun K hK=>hop b w1 p.rel u (b.act a2) (fun _ _=>rfl) F n K Q hF (fun ρ2 w2 q hp=>?_)⟩;rw[<-fO q.ext u,jy];exact hK _ _ (hQ ρ2 w2 (p.trans q) ((u.mono q.le.next).put _ hp))
def zD{rec:Rec}(i:P.follows .mixedOrders=bv)(c:Sound P rec){ops:Array Oper}{id:Nat}(l:gR ops=bv){a a1:ai}{e:Exit}{H1:aa}(h:tP P rec ops a H=ap (e,a1,H1))(r:Rel P ρ H w)(s:iO H.next a)
  {F:Fence} {n:Nat} {Q:Exit->Act->ip->Prop} (t:cU F) (u:∀ d w1,St P ρ H w d H1 w1->iO H1.next a1->Li H1.next e->Q (d.exit e) (d.act a1) w1):(Code.region id ops bv).wpIn F n P Q (ρ.act a) w:=by
 unfold tP at h;split at h
 .rename_i o a2 H2 f j;split at h
  .rename_i k;split at h
   .rename_i G I g m;simp only[i5,i6]at h;obtain⟨rfl,rfl,rfl⟩:=h;have b:ops.toList=ops.toList.dropLast++[o]:=by obtain⟨ys,p⟩:=List.getLast?_eq_some_iff.1 f;rw[p,List.dropLast_concat]
    obtain⟨J,K,v,x,y,z,B,C,E,_,q⟩:=nK c ops.toList.dropLast 0 [] a H a2 H2 ⟨[o],by simpa using b⟩ j;exact yr i l b k x y z B C E q g (HU c m) r s t u
   .cases h
  .cases h
 .cases h
def FY{rec:Rec}(B:Sound P rec){ro:Option Nat}{g:i4}{fv:gt}{ps:Array Tmp}{q C:Code}{a a1:ai}{e:Exit}{H1:aa}(hg:aP P a g=ap fv)
  (h:Fu P rec ro fv ps q C a H=ap (e,a1,H1)) (r:Rel P ρ H w) (hs:iO H.next a) (J:∀ l,ro=ap l->l<H.next)
  {F:Fence} {n:Nat} {Q:Exit->Act->ip->Prop} (hF:cU F) (U:F.round=ro.map ρ.blk) (hQ:∀ b w1,St P ρ H w b H1 w1->iO H1.next a1->Li H1.next e->Q (b.exit e) (b.act a1) w1) :
  (Code.rangeFunc g ps q C).wpIn F n P Q (ρ.act a) w:=by
 unfold Fu at h;split at h
 .rename_i fn first i
  simp only[zA1,zA2]at h;obtain⟨⟨l,mark,H2⟩,hen,res,s,h⟩:=h;simp only at s h;split at h
  .rename_i f args;simp only[zA2]at h;obtain⟨⟨out,K⟩,L,j⟩:=h;refine wpIn_rangeFunc (fun V _=>?_);obtain⟨b,w1,M,W,hl,hmk⟩:=qu r J hs.1 hen V;obtain⟨ρ2,w2,s2,E⟩:=lI M.rel s;have G:=cD r.glob.1 hs hg;have O:=Ca (cS M.le.next _ G);have x:aX H2.next args=true:=nL M.rel.GX O.1 (eI O.2.1 (by simp only[aX,aV,eU,Bool.and_true]; exact bx hl)) O.2.2 s;have hfv:(ρ.act a).eval g=b.val (.func fn first i):=by rw[aJ r hg,fJ M.ext _ G]
   have e1:b.val (.func fn first i)=.func (b.fn fn) (first.map b.val) (i.map b.val):=by rw[Ren.val,Ren.dO,Ren.dO]
   have e2:first.map b.val++#[(.func (.yield (b.blk l)) #[] #[]:gt)]=((first.toList++[(.func (.yield l) #[] #[]:gt)]).map b.val).toArray:=by apply Array.ext';simp[Ren.val,Ren.fn,Ren.eC,Ren.gI]
   have e3:i.map b.val=(i.toList.map b.val).toArray:=by apply Array.ext'; simp
   simp only[gu]at E;have X:iO H2.next a:=hs.mono M.le.next
   have Y:iO H2.next {a with defers:=mark++a.defers}:=⟨X.1,fun d hd=>by
    rcases zB4.1 hd with hd|hd
    .exact hmk d hd
    .exact X.2 d hd⟩
   have t:({ρ.act a with defers:=mark.map b.sd++(ρ.act a).defers}:Act)=b.act {a with defers:=mark++a.defers}:=by
    have h1:=fO M.ext hs;have h2:(ρ.act a).tmps=b.tmps a.env:=by rw[<-h1]; rfl
    have h3:(ρ.act a).defers=a.defers.map b.sd:=by rw[<-h1]; rfl
    show (⟨(ρ.act a).tmps,mark.map b.sd++(ρ.act a).defers⟩:Act)=⟨b.tmps a.env,(mark++a.defers).map b.sd⟩
    rw[h2,h3,List.map_append]
   refine⟨b.blk l,mark.map b.sd,w1,{target:=.fn (b.fn fn) (i.map b.val),args:=first.map b.val++#[(.func (.yield (b.blk l)) #[] #[]:gt)]},w1,f,_,w2,?_,?_,fun f' _=>hF.fn f',?_,hF.deep,zG B s2.rel L x hF ?_⟩
   .rw[U]; exact W
   .simp only[resolve,hfv,e1];simp[Act.eval,Deferred.ofValue]
   .simp only[e2,e3]; exact E
   .intro m w3 Z;have hn2:H2.next<=K.next:=(s2.trans Z).le.next
    have hlb:m.blk l=b.blk l:=((s2.trans Z).ext.blk l hl)
    have R:iO K.next {a with defers:=mark++a.defers}:=Y.mono hn2;have u:m.act {a with defers:=mark++a.defers}=b.act {a with defers:=mark++a.defers}:=fO (s2.trans Z).ext Y;have o:=(M.trans s2).trans Z
    cases out with
    |ok v =>
     simp only[q9,zA1,zA2]at j;obtain⟨⟨p,le⟩,hlp,j⟩:=j;simp only at j;have hnb:p.state≠.busy:=by intro hb; rw[hb]at j; cases j
     obtain⟨fn3,hgl,w4,I,s4⟩:=lE Z.rel (lp':={p with state:=.exhausted}) hlp rfl;rw[hlb]at hgl I;have y:(eK K l {p with state:=.exhausted} le).next=K.next:=rfl
     have S:(Instr.endLoop (b.blk l)).run P w3=.ok p.pending w4:=by
      have hb:(p.state == .busy)=false:=by simpa using hnb
      simp only[Instr.endLoop,Sem.run_bind,hgl,Result.andThen_ok,hb,zC8,if_false]
      rw[show ({({p with fn:=fn3,tmps:=m.tmps le,defers:=m.blk p.defers}:Loop) with state:=.exhausted}:Loop) =
       {({p with state:=.exhausted}:Loop) with fn:=fn3,tmps:=m.tmps le,defers:=m.blk p.defers} from rfl,I]
      simp
     intro _;refine⟨p.pending,w4,S,?_⟩;rw[t,<-u]
     have k:(match p.pending with
       |none=>ap (Exit.normal,({a with defers:=mark++a.defers}:ai),eK K l {p with state:=.exhausted} le)
       |some c=>rec.run ro c {a with defers:=mark++a.defers} (eK K l {p with state:=.exhausted} le))=ap (e,a1,H1):=by
      cases z:p.state with
      |busy=>exact absurd z hnb
      |ready=>rw[z]at j; exact j
      |done=>rw[z]at j; exact j
      |exhausted=>rw[z]at j; exact j
     generalize eK K l {p with state:=.exhausted} le=H4 at s4 y k;split
     .rename_i hp;rw[hp]at k;simp only[i5,i6]at k;obtain⟨rfl,rfl,rfl⟩:=k;exact hQ m w4 (o.trans s4) (R.mono (Nat.le_of_eq y.symm)) trivial
     .rename_i c hp;rw[hp]at k;have hro4:∀ T,ro=ap T->T<H4.next:=fun T h0=>by rw[y]; exact zD1 (J T h0) o.le.next
      have hFr4:F.round=ro.map m.blk:=by
       rw[U]
       cases ro with
       |none=>rfl
       |some T=>simp only[zB1]; rw[o.ext.blk T (J T rfl)]
      refine B.run ro c _ _ e a1 H1 k m w4 F n Q hF hFr4 hro4 s4.rel (R.mono (Nat.le_of_eq y.symm)) ?_;intro ρ5 w5 s5 h1 h2;exact hQ ρ5 w5 ((o.trans s4).trans s5) h1 h2
    |error ch =>intro hch;simp only[q9,i5,i6]at j;obtain⟨rfl,rfl,rfl⟩:=j;show Q (.panic (ch.map m.pe)) _ w3;rw[t,<-u];exact hQ m w3 o R hch
  .cases h
 .cases h
def iy{b:Frame}{a:Act}{k:List Item}{cs:List Frame}{c:Code}:Go.step P (lone (b.atR a (.code (.scope c)::k)) cs w)=.next (lone (b.atR a (.code c::.inScope c::k)) cs w) :=
 step_lone_go (by simp[stepG,stepG.exec,Frame.atR])
def zE{b:Frame}{a:Act}{k:List Item}{cs:List Frame}{c:Code}:Go.step P (lone (b.atR a (.inScope c::k)) cs w)=.next (lone (b.atR a k) cs w) :=
 step_lone_go (by simp[stepG,stepG.exec,Frame.atR])
def yI{F:Fence}{n:Nat}{Q:Exit->Act->ip->Prop}{a:Act}{c:Code}(h:c.wpIn F n P (Exit.noGoto Q) a w):(Code.scope c).wpIn F n P Q a w:=by
 intro b k cs o p q;have i:(lone (b.atR a (.code (.scope c)::k)) cs w).fenced P F:=fenced_calm p q rfl;obtain⟨e,f,g,j,d⟩:=h b (.inScope c::k) cs o p q
 cases e with
 |normal=>exact⟨.normal,f,g,j,.head i iy (StepsIn.trans d (.one (fenced_calm p q rfl) zE))⟩
 |exit id =>
  have hx:exitTo id (.inScope c::k)=exitTo id k:=by simp[exitTo]
  exact⟨.exit id,f,g,j,fun t r=>.head i iy (d.1 t (by rw[hx]; exact r)),
    fun s r=>let ⟨m,u,v⟩:=d.2 s (by rw[hx]; exact r); ⟨m,u,.head i iy v⟩⟩
 |goto l=>exact j.elim
 |ret=>exact⟨_,f,g,j,.of_steps (.one i iy) d⟩
 |panic x=>exact⟨_,f,g,j,.of_steps (.one i iy) d⟩
 |outgrown=>exact⟨_,f,g,j,.of_steps (.one i iy) d⟩
def lQ(P:io)(rec:Rec)(m:Nat):Prop :=
 ∀(ro:Option Nat)(b:Code)(a:ai)(H:aa)(e:Exit)(a1:ai)(H1:aa),rec.run ro (.loop b) a H=ap (e,a1,H1) ->
  ∀(ρ:Ren)(w:ip)(F:Fence)(n:Nat)(Q:Exit->Act->ip->Prop),cU F->F.round=ro.map ρ.blk->(∀ l,ro=ap l->l<H.next)->Rel P ρ H w->iO H.next a ->
   (∀ c w1,St P ρ H w c H1 w1->iO H1.next a1->Li H1.next e->Q (c.exit e) (c.act a1) w1)->Code.roundsIn F n P b Q m (ρ.act a) w
def yd{rec:Rec}(g:Sound P rec){m:Nat}(o:lQ P rec m):lQ P ⟨fun ro c a H=>step c P rec ro a H,rec.know⟩ (m+1):=by
 intro ro b a H e a1 H1 h ρ w F n Q p i d r u v;simp only[step,LS]at h;rw[roundsIn_succ];split at h
 .rename_i a2 H2 hx;refine g.run ro b a H .normal a2 H2 hx ρ w F n _ p i d r u ?_;intro f w1 j q _
  have k:F.round=ro.map f.blk:=by
   rw[i]
   cases ro with
   |none=>rfl
   |some x=>simp only[zB1]; rw[j.ext.blk x (d x rfl)]
  refine o ro b a2 H2 e a1 H1 h f w1 F n Q p k (fun l o=>zD1 (d l o) j.le.next) j.rel q ?_;intro s y s2 t z;exact v s y (j.trans s2) t z
 .rename_i dK;refine g.run ro b a H e a1 H1 h ρ w F n _ p i d r u ?_;intro f w1 j q t;have:=v f w1 j q t
  cases e with
  |normal=>exact absurd h (dK a1 H1)
  |_=>exact this
def GK(z:P.follows .mixedOrders=bv){rec:Rec}(d:Sound P rec){m:Nat}(K:lQ P rec m):Sound P ⟨fun ro c a H=>step c P rec ro a H,rec.know⟩:=by
 refine⟨?_,d.know⟩;intro ro c a H e a1 H1 h ρ w F n Q u i j r p o;simp only at h
 cases c with
 |skip =>simp only[step,qm,i5,i6]at h;obtain⟨rfl,rfl,rfl⟩:=h;exact wpIn_skip (o ρ w (St.refl r) p trivial)
 |label l =>simp only[step,qm,i5,i6]at h;obtain⟨rfl,rfl,rfl⟩:=h;exact wpIn_label (o ρ w (St.refl r) p trivial)
 |exit id =>simp only[step,qm,i5,i6]at h;obtain⟨rfl,rfl,rfl⟩:=h;exact wpIn_exit (o ρ w (St.refl r) p trivial)
 |goto l =>simp only[step,qm,i5,i6]at h;obtain⟨rfl,rfl,rfl⟩:=h;exact wpIn_goto (o ρ w (St.refl r) p trivial)
 |ret =>simp only[step,qm,i5,i6]at h;obtain⟨rfl,rfl,rfl⟩:=h;exact wpIn_ret (o ρ w (St.refl r) p trivial)
 |seq x y =>
  simp only[step,PN]at h;refine wpIn_seq ?_;split at h
  .rename_i a2 H2 hx;refine d.run ro x a H .normal a2 H2 hx ρ w F n _ u i j r p ?_;intro g w1 t v _
   have C:F.round=ro.map g.blk:=by
    rw[i]
    cases ro with
    |none=>rfl
    |some S=>simp only[zB1]; rw[t.ext.blk S (j S rfl)]
   refine d.run ro y a2 H2 e a1 H1 h g w1 F n Q u C (fun l K=>zD1 (j l K) t.le.next) t.rel v ?_;intro L U s2 B V;exact o L U (t.trans s2) B V
  .rename_i dK;refine d.run ro x a H e a1 H1 h ρ w F n _ u i j r p ?_;intro g w1 t v B;have:=o g w1 t v B
   cases e with
   |normal=>exact absurd h (dK a1 H1)
   |_=>exact this
 |cond c x y =>
  simp only[step,K7]at h;split at h
  .rename_i M;refine wpIn_cond_true (by rw[aJ r M]; simp[Ren.val]) ?_;exact d.run ro x a H e a1 H1 h ρ w F n Q u i j r p o
  .rename_i M;refine wpIn_cond_false (by rw[aJ r M]; simp[Ren.val]) ?_;exact d.run ro y a H e a1 H1 h ρ w F n Q u i j r p o
  .cases h
 |block id b =>
  simp only[step,Hr]at h;refine wpIn_block ?_;split at h
  .rename_i k a2 H2 W;refine d.run ro b a H (.exit k) a2 H2 W ρ w F n _ u i j r p ?_;intro g w1 t v _;simp only[Ren.exit,Exit.inBlock];split at h
   .rename_i O;simp only[i5,i6]at h;obtain⟨rfl,rfl,rfl⟩:=h;rw[if_pos O]; exact o g w1 t v trivial
   .rename_i O;simp only[i5,i6]at h;obtain⟨rfl,rfl,rfl⟩:=h;rw[if_neg O]; exact o g w1 t v trivial
  .rename_i dK;refine d.run ro b a H e a1 H1 h ρ w F n _ u i j r p ?_;intro g w1 t v B;have:=o g w1 t v B
   cases e with
   |exit k=>exact absurd h (dK k a1 H1)
   |_=>exact this
 |loop b =>exact wpIn_loop_rounds (m+1) (yd d K ro b a H e a1 H1 h ρ w F n Q u i j r p o)
 |region id ops E =>
  simp only[step,DC]at h
  cases E with
  |true =>
   simp only at h;split at h
   .rename_i G;split at h
    .rename_i q I;simp only[i5,i6]at h;obtain⟨rfl,rfl,rfl⟩:=h;exact DP z d G I r p u (fun g w1 t v=>o g w1 t v trivial)
    .exact zD z d G h r p u o
   .cases h
  |false =>simp only at h;refine wpIn_region ?_;rw[List.range_eq_range'];have:=nk d (n:=n) (Q:=Q) u (fun X=>by rw[i]; cases ro with|none=>rfl|some l=>cases X) ops.toList 0 ρ H w a e a1 H1 lw h r p o;simpa using this
 |rangeFunc f Y J T =>simp only[step,HG,zA1,zA2]at h;obtain⟨Z,R,h⟩:=h;exact FY d R h r p j u i o
 |scope b =>
  simp only[step,GY]at h;refine yI ?_;split at h
  .cases h
  .rename_i dK;refine d.run ro b a H e a1 H1 h ρ w F n _ u i j r p ?_;intro g w1 t v B;have:=o g w1 t v B
   cases e with
   |goto k=>exact absurd h (dK k a1 H1)
   |_=>exact this
 |refuse s=>simp[step,LL]at h
def Lp(P:io)(K:FuncId->List gt->aa->Option (gt × aa)):Prop :=
 ∀(f:FuncId)(args:List gt)(v:gt)(H H1:aa),K f args H=ap (v,H1)->br P f args H (.ok v) H1
def yT(P:io)(K:FuncId->List gt->aa->Option gt):Prop :=
 ∀(f:FuncId)(args:List gt)(v:gt)(H:aa),K f args H=ap v->af v=bv /\
  ∀(ρ:Ren)(F:Fence)(n:Nat)(w:ip),Rel P ρ H w->aX H.next args=bv->cU F->CallsIn F n P f (args.map ρ.val).toArray w (fun e w'=>e=.returned v/\RowKit.Below w.heap.size w w')
def yT.lift{K:FuncId->List gt->aa->Option gt}(g:yT P K):Lp P (Mt K):=by
 intro f args v H H1 h ρ w r b F n R i j;unfold Mt at h;split at h
 .rename_i c k;simp only[i5,i6]at h;obtain⟨rfl,rfl⟩:=h;obtain⟨d,l⟩:=g f args c _ k;refine (l ρ F n w r b i).mono ?_;rintro e w1 ⟨rfl,m⟩;have:=j ρ w1 (St.below r m);simp only[di ρ c d]at this;exact this (fB _ d)
 .cases h
def vh(f:P.follows .mixedOrders=bv){K:FuncId->List gt->aa->Option (gt × aa)}(g:Lp P K):∀ d,Sound P (xD P K d)/\lQ P (xD P K d) d
 |0=>⟨⟨fun ro c a H e a1 H1 h=>by simp[xD]at h,g⟩,fun ro b a H e a1 H1 h=>by simp[xD]at h⟩
 |n+1=>by
  obtain⟨i,j⟩:=vh f g n;have m:(xD P K n).know=K:=by cases n<;>rfl
  have k:=GK f i j;have l:=yd i j;rw[m]at k l;exact⟨k,l⟩
def yp(c:P.follows .mixedOrders=bv){K:FuncId->List gt->aa->Option gt}(d:yT P K)(b:Nat):Sound P (exec P K b)/\lQ P (exec P K b) b:=vh c d.lift b
end
section
variable{P:io}{ro:Option Nat}{a a1 a2:ai}{H H1 H2:aa}{e:Exit}
def de.skip:de P ro .skip a H .normal a H:=fun ρ w _ _ _ _ _ _ r b c=>wpIn_skip (c ρ w (St.refl r) b trivial)
def de.label{l:Nat}:de P ro (.label l) a H .normal a H:=fun ρ w _ _ _ _ _ _ r b c=>wpIn_label (c ρ w (St.refl r) b trivial)
def de.exit{id:Nat}:de P ro (.exit id) a H (.exit id) a H:=fun ρ w _ _ _ _ _ _ r b c=>wpIn_exit (c ρ w (St.refl r) b trivial)
def de.goto{l:Nat}:de P ro (.goto l) a H (.goto l) a H:=fun ρ w _ _ _ _ _ _ r b c=>wpIn_goto (c ρ w (St.refl r) b trivial)
def de.ret:de P ro .ret a H .ret a H:=fun ρ w _ _ _ _ _ _ r b c=>wpIn_ret (c ρ w (St.refl r) b trivial)
def pZ{F:Fence}{ρ b:Ren}{w w1:ip}(c:F.round=ro.map ρ.blk)(d:∀ l,ro=ap l->l<H.next)(s:St P ρ H w b H1 w1):F.round=ro.map b.blk:=by
 rw[c]
 cases ro with
 |none=>rfl
 |some f=>simp only[zB1]; rw[s.ext.blk f (d f rfl)]
def de.seq{x y:Code}(i:de P ro x a H .normal a2 H2)(j:de P ro y a2 H2 e a1 H1):de P ro (.seq x y) a H e a1 H1:=by intro ρ w F n Q h c b r k m;refine wpIn_seq (i ρ w F n _ h c b r k ?_);intro f w1 d o _;refine j f w1 F n Q h (pZ c b d) (fun l p=>zD1 (b l p) d.le.next) d.rel o ?_;intro g q s2 s t;exact m g q (d.trans s2) s t
def de.si{x y:Code}(f:de P ro x a H e a1 H1)(dK:e≠.normal):de P ro (.seq x y) a H e a1 H1:=by
 intro ρ w F n Q g b c r h i;refine wpIn_seq (f ρ w F n _ g b c r h ?_);intro d w1 j k l;have:=i d w1 j k l
 cases e with
 |normal=>exact absurd rfl dK
 |_=>exact this
def de.cond{c:i4}{x y:Code}{b:Bool}(g:aP P a c=ap (kw b))(h:de P ro (if b then x else y) a H e a1 H1):de P ro (.cond c x y) a H e a1 H1:=by
 intro ρ w F n Q i d f r j k
 cases b with
 |true=>exact wpIn_cond_true (by rw[aJ r g]; simp[Ren.val]) (h ρ w F n Q i d f r j k)
 |false=>exact wpIn_cond_false (by rw[aJ r g]; simp[Ren.val]) (h ρ w F n Q i d f r j k)
def Cb(id:Nat):Exit->Exit
 |.exit k=>if k=id then .normal else .exit k
 |e=>e
def de.block{id:Nat}{b:Code}(h:de P ro b a H e a1 H1):de P ro (.block id b) a H (Cb id e) a1 H1:=by
 intro ρ w F n Q m f g r o i;refine wpIn_block (h ρ w F n _ m f g r o ?_);intro c w1 j l p
 cases e with
 |exit k =>
  simp only[Ren.exit,Exit.inBlock];by_cases d:k=id
  .rw[if_pos d];have:=i c w1 j l (by simp[Cb,d,Li]);simpa[Cb,d,Ren.exit]using this
  .rw[if_neg d];have:=i c w1 j l (by simp[Cb,d,Li]);simpa[Cb,d,Ren.exit]using this
 |_=>exact i c w1 j l p
def de.scope{b:Code}(h:de P ro b a H e a1 H1)(dK:∀ l,e≠.goto l):de P ro (.scope b) a H e a1 H1:=by
 intro ρ w F n Q g c d r i j;refine yI (h ρ w F n _ g c d r i ?_);intro f w1 k m o;have:=j f w1 k m o
 cases e with
 |goto l=>exact absurd rfl (dK l)
 |_=>exact this
def gW(P:io)(ro:Option Nat)(b:Code)(m:Nat)(a:ai)(H:aa)(e:Exit)(a1:ai)(H1:aa):Prop :=
 ∀(ρ:Ren)(w:ip)(F:Fence)(n:Nat)(Q:Exit->Act->ip->Prop),cU F->F.round=ro.map ρ.blk->(∀ l,ro=ap l->l<H.next)->Rel P ρ H w->iO H.next a ->
  (∀ c w1,St P ρ H w c H1 w1->iO H1.next a1->Li H1.next e->Q (c.exit e) (c.act a1) w1)->Code.roundsIn F n P b Q m (ρ.act a) w
def gW.next{b:Code}{m:Nat}(j:de P ro b a H .normal a2 H2)(k:gW P ro b m a2 H2 e a1 H1):gW P ro b (m+1) a H e a1 H1:=by intro ρ w F n Q i d c r o p;rw[roundsIn_succ];refine j ρ w F n _ i d c r o ?_;intro g w1 f q _;refine k g w1 F n Q i (pZ d c f) (fun l s=>zD1 (c l s) f.le.next) f.rel q ?_;intro h t s2 u v;exact p h t (f.trans s2) u v
def gW.last{b:Code}{m:Nat}(g:de P ro b a H e a1 H1)(dK:e≠.normal):gW P ro b (m+1) a H e a1 H1:=by
 intro ρ w F n Q h c d r i j;rw[roundsIn_succ];refine g ρ w F n _ h c d r i ?_;intro f w1 k l o;have:=j f w1 k l o
 cases e with
 |normal=>exact absurd rfl dK
 |_=>exact this
def de.loop{b:Code}{m:Nat}(h:gW P ro b m a H e a1 H1):de P ro (.loop b) a H e a1 H1 :=
 fun ρ w F n Q f c d r g i=>wpIn_loop_rounds m (h ρ w F n Q f c d r g i)
def Rg(P:io)(x:cO)(H:aa)(out:Out)(H1:aa):Prop :=
 match x with
 |.value v=>out=.ok v/\H1=H
 |.skip=>out=.ok undef/\H1=H
 |.enter f args=>br P f args H out H1
 |.round r=>B5 P r H out H1
 |.panic v=>out=.error [{v,recovered:=false}]/\H1=H
def gL{o:Oper}{x:cO}{g:aa}{out:Out}(hx:cj o.op P a H=ap (x,g))(h:Rg P x g out H1):F8 P a H o out H1:=by
 intro ρ w r z ca u F n K Q q m;have j:=CR r.glob.1 r.GX z hx;obtain⟨⟨k,w1,d,c⟩,hnd⟩:=sj r hx;refine⟨fun f _=>q.fn f,?_⟩;have s:∀ cs b,o.op≠.select cs b:=fun cs b e=>by rw[e]at hx; simp[cj,Df]at hx
 rw[Oper.semAt_eq _ _ _ hnd,execOp_congr o s u]
 cases x with
 |value v =>obtain⟨rfl,rfl⟩:=h;simp only[gu]at c;rw[c,Oper.uponIn_value];exact m k w1 d j
 |skip =>obtain⟨rfl,rfl⟩:=h;simp only[gu]at c;rw[c,Oper.uponIn_skip];have:=m k w1 d (eG _);simpa using this
 |enter f args =>
  simp only[gu]at c;rw[c,Oper.uponIn_enter];refine⟨q.deep,h k w1 d.rel j F (n-1) _ q ?_⟩;intro l t i
  cases out with
  |ok v=>exact m l t (d.trans i)
  |error B=>exact m l t (d.trans i)
 |round rd =>
  simp only[gu]at c;obtain⟨fn,c⟩:=c;rw[c,Oper.uponIn_round];refine⟨q.deep,h k w1 d.rel j.1 j.2 F (n-1) fn _ q ?_⟩;intro l t i
  cases out with
  |ok v=>exact m l t (d.trans i)
  |error B=>exact m l t (d.trans i)
 |panic v =>obtain⟨rfl,rfl⟩:=h;simp only[gu]at c;rw[c,Oper.uponIn_panic];exact m k w1 d (fun p y=>by simp at y; subst y; exact j)
def aL(P:io)(f:FuncId)(args:List gt)(H:aa)(R:Out->aa->Prop):Prop:=∃ out H1,br P f args H out H1/\R out H1
def Qo(P:io)(r:Round)(H:aa)(R:Out->aa->Prop):Prop:=∃ out H1,B5 P r H out H1/\R out H1
def nT(P:io)(x:cO)(H:aa)(R:Out->aa->Prop):Prop :=
 match x with
 |.value v=>R (.ok v) H
 |.skip=>R (.ok undef) H
 |.enter f args=>aL P f args H R
 |.round r=>Qo P r H R
 |.panic v=>R (.error [{v,recovered:=false}]) H
def zQ(P:io)(b:Op)(a:ai)(H:aa)(R:Out->aa->Prop):Prop :=
 match cj b P a H with
 |some (x,g)=>nT P x g R
 |none=>False
def AU{o:Oper}{R:Out->aa->Prop}(h:zQ P o.op a H R):∃ out H1,F8 P a H o out H1/\R out H1:=by
 unfold zQ at h;split at h
 .rename_i x g hx
  cases x with
  |value v=>exact⟨_,_,gL hx ⟨rfl,rfl⟩,h⟩
  |skip=>exact⟨_,_,gL hx ⟨rfl,rfl⟩,h⟩
  |enter f args=>obtain⟨out,H1,b,c⟩:=h; exact⟨out,H1,gL hx b,c⟩
  |round r=>obtain⟨out,H1,b,c⟩:=h; exact⟨out,H1,gL hx b,c⟩
  |panic v=>exact⟨_,_,gL hx ⟨rfl,rfl⟩,h⟩
 .exact h.elim
def wpOps(P:io)(ro:Option Nat)(ops:Array Oper):List Oper->ai->aa->(Exit->ai->aa->Prop)->Prop
 |[],a,H,Q=>Q .normal a H
 |o::rest,a,H,Q =>
  match cG ops a o with
  |some bv =>
   (match ro,qC P a o.op with
   |none,ap d=>wpOps P ro ops rest (ai.put ⟨a.env,d::a.defers⟩ o.dst undef) H Q
   |_,_=>zQ P o.op a H fun out H1=>match out with
    |.ok v=>wpOps P ro ops rest (a.put o.dst v) H1 Q
    |.error b=>Q (.panic b) a H1)
  |some gc=>wpOps P ro ops rest (a.put o.dst undef) H Q
  |none=>False
def Sa(P:io)(ro:Option Nat)(ops:Array Oper)(k m:Nat)(a:ai)(H:aa)(e:Exit)(a1:ai)(H1:aa):Prop :=
 ∀(ρ:Ren)(w:ip)(F:Fence)(n:Nat)(Q:Exit->Act->ip->Prop),cU F->F.round=ro.map ρ.blk->(∀ l,ro=ap l->l<H.next)->Rel P ρ H w->iO H.next a ->
  (∀ b w1,St P ρ H w b H1 w1->iO H1.next a1->Li H1.next e->Q (b.exit e) (b.act a1) w1)->wpOpsIn F n P ops Q (List.range' k m) (ρ.act a) w
def kS{P:io}{ro:Option Nat}{ops:Array Oper}{Q:Exit->ai->aa->Prop}:∀(rest:List Oper)(k:Nat)(a:ai)(H:aa),ops.toList.drop k=rest->wpOps P ro ops rest a H Q ->
  ∃ e a1 H1,Sa P ro ops k rest.length a H e a1 H1/\Q e a1 H1
 |[],k,a,H,_,h=>⟨.normal,a,H,fun ρ w F n Q _ _ _ r c m=>m ρ w (St.refl r) c trivial,h⟩
 |o::rest,k,a,H,L,h=>by
  have E:ops[k]?=ap o:=by have:=congrArg (·[0]?) L;simpa using this
  have hd':ops.toList.drop (k+1)=rest:=by have:=congrArg List.tail L;simpa using this
  simp only[wpOps]at h;split at h
  .rename_i t;split at h
   .rename_i d G;obtain⟨e,a1,H1,u,x⟩:=kS rest (k+1) _ H hd' h;refine⟨e,a1,H1,?_,x⟩;intro ρ w F n Q j g i r c m;simp only[zA3,List.range'_succ,wpOpsIn,E];rw[gh ρ t,if_pos rfl];obtain⟨y,I⟩:=xw r c G;refine⟨fun f _=>j.fn f,?_⟩;rw[g];simp only[Option.map_none];rw[Oper.semAt_none,y];have z:=jy ρ ⟨a.env,d::a.defers⟩ o.dst undef;rw[Ren.val_undef]at z
    have J:iO H.next ⟨a.env,d::a.defers⟩:=⟨c.1,fun M hd'=>by
     rcases zA9.1 hd' with rfl|hd'
     .exact I
     .exact c.2 M hd'⟩
    have:=u ρ w F n Q j g i r (J.put _ (eG _)) m;rw[<-z]at this;exact this
   .obtain⟨out,H2,B,p⟩:=AU (o:=o) h
    cases out with
    |ok v =>simp only at p;obtain⟨e,a1,H1,u,x⟩:=kS rest (k+1) _ H2 hd' p;refine⟨e,a1,H1,?_,x⟩;intro ρ w F n Q j g i r c m;simp only[zA3,List.range'_succ,wpOpsIn,E];rw[gh ρ t,if_pos rfl];refine B ρ w r c _ (fun _ _=>rfl) F n _ _ j ?_;intro q w1 b s;rw[<-fO b.ext c,jy];refine u q w1 F n Q j (pZ g i b) (fun l O=>zD1 (i l O) b.le.next) b.rel ((c.mono b.le.next).put _ s) ?_;intro K R C S T;exact m K R (b.trans C) S T
    |error U =>refine⟨.panic U,a,H2,?_,p⟩;intro ρ w F n Q j g i r c m;simp only[zA3,List.range'_succ,wpOpsIn,E];rw[gh ρ t,if_pos rfl];refine B ρ w r c _ (fun _ _=>rfl) F n _ _ j ?_;intro q w1 b s;have:=m q w1 b (c.mono b.le.next) s;rw[fO b.ext c]at this;exact this
  .rename_i t;obtain⟨e,a1,H1,u,x⟩:=kS rest (k+1) _ H hd' h;refine⟨e,a1,H1,?_,x⟩;intro ρ w F n Q j g i r c m;simp only[zA3,List.range'_succ,wpOpsIn,E];rw[gh ρ t];simp only[zC8,if_false];refine⟨fun f _=>j.fn f,?_⟩;have z:=jy ρ a o.dst undef;rw[Ren.val_undef]at z;rw[z];exact u ρ w F n Q j g i r (c.put _ (eG _)) m
  .exact h.elim
def cu(P:io)(ops:Array Oper)(anc:List Nat):List Oper->Nat->List Fp->ai->aa->(ai->aa->Prop)->Prop
 |[],_,_,a,H,Q=>Q a H
 |o::rest,i,b,a,H,Q =>
  match cG ops a o with
  |some bv=>∃ F v g,F8 P a (H.restrict F) o (.ok v) g/\(∀ n∈F,H.get n≠bi)/\(∀ n∈g.dirty,n∈F)/\(∀ r∈b,tR (anc.getD i 0) F v g H.next r=bv) /\
    cu P ops anc rest (i+1) (⟨i,F,g.dirty,H.next,g.next⟩::b) (a.put o.dst v) (H.merge g) Q
  |some gc=>cu P ops anc rest (i+1) b (a.put o.dst undef) H Q
  |none=>False
def o9{ops:Array Oper}{anc:List Nat}{Q:ai->aa->Prop}:∀(rest:List Oper)(k:Nat)(b:List Fp)(a:ai)(H:aa),
  (∃ ys,ops.toList.drop k=rest++ys)->cu P ops anc rest k b a H Q ->
  ∃ (D:Nat->tm) (A:Nat->ai) (HH:Nat->aa),A k=a/\HH k=H/\Q (A (k+rest.length)) (HH (k+rest.length)) /\
   (∀ i,k<=i->i<k+rest.length->jT P ops D A HH i) /\
   (∀ i j,k<=i->i<j->j<k+rest.length->(D i).on=bv->cJ anc D HH j (qb D HH i)) /\
   (∀ r∈b,∀ j,k<=j->j<k+rest.length->cJ anc D HH j r)/\(∀ i,(D i).bad=gc)
 |[],k,b,a,H,_,h=>by
  refine⟨fun _=>⟨gc,undef,[],H,gc⟩,fun _=>a,fun _=>H,rfl,rfl,h,?_,?_,?_,fun _=>rfl⟩
  .intro i t l; simp at l; omega
  .intro i j t l u; simp at u; omega
  .intro r _ j t l; simp at l; omega
 |o::rest,k,b,a,H,G,h=>by
  obtain⟨ys,G⟩:=G;have T:ops[k]?=ap o:=by have:=congrArg (·[0]?) G;simpa using this
  have J:∃ ys,ops.toList.drop (k+1)=rest++ys:=⟨ys,by
   have:=congrArg List.tail G
   simpa using this⟩
  have m:∀(d:tm)(c:List Fp)(H2:aa),(∀ r∈b,r∈c)->cu P ops anc rest (k+1) c (a.put o.dst d.v) H2 Q ->
    cG ops a o=ap d.on->d.bad=gc ->
    (d.on=bv->F8 P a (H.restrict d.F) o (.ok d.v) d.g/\(∀ n∈d.F,H.get n≠bi)/\(∀ n∈d.g.dirty,n∈d.F)/\H2=H.merge d.g/\(⟨k,d.F,d.g.dirty,H.next,d.g.next⟩:Fp)∈c /\
     ∀ r∈b,tR (anc.getD k 0) d.F d.v d.g H.next r=bv) ->
    (d.on=gc->d.v=undef/\H2=H) ->
    ∃ (D:Nat->tm) (A:Nat->ai) (HH:Nat->aa),A k=a/\HH k=H/\Q (A (k+(o::rest).length)) (HH (k+(o::rest).length)) /\
     (∀ i,k<=i->i<k+(o::rest).length->jT P ops D A HH i) /\
     (∀ i j,k<=i->i<j->j<k+(o::rest).length->(D i).on=bv->cJ anc D HH j (qb D HH i)) /\
     (∀ r∈b,∀ j,k<=j->j<k+(o::rest).length->cJ anc D HH j r)/\(∀ i,(D i).bad=gc):=by
   intro d c H2 x y p z q B;obtain⟨D,A,HH,U,O,V,W,X,R,Y⟩:=o9 rest (k+1) c _ H2 J y;have f:k+(o::rest).length=k+1+rest.length:=by simp only[zA3]; omega
   refine⟨fun i=>if i=k then d else D i,fun i=>if i=k then a else A i,fun i=>if i=k then H else HH i,by simp,by simp,?_,?_,?_,?_,fun i=>by by_cases e:i=k<;>simp[e,z,Y]⟩
   .rw[f]; show Q (if k+1+rest.length=k then a else A (k+1+rest.length)) (if k+1+rest.length=k then H else HH (k+1+rest.length));rw[if_neg li,if_neg li]; exact V
   .intro i t l;rw[f]at l;by_cases e:i=k
    .subst e;refine⟨o,T,?_,?_,?_,?_⟩
     .simp only[if_pos,if_neg (show ¬i+1=i by omega)]; rw[U]
     .simp only[if_pos]; exact fun _=>p
     .simp only[if_pos,if_neg (show ¬i+1=i by omega)];intro h; obtain⟨C,E,K,L,_⟩:=q h;exact⟨C,E,K,by rw[O]; exact L⟩
     .simp only[if_pos,if_neg (show ¬i+1=i by omega)];intro h; obtain⟨C,E⟩:=B h;exact⟨C,by rw[O]; exact E⟩
    .obtain⟨o',Z,y2,y3,y4,y5⟩:=W i li l;refine⟨o',Z,?_,?_,?_,?_⟩
     .simp only[if_neg e,if_neg (show ¬i+1=k by omega)]; exact y2
     .simp only[if_neg e]; exact y3
     .simp only[if_neg e,if_neg (show ¬i+1=k by omega)]; exact y4
     .simp only[if_neg e,if_neg (show ¬i+1=k by omega)]; exact y5
   .intro i j t l u I;rw[f]at u;have S:¬j=k:=by omega
    by_cases e:i=k
    .subst e;simp only[if_pos]at I;obtain⟨_,_,_,_,x5,_⟩:=q I;have:=R _ x5 j li u;simp only[cJ,qb,if_neg S,if_pos]at this ⊢;exact this
    .simp only[if_neg e]at I;have:=X i j li l u I;simp only[cJ,qb,if_neg S,if_neg e]at this ⊢;exact this
   .intro r s j t l;rw[f]at l;by_cases e:j=k
    .subst e;simp only[cJ,if_pos];intro h;exact (q h).2.2.2.2.2 r s
    .have:=R r (x r s) j li l;simp only[cJ,if_neg e]at this ⊢;exact this
  simp only[cu]at h;split at h
  .rename_i M;obtain⟨F,v,g,C,E,K,L,h⟩:=h;exact m ⟨bv,v,F,g,gc⟩ _ _ (fun r s=>zC4 _ s) h M rfl (fun _=>⟨C,E,K,rfl,zD7 ..,L⟩) (fun h=>by cases h)
  .rename_i M;exact m ⟨gc,undef,[],H,gc⟩ b H (fun r s=>s) h M rfl (fun h=>by cases h) (fun _=>⟨rfl,rfl⟩)
  .exact h.elim
def Cw(d:P.follows .mixedOrders=bv){ops:Array Oper}{id:Nat}(l:gR ops=bv){Q:ai->aa->Prop}(h:cu P ops (iU ops) ops.toList 0 [] a H Q) :
  ∃ a1 H1,de P ro (.region id ops bv) a H .normal a1 H1/\Q a1 H1:=by
 obtain⟨D,A,HH,p,f,v,x,y,_,c⟩:=o9 ops.toList 0 [] a H ⟨[],by simp⟩ h;simp only[zC6,Array.length_toList]at v x y;refine⟨_,_,?_,v⟩;intro ρ w F n Q J K L r z M;have b:∀ i,i<ops.size->jT P ops D A HH i:=fun i hi=>x i (zB7 _) hi;have g:=wh r (ops:=ops) (D:=D) (A:=A) (HH:=HH) (m:=ops.size) f (by rw[p]; exact z) b;have T:kM P ops D A HH ρ w:=by refine⟨by rw[f]; exact r,by rw[f,p]; exact z,b,fun i j q O hi=>y i j (zB7 _) q O hi,fun j B s=>jB ops.toList 0 lw l j B (zB7 _) s,?_⟩;rw[f]; exact g
 obtain⟨R,U,C,t⟩:=g ops.size (zA5 _);refine wpIn_region_any d ?_;have k:∀ j,bH (Array.replicate ops.size gc) j=false:=fun j=>by unfold bH;rw[Array.getD_eq_getD_getElem?,Array.getElem?_replicate];split<;>rfl
 obtain⟨I,S⟩:=pO (w:={w with drawn:=w.drawn+1}) T k rfl rfl rfl rfl
 have:=vS T (n:=n) J (Q:=Q) (fun i hi h=>by rw[c]at h; cases h) (fun i o hi h=>by rw[c]at h; cases h) (fun _ u w1 E=>by
  rw[f]at E
  exact M u w1 E t trivial) ops.size (Array.replicate ops.size gc) ρ _ lw (by unfold left; exact zC7 (List.length_filter_le _ _) lw) (fun j B _ G=>by rw[k]at G; cases G) (fun j _=>c j) I
 rw[S,p]at this;exact this
def PK:Op->Bool
 |.defer _=>bv
 |_=>gc
def zw(f:P.follows .mixedOrders=bv){ops:Array Oper}{id:Nat}(k:gR ops=bv){l:List Oper}{o:Oper}(b:ops.toList=l++[o])
  (g:(List.range (ops.size-1)).all (fun j=>((iU ops).getD (ops.size-1) 0).testBit j)=bv) (m:PK o.op=gc) {Q:Exit->ai->aa->Prop} (h:cu P ops (iU ops) l 0 [] a H fun a1 H1=>cG ops a1 o=ap bv/\wpOps P ro ops [o] a1 H1 Q) :
  ∃ e a1 H1,de P ro (.region id ops bv) a H e a1 H1/\Q e a1 H1:=by
 obtain⟨D,A,HH,e1,e2,⟨t,p⟩,f1,f2,_,hnb⟩:=o9 l 0 [] a H ⟨[o],by simpa using b⟩ h;obtain⟨a2,d⟩:=ac (A (0+l.length));obtain⟨H2,i⟩:=ac (HH (0+l.length));rw[d,i]at p;rw[d]at t
 have q:zQ P o.op a2 H2 (fun out H1=>match out with
   |.ok v=>wpOps P ro ops [] (a2.put o.dst v) H1 Q
   |.error u=>Q (.panic u) a2 H1)->∃ e a1 H1,de P ro (.region id ops bv) a H e a1 H1/\Q e a1 H1:=by
  intro x;obtain⟨out,J,s,K⟩:=AU (o:=o) x
  cases out with
  |ok v =>refine⟨.normal,a2.put o.dst v,J,?_,K⟩;intro ρ w F n L y z B r C E;exact J1 f k b g e1 e2 d i f1 f2 hnb t s r C y (fun G w1 M O=>E G w1 M O trivial)
  |error u =>refine⟨.panic u,a2,J,?_,K⟩;intro ρ w F n L y z B r C E;exact yr f k b g e1 e2 d i f1 f2 hnb t s r C y E
 simp only[wpOps,t]at p
 have I:qC P a2 o.op=none:=by
  cases x:o.op with
  |defer c=>rw[x]at m; cases m
  |_=>rfl
 rw[I]at p
 cases ro with
 |none=>exact q p
 |some r=>exact q p
def D9:Option Code->Option Exit
 |none=>ap .normal
 |some .ret=>ap .ret
 |some (.exit id)=>ap (.exit id)
 |some (.goto l)=>ap (.goto l)
 |_=>bi
def tE(P:io)(ro:Option Nat)(h:gt)(i:Array Tmp)(c d:Code)(a:ai)(H:aa)(Q:Exit->ai->aa->Prop):Prop :=
 match h with
 |.func fn first b =>
  (match enterLoop ro a i c d H with
  |some (l,mark,H1) =>
   (match fF P H1 fn (first.toList++[.func (.yield l) #[] #[]]) b.toList with
   |some (.enter g args)=>aL P g args H1 fun out H2=>match out with
    |.ok _=>∃ f le e,getLoop H2 l=ap (f,le)/\f.state≠.busy/\D9 f.pending=ap e/\Q e ⟨a.env,mark++a.defers⟩ (eK H2 l {f with state:=.exhausted} le)
    |.error j=>Q (.panic j) ⟨a.env,mark++a.defers⟩ H2
   |_=>False)
  |none=>False)
 |_=>False
def de.RZ{c:Code}{e:Exit}(h:D9 (ap c)=ap e):de P ro c a H e a H:=by
 unfold D9 at h;split at h
 .rename_i b; cases b
 .rename_i b; cases b; simp only[i5]at h; subst h; exact de.ret
 .rename_i b; cases b; simp only[i5]at h; subst h; exact de.exit
 .rename_i b; cases b; simp only[i5]at h; subst h; exact de.goto
 .cases h
def CP{g:i4}{fv:gt}{ps:Array Tmp}{k p:Code}{Q:Exit->ai->aa->Prop}(hg:aP P a g=ap fv)(h:tE P ro fv ps k p a H Q) :
  ∃ e a1 H1,de P ro (.rangeFunc g ps k p) a H e a1 H1/\Q e a1 H1:=by
 unfold tE at h;split at h
 .rename_i fn first i
  split at h
  .rename_i l mark H2 hen;split at h
   .rename_i f args y;obtain⟨out,u,I,h⟩:=h
    have S:∀(e:Exit)(H1:aa),(match out with
      |.ok _=>∃ m le,getLoop u l=ap (m,le)/\m.state≠.busy/\D9 m.pending=ap e/\H1=eK u l {m with state:=.exhausted} le
      |.error ch=>e=.panic ch/\H1=u)->de P ro (.rangeFunc g ps k p) a H e ⟨a.env,mark++a.defers⟩ H1:=by
     intro e H1 z ρ w F n Q hF T J r hs hQ;refine wpIn_rangeFunc (fun U _=>?_);obtain⟨b,w1,K,V,hl,hmk⟩:=qu r J hs.1 hen U;obtain⟨ρ2,w2,s2,B⟩:=lI K.rel y;have C:=cD r.glob.1 hs hg;have L:=Ca (cS K.le.next _ C);have W:aX H2.next args=true:=nL K.rel.GX L.1 (eI L.2.1 (by simp only[aX,aV,eU,Bool.and_true]; exact bx hl)) L.2.2 y;have hfv:(ρ.act a).eval g=b.val (.func fn first i):=by rw[aJ r hg,fJ K.ext _ C]
     have e1:b.val (.func fn first i)=.func (b.fn fn) (first.map b.val) (i.map b.val):=by rw[Ren.val,Ren.dO,Ren.dO]
     have e2:first.map b.val++#[(.func (.yield (b.blk l)) #[] #[]:gt)]=((first.toList++[(.func (.yield l) #[] #[]:gt)]).map b.val).toArray:=by apply Array.ext';simp[Ren.val,Ren.fn,Ren.eC,Ren.gI]
     have e3:i.map b.val=(i.toList.map b.val).toArray:=by apply Array.ext'; simp
     simp only[gu]at B;have X:iO H2.next a:=hs.mono K.le.next
     have Y:iO H2.next {a with defers:=mark++a.defers}:=⟨X.1,fun d hd=>by
      rcases zB4.1 hd with hd|hd
      .exact hmk d hd
      .exact X.2 d hd⟩
     have q:({ρ.act a with defers:=mark.map b.sd++(ρ.act a).defers}:Act)=b.act {a with defers:=mark++a.defers}:=by
      have R:=fO K.ext hs;have Z:(ρ.act a).tmps=b.tmps a.env:=by rw[<-R]; rfl
      have h3:(ρ.act a).defers=a.defers.map b.sd:=by rw[<-R]; rfl
      show (⟨(ρ.act a).tmps,mark.map b.sd++(ρ.act a).defers⟩:Act)=⟨b.tmps a.env,(mark++a.defers).map b.sd⟩
      rw[Z,h3,List.map_append]
     refine⟨b.blk l,mark.map b.sd,w1,{target:=.fn (b.fn fn) (i.map b.val),args:=first.map b.val++#[(.func (.yield (b.blk l)) #[] #[]:gt)]},w1,f,_,w2,?_,?_,fun f' _=>hF.fn f',?_,hF.deep,I ρ2 w2 s2.rel W F _ _ hF ?_⟩
     .rw[T]; exact V
     .simp only[resolve,hfv,e1];simp[Act.eval,Deferred.ofValue]
     .simp only[e2,e3]; exact B
     .intro j w3 s3;have hn2:H2.next<=u.next:=(s2.trans s3).le.next;have hl3:l<u.next:=by omega
      have hlb:j.blk l=b.blk l:=((s2.trans s3).ext.blk l hl)
      have M:iO u.next {a with defers:=mark++a.defers}:=Y.mono hn2;have s:j.act {a with defers:=mark++a.defers}=b.act {a with defers:=mark++a.defers}:=fO (s2.trans s3).ext Y;have o:=(K.trans s2).trans s3
      cases out with
      |ok v =>
       obtain⟨m,le,hlp,hnb,t,rfl⟩:=z;obtain⟨fn3,hgl,w4,E,s4⟩:=lE s3.rel (lp':={m with state:=.exhausted}) hlp rfl;rw[hlb]at hgl E;have x:(eK u l {m with state:=.exhausted} le).next=u.next:=rfl
       have O:(Instr.endLoop (b.blk l)).run P w3=.ok m.pending w4:=by
        have hb:(m.state == .busy)=false:=by simpa using hnb
        simp only[Instr.endLoop,Sem.run_bind,hgl,Result.andThen_ok,hb,zC8,if_false]
        rw[show ({({m with fn:=fn3,tmps:=j.tmps le,defers:=j.blk m.defers}:Loop) with state:=.exhausted}:Loop) =
         {({m with state:=.exhausted}:Loop) with fn:=fn3,tmps:=j.tmps le,defers:=j.blk m.defers} from rfl,E]
        simp
       intro _;refine⟨m.pending,w4,O,?_⟩;rw[q,<-s];have G:∀ l0,ro=ap l0->l0<(eK u l {m with state:=.exhausted} le).next:=fun l0 h0=>by rw[x]; exact zD1 (J l0 h0) o.le.next
       have hFr4:F.round=ro.map j.blk:=pZ T J o;generalize eK u l {m with state:=.exhausted} le=H4 at s4 x G hQ;split
       .rename_i hpn;rw[hpn]at t;simp only[D9,i5]at t;subst t;exact hQ j w4 (o.trans s4) (M.mono (Nat.le_of_eq x.symm)) trivial
       .rename_i c hpc;rw[hpc]at t;refine de.RZ (P:=P) (ro:=ro) t j w4 F n Q hF hFr4 G s4.rel (M.mono (Nat.le_of_eq x.symm)) ?_;intro ρ5 w5 s5 R Z;exact hQ ρ5 w5 ((o.trans s4).trans s5) R Z
      |error ch =>intro hch;obtain⟨rfl,rfl⟩:=z;show Q (.panic (ch.map j.pe)) _ w3;rw[q,<-s];exact hQ j w3 o M hch
    cases out with
    |ok v =>obtain⟨m,le,e,R,Z,h3,h4⟩:=h;exact⟨e,_,_,S e _ ⟨m,le,R,Z,h3,rfl⟩,h4⟩
    |error ch=>exact⟨_,_,_,S _ _ ⟨rfl,rfl⟩,h⟩
   .exact h.elim
  .exact h.elim
 .exact h.elim
def kc(W:(Exit->ai->aa->Prop)->ai->aa->Prop)(Q:Exit->ai->aa->Prop):Nat->ai->aa->Prop
 |0,_,_=>False
 |m+1,a,H=>W (fun e a1 H1=>match e with
  |.normal=>kc W Q m a1 H1
  |e=>Q e a1 H1) a H
def Bw(W:ai->aa->Prop)(Q:Exit->ai->aa->Prop):Exit->ai->aa->Prop
 |.normal,a,H=>W a H
 |e,a,H=>Q e a H
def QC(Q:Exit->ai->aa->Prop):Exit->ai->aa->Prop
 |.goto _,_,_=>False
 |e,a,H=>Q e a H
def II(v:Option gt)(X Y:Prop):Prop :=
 match v with
 |some (kw bv)=>X
 |some (kw gc)=>Y
 |_=>False
def gO(P:io)(ro:Option Nat):Code->(Exit->ai->aa->Prop)->ai->aa->Prop
 |.skip,Q,a,H=>Q .normal a H
 |.label _,Q,a,H=>Q .normal a H
 |.exit id,Q,a,H=>Q (.exit id) a H
 |.goto l,Q,a,H=>Q (.goto l) a H
 |.ret,Q,a,H=>Q .ret a H
 |.seq x y,Q,a,H=>gO P ro x (Bw (fun a1 H1=>gO P ro y Q a1 H1) Q) a H
 |.cond c x y,Q,a,H=>II (aP P a c) (gO P ro x Q a H) (gO P ro y Q a H)
 |.block id b,Q,a,H=>gO P ro b (fun e a1 H1=>Q (Cb id e) a1 H1) a H
 |.scope b,Q,a,H=>gO P ro b (QC Q) a H
 |.loop b,Q,a,H=>∃ m,kc (fun i k n=>gO P ro b i k n) Q m a H
 |.region _ ops g,Q,a,H=>(match g with
  |true=>gR ops=bv/\(cu P ops (iU ops) ops.toList 0 [] a H (Q .normal)\/∃ l o,ops.toList=l++[o]/\(List.range (ops.size-1)).all (fun j=>((iU ops).getD (ops.size-1) 0).testBit j)=bv/\PK o.op=gc/\cu P ops (iU ops) l 0 [] a H fun a1 H1=>cG ops a1 o=ap bv/\wpOps P ro ops [o] a1 H1 Q)
  |false=>wpOps P ro ops ops.toList a H Q)
 |.rangeFunc f p d h,Q,a,H=>(match aP P a f with
  |some q=>tE P ro q p d h a H Q
  |none=>False)
 |.refuse _,_,_,_=>False
def J2(g:P.follows .mixedOrders=bv):∀(c:Code)(Q:Exit->ai->aa->Prop)(a:ai)(H:aa),gO P ro c Q a H->∃ e a1 H1,de P ro c a H e a1 H1/\Q e a1 H1:=by
 intro c
 induction c with
 |skip=>exact fun Q a H h=>⟨_,_,_,de.skip,h⟩
 |label l=>exact fun Q a H h=>⟨_,_,_,de.label,h⟩
 |exit id=>exact fun Q a H h=>⟨_,_,_,de.exit,h⟩
 |goto l=>exact fun Q a H h=>⟨_,_,_,de.goto,h⟩
 |ret=>exact fun Q a H h=>⟨_,_,_,de.ret,h⟩
 |seq x y i j =>
  intro Q a H h;simp only[gO]at h;obtain⟨e,a2,H2,hx,d⟩:=i _ a H h
  cases e with
  |normal =>obtain⟨e,a1,H1,v,z⟩:=j Q a2 H2 d;exact⟨e,a1,H1,hx.seq v,z⟩
  |exit id=>exact⟨_,a2,H2,hx.si lw,d⟩
  |goto l=>exact⟨_,a2,H2,hx.si lw,d⟩
  |ret=>exact⟨_,a2,H2,hx.si lw,d⟩
  |panic S=>exact⟨_,a2,H2,hx.si lw,d⟩
  |outgrown=>exact⟨_,a2,H2,hx.si lw,d⟩
 |cond c x y i j =>
  intro Q a H h;simp only[gO,II]at h;split at h
  .rename_i B;obtain⟨e,a1,H1,hx,d⟩:=i Q a H h;exact⟨e,a1,H1,de.cond B hx,d⟩
  .rename_i B;obtain⟨e,a1,H1,hx,d⟩:=j Q a H h;exact⟨e,a1,H1,de.cond B hx,d⟩
  .exact h.elim
 |block id b k =>intro Q a H h;simp only[gO]at h;obtain⟨e,a1,H1,hx,d⟩:=k _ a H h;exact⟨_,a1,H1,hx.block,d⟩
 |scope b k =>
  intro Q a H h;simp only[gO]at h;obtain⟨e,a1,H1,hx,d⟩:=k _ a H h
  cases e with
  |goto l=>exact d.elim
  |normal=>exact⟨_,a1,H1,hx.scope lw,d⟩
  |exit id=>exact⟨_,a1,H1,hx.scope lw,d⟩
  |ret=>exact⟨_,a1,H1,hx.scope lw,d⟩
  |panic S=>exact⟨_,a1,H1,hx.scope lw,d⟩
  |outgrown=>exact⟨_,a1,H1,hx.scope lw,d⟩
 |loop b k =>
  intro Q a H h;simp only[gO]at h;obtain⟨m,h⟩:=h
  have C:∀(m:Nat)(a:ai)(H:aa),kc (fun E U V=>gO P ro b E U V) Q m a H->∃ e a1 H1,gW P ro b m a H e a1 H1/\Q e a1 H1:=by
   intro m
   induction m with
   |zero=>exact fun a H h=>h.elim
   |succ m G =>
    intro a H h;simp only[kc]at h;obtain⟨e,a2,H2,hx,d⟩:=k _ a H h
    cases e with
    |normal =>obtain⟨e,a1,H1,v,z⟩:=G a2 H2 d;exact⟨e,a1,H1,v.next hx,z⟩
    |exit id=>exact⟨_,a2,H2,gW.last hx lw,d⟩
    |goto l=>exact⟨_,a2,H2,gW.last hx lw,d⟩
    |ret=>exact⟨_,a2,H2,gW.last hx lw,d⟩
    |panic S=>exact⟨_,a2,H2,gW.last hx lw,d⟩
    |outgrown=>exact⟨_,a2,H2,gW.last hx lw,d⟩
  obtain⟨e,a1,H1,hx,d⟩:=C m a H h;exact⟨e,a1,H1,de.loop hx,d⟩
 |region id ops p =>
  intro Q a H h;simp only[gO]at h
  cases p with
  |true =>
   obtain⟨q,h|⟨l,o,I,t,J,h⟩⟩:=h
   .obtain⟨a1,H1,K,L⟩:=Cw (ro:=ro) (id:=id) g q h;exact⟨_,a1,H1,K,L⟩
   .exact zw g q I t J h
  |false =>obtain⟨e,a1,H1,K,L⟩:=kS ops.toList 0 a H lw h;refine⟨e,a1,H1,?_,L⟩;intro ρ w F n E W M O r X Y;refine wpIn_region ?_;rw[List.range_eq_range'];have:=K ρ w F n E W M O r X Y;simpa using this
 |rangeFunc f Z u T _ _ =>
  intro Q a H h;simp only[gO]at h;split at h
  .rename_i fv R;exact CP R h
  .exact h.elim
 |refuse s=>exact fun Q a H h=>h.elim
def JX(P:io):Rec:=exec P (fun _ _ _=>bi) 60
def Gc(b:P.follows .mixedOrders=bv):Sound P (JX P):=(yp b (fun _ _ _ _ h=>(by cases h)) 60).1
def je(P:io)(fn:Func)(a1:ai):List Deferred->FrameMode->aa->(Out->aa->Prop)->Prop
 |[],.returning,H,R=>∃ vs,dH P H a1 fn.results.toList=ap vs/\R (.ok (BS vs)) H
 |[],.panicking d,H,R=>R (.error d) H
 |⟨.collected r,_⟩::b,.returning,H,R=>(∃ o v,H.get r=ap ⟨.deferred (ap []),o,v⟩)/\je P fn a1 b .returning (H.cy r (ap ⟨.deferred bi,gc,⟨[],0⟩⟩)) R
 |⟨.collected r,_⟩::b,.panicking d,H,R=>(∃ o v,H.get r=ap ⟨.deferred (ap []),o,v⟩)/\je P fn a1 b (.panicking d) (H.cy r (ap ⟨.deferred bi,gc,⟨[],0⟩⟩)) R
 |⟨.fn (.func f) cap,c⟩::b,.returning,H,R=>aB P f=bv/\∃ v g H1,sP P (JX P) f (c.toList++cap.toList) .returning H=ap (.ok v,g,H1)/\je P fn a1 b (settle g) H1 R
 |⟨.fn (.func f) cap,c⟩::b,.panicking d,H,R=>aB P f=bv/\∃ v g H1,sP P (JX P) f (c.toList++cap.toList) (.panicking d) H=ap (.ok v,g,H1)/\je P fn a1 b (settle g) H1 R
 |_,_,_,_=>False
def NC(P:io)(fn:Func)(R:Out->aa->Prop):Exit->ai->aa->Prop
 |.normal,a1,H1=>je P fn a1 a1.defers .returning H1 R
 |.ret,a1,H1=>je P fn a1 a1.defers .returning H1 R
 |.panic b,a1,H1=>je P fn a1 a1.defers (.panicking b) H1 R
 |_,_,_=>False
def iT{fn:Func}{R:Out->aa->Prop}:∀(b:List Deferred)(u:FrameMode)(H:aa),je P fn a1 b u H R->∃ out H1,dL P (JX P) fn a1 b u H=ap (out,H1)/\R out H1
 |[],.returning,H,⟨vs,c,m⟩=>⟨_,_,by simp only[dL,c,zB1]; exact⟨rfl,m⟩⟩
 |[],.panicking i,H,h=>⟨_,_,rfl,h⟩
 |[],.run,H,h=>h.elim
 |⟨.collected r,_⟩::b,.returning,H,⟨⟨o,v,j⟩,h⟩=>by obtain⟨out,H1,c,d⟩:=iT b .returning _ h;exact⟨out,H1,by simp only[dL,j]; exact c,d⟩
 |⟨.collected r,_⟩::b,.panicking i,H,⟨⟨o,v,j⟩,h⟩=>by obtain⟨out,H1,c,d⟩:=iT b (.panicking i) _ h;exact⟨out,H1,by simp only[dL,j]; exact c,d⟩
 |⟨.collected r,_⟩::b,.run,H,h=>h.elim
 |⟨.fn (.func f) cap,g⟩::b,.returning,H,⟨k,v,n,H1,l,h⟩=>by obtain⟨out,H2,c,d⟩:=iT b _ _ h;exact⟨out,H2,by simp only[dL,k,if_true,l]; exact c,d⟩
 |⟨.fn (.func f) cap,g⟩::b,.panicking i,H,⟨k,v,n,H1,l,h⟩=>by obtain⟨out,H2,c,d⟩:=iT b _ _ h;exact⟨out,H2,by simp only[dL,k,if_true,l]; exact c,d⟩
 |⟨.fn (.func f) cap,g⟩::b,.run,H,h=>h.elim
 |⟨.fn (.yield _) _,_⟩::_,u,H,h=>by cases u<;>exact h.elim
 |⟨.nil,_⟩::_,u,H,h=>by cases u<;>exact h.elim
 |⟨.builtin ..,_⟩::_,u,H,h=>by cases u<;>exact h.elim
 |⟨.coroexit ..,_⟩::_,u,H,h=>by cases u<;>exact h.elim
def aL.mono{f:FuncId}{args:List gt}{R b:Out->aa->Prop}(h:aL P f args H R)(c:∀ out H1,R out H1->b out H1):aL P f args H b :=
 let ⟨out,H1,d,g⟩:=h; ⟨out,H1,d,c _ _ g⟩
end
abbrev Env:=Nat->gt
def cy(E:Env)(d:Nat)(v:gt):Env:=fun t=>if t=d then v else E t
def xi(E:Env)(d:Nat)(v:gt):cy E d v d=v:=by simp[cy]
def yU(E:Env){d t:Nat}(v:gt)(h:t≠d):cy E d v t=E t:=by simp[cy,h]
def Oj:Env:=fun _=>undef
def fq(E:Env)(k:Nat):List gt->Env
 |[]=>E
 |v::r=>fq (cy E k v) (k+1) r
def chunk(E:Env)(k m:Nat):List Value:=(List.range m).map fun i=>E (k+i)
def chunks(E:Env)(k:Nat):Nat->List (List gt)
 |0=>[]
 |m+1=>chunk E k 16::chunks E (k+16) m
def Dw(N:Nat)(E:Env):RV:=⟨chunks (fun t=>if t<N then E t else undef) 0 (N / 16+1),N⟩
def qS(E:Env):∀(m k i:Nat),i<m->(chunks E k m).getD i []=chunk E (k+16*i) 16
 |0,_,_,h=>by omega
 |m+1,k,0,_=>by simp[chunks]
 |m+1,k,i+1,h=>by have:=qS E m (k+16) i li;simp only[chunks,List.getD_cons_succ,this];congr 1; omega
def Jw(E:Env)(k m i:Nat)(h:i<m):(chunk E k m).getD i undef=E (k+i):=by simp[chunk,List.getD,h]
def D8(N:Nat)(E:Env)(t:Nat)(h:t<N):(Dw N E).get t=E t:=by
 unfold Dw RV.get;simp only;rw[qS _ _ _ _ (by have:=Nat.div_le_div_right (c:=16) (Nat.le_of_lt h); omega),Jw _ _ _ _ (Nat.mod_lt _ li)];have:0+16*(t / 16)+t % 16=t:=by omega
 rw[this,if_pos h]
def bj(N:Nat)(E:Env)(b:List Deferred):ai:=⟨Dw N E,b⟩
def MW{α:Type}(d:α)(f:Nat->α)(v:α):∀(m i:Nat),i<m->fP d ((List.range m).map f) i v=(List.range m).map fun j=>if j=i then v else f j:=by
 intro m i h;apply zG4;intro j
 have b:∀(l:List α)(i:Nat),i<l.length->∀ j:Nat,(fP d l i v)[j]?=if j=i then ap v else l[j]?:=by
  intro l
  induction l with
  |nil=>intro i h; simp at h
  |cons x l g =>
   intro i h j
   cases i with
   |zero=>cases j<;>simp[fP]
   |succ i =>
    cases j with
    |zero=>simp[fP]
    |succ j=>simp only[fP,zG6]; rw[g i (by simpa using h) j]; simp
 rw[b _ i (by simpa using h) j];by_cases e:j=i
 .subst e; simp[h]
 .rw[if_neg e];simp only[zE1];by_cases c:j<m
  .simp[c,e]
  .simp[c]
def xX(E:Env)(d:Nat)(v:gt):∀(m k i:Nat),i<m->(∀ t,k+16*i<=t->t<k+16*i+16->True)->k+16*i<=d->d<k+16*i+16 ->
  fP [] (chunks E k m) i (fP undef (chunk E (k+16*i) 16) (d-(k+16*i)) v)=chunks (cy E d v) k m
 |0,_,_,h,_,_,_=>by omega
 |m+1,k,0,_,_,c,f=>by
  simp only[chunks,fP,Nat.mul_zero,zD6]at *
  congr 1
  .rw[chunk,MW _ _ _ _ _ li,chunk];apply List.map_congr_left;intro j b;have b:=zF5.1 b;simp only[cy];by_cases e:k+j=d
   .rw[if_pos li,if_pos e]
   .rw[if_neg li,if_neg e]
  .have:∀(m k:Nat),d<k->chunks E k m=chunks (cy E d v) k m:=by
    intro m
    induction m with
    |zero=>intro k _; rfl
    |succ m g =>intro k l;rw[chunks,chunks,g (k+16) li];congr 1;unfold chunk;apply List.map_congr_left;intro j _;rw[yU _ _ li]
   exact this m (k+16) li
 |m+1,k,i+1,h,n,c,f=>by have:=xX E d v m (k+16) i li (fun _ _ _=>trivial) li li;simp only[chunks,fP];rw[show k+16*(i+1)=k+16+16*i from by omega,this];congr 1;unfold chunk;apply List.map_congr_left;intro j b;have b:=zF5.1 b;rw[yU _ _ li]
def Mj(N:Nat)(E:Env)(d:Nat)(v:gt)(h:d<N):(Dw N E).set d v=Dw N (cy E d v):=by
 have b:d / 16<N / 16+1:=by have:=Nat.div_le_div_right (c:=16) (Nat.le_of_lt h); omega
 unfold Dw RV.set;simp only;rw[qS _ _ _ _ b];have:=xX (fun t=>if t<N then E t else undef) d v (N / 16+1) 0 (d / 16) b (fun _ _ _=>trivial) li li;rw[show d-(0+16*(d / 16))=d % 16 from by omega]at this;rw[this];congr 2;funext t;simp only[cy];by_cases e:t=d
 .subst e; simp[h]
 .simp[e]
def cW(N:Nat)(E:Env)(b:List Deferred)(d:Nat)(v:gt)(h:d<N):(bj N E b).put (ap d) v=bj N (cy E d v) b:=by have c:Nat.blt d (bj N E b).env.n=true:=bx h;simp only[ai.put_eq,c,if_true];show (⟨(Dw N E).set d v,b⟩:ai)=_;rw[Mj N E d v h]; rfl
theorem xh(a:ai)(v:gt):a.put bi v=a:=rfl
def xP(N:Nat)(E:Env)(b:List Deferred)(t:Nat)(h:t<N):(bj N E b).tmp t=E t:=by have c:Nat.blt t (bj N E b).env.n=true:=bx h;simp only[ai.tmp,c,if_true];exact D8 N E t h
def AE{P:io}(N:Nat)(E:Env)(b:List Deferred)(t:Nat)(h:t<N):aP P (bj N E b) (.tmp t)=ap (E t):=by rw[aP,xP N E b t h]
def yD:∀(l:List gt)(E:Env)(k t:Nat),fq E k l t=if k<=t/\t<k+l.length then l.getD (t-k) undef else E t
 |[],E,k,t=>by rw[fq,if_neg (by simp only[zB0]; omega)]
 |v::r,E,k,t=>by
  rw[fq,yD r];simp only[zA3];by_cases e:t=k
  .subst e;rw[if_neg li,if_pos li,xi,zG0]; rfl
  .by_cases h:k+1<=t/\t<k+1+r.length
   .rw[if_pos h,if_pos li]
    obtain⟨j,b⟩:∃ j,t-k=j+1:=⟨t-k-1,by omega⟩
    rw[b,List.getD_cons_succ,show t-(k+1)=j from by omega]
   .rw[if_neg h,if_neg li,yU _ _ e]
section
variable{P:io}{ro:Option Nat}{H H1:aa}
def de.congr{c:Code}{a b a1:ai}{e:Exit}(h:de P ro c b H e a1 H1)(i:∀ ρ:Ren,ρ.act a=ρ.act b)(j:∀ N,iO N a->iO N b):de P ro c a H e a1 H1:=by intro ρ w F n Q k d f r g l;rw[i];exact h ρ w F n Q k d f r (j _ g) l
def D7(b:P.follows .mixedOrders=bv){f:FuncId}{args:List gt}{fn:Func}{c:Code}{N:Nat}{R:Out->aa->Prop}(k:P.funcs[f]?=ap fn)(r:fn.body=ap c)(s:fn.ntmps=N)(v:args.length<=N)
  (h:gO P bi c (NC P fn R) (bj N (fq Oj 0 args) []) H):aL P f args H R:=by
 obtain⟨e,a1,H2,x,j⟩:=J2 b c _ _ _ h
 have q:∀ t,t<N->({RV.ofList args with n:=N}:RV).get t=(Dw N (fq Oj 0 args)).get t:=by
  intro t m;rw[D8 _ _ _ m,yD];have o:({RV.ofList args with n:=N}:RV).get t=args.getD t undef:=RV.cb args t;rw[o];by_cases y:t<args.length
  .rw[if_pos li]; simp
  .rw[if_neg li,List.getD,zC5 (Nat.not_lt.1 y)]; rfl
 have p:de P bi c ⟨{RV.ofList args with n:=fn.ntmps},[]⟩ H e a1 H2:=by
  rw[s];refine x.congr (fun ρ=>?_) (fun M z=>?_)
  .refine kD ρ ρ rfl rfl (fun t m=>?_);have:=q t m;simp only[bj];rw[this]
  .refine⟨fun i hi=>?_,fun d B=>by cases B⟩;have:=z.1 i hi;rw[q i hi]at this;exact this
 have g:∀(u:FrameMode),je P fn a1 a1.defers u H2 R->(∀ out H1,dL P (JX P) fn a1 a1.defers u H2=ap (out,H1)->Km P (JX P) fn (e,a1,H2)=ap (out,H1))->aL P f args H R:=by intro u C E;obtain⟨out,H1,o,F⟩:=iT _ _ _ C;exact⟨out,H1,w7 (Gc b) k r li p (E out H1 o),F⟩
 cases e with
 |normal=>exact g .returning j (fun _ _ h=>h)
 |ret=>exact g .returning j (fun _ _ h=>h)
 |panic G=>exact g (.panicking G) j (fun _ _ h=>h)
 |exit id=>exact j.elim
 |goto l=>exact j.elim
 |outgrown=>exact j.elim
def Gr{x:cO}{R c:Out->aa->Prop}(b:∀ out H1,R out H1->c out H1)(h:nT P x H R):nT P x H c:=by
 cases x with
 |value v=>exact b _ _ h
 |skip=>exact b _ _ h
 |enter f args=>exact aL.mono h b
 |round r=>obtain⟨out,H1,d,g⟩:=h; exact⟨out,H1,d,b _ _ g⟩
 |panic v=>exact b _ _ h
def Mg{b:Op}{a:ai}{R c:Out->aa->Prop}(d:∀ out H1,R out H1->c out H1)(h:zQ P b a H R):zQ P b a H c:=by
 unfold zQ at *
 split at h
 .rename_i hx; exact Gr d h
 .exact h.elim
def kJ{P:io}{ro:Option Nat}{ops:Array Oper}{Q g:Exit->ai->aa->Prop}(c:∀ e a H,Q e a H->g e a H):∀(l:List Oper)(a:ai)(H:aa),wpOps P ro ops l a H Q->wpOps P ro ops l a H g
 |[],a,H,h=>c _ _ _ h
 |o::rest,a,H,h=>by
  simp only[wpOps]at *
  cases j:cG ops a o with
  |none=>rw[j]at h; exact h.elim
  |some b =>
   rw[j]at h
   cases b with
   |false=>exact kJ c rest _ _ h
   |true =>
    simp only at h ⊢
    have f:∀ {H:aa},zQ P o.op a H (fun out H1=>match out with
      |.ok v=>wpOps P ro ops rest (a.put o.dst v) H1 Q
      |.error i=>Q (.panic i) a H1)->zQ P o.op a H (fun out H1=>match out with
      |.ok v=>wpOps P ro ops rest (a.put o.dst v) H1 g
      |.error i=>g (.panic i) a H1):=fun h=>Mg (fun out H1 h=>by
     cases out with
     |ok v=>exact kJ c rest _ _ h
     |error i=>exact c _ _ _ h) h
    cases ro with
    |some l=>exact f h
    |none =>
     cases k:qC P a o.op with
     |none=>rw[k]at h; exact f h
     |some d=>rw[k]at h; exact kJ c rest _ _ h
def kR{ops:Array Oper}{anc:List Nat}{Q f:ai->aa->Prop}(d:∀ a H,Q a H->f a H):∀(l:List Oper)(i:Nat)(c:List Fp)(a:ai)(H:aa),cu P ops anc l i c a H Q->cu P ops anc l i c a H f
 |[],_,_,a,H,h=>d _ _ h
 |o::rest,i,c,a,H,h=>by
  simp only[cu]at *
  cases j:cG ops a o with
  |none=>rw[j]at h; exact h.elim
  |some b =>
   rw[j]at h
   cases b with
   |false=>exact kR d rest _ _ _ _ h
   |true =>obtain⟨F,v,g,k,m,n,p,q⟩:=h;exact⟨F,v,g,k,m,n,p,kR d rest _ _ _ _ q⟩
def Dx{d:gt}{f:Array Tmp}{b c:Code}{a:ai}{Q i:Exit->ai->aa->Prop}(j:∀ e a H,Q e a H->i e a H)(h:tE P ro d f b c a H Q):tE P ro d f b c a H i:=by
 unfold tE at *
 split at h
 .split at h
  .rename_i l mark H1 k;split at h
   .rename_i g args m;refine aL.mono h fun out H2 h=>?_
    cases out with
    |ok v=>obtain⟨n,le,e,o,p,q,r⟩:=h; exact⟨n,le,e,o,p,q,j _ _ _ r⟩
    |error s=>exact j _ _ _ h
   .exact h.elim
  .exact h.elim
 .exact h.elim
def JZ{W W':ai->aa->Prop}{Q b:Exit->ai->aa->Prop}(c:∀ a H,W a H->W' a H)(d:∀ e a H,Q e a H->b e a H):∀ e a H,Bw W Q e a H->Bw W' b e a H:=by
 intro e a H h
 cases e with
 |normal=>exact c _ _ h
 |_=>exact d _ _ _ h
def lU:∀(c:Code){Q g:Exit->ai->aa->Prop}(a:ai)(H:aa),(∀ e a H,Q e a H->g e a H)->gO P ro c Q a H->gO P ro c g a H:=by
 intro c
 induction c with
 |skip=>exact fun a H d h=>d _ _ _ h
 |label l=>exact fun a H d h=>d _ _ _ h
 |exit id=>exact fun a H d h=>d _ _ _ h
 |goto l=>exact fun a H d h=>d _ _ _ h
 |ret=>exact fun a H d h=>d _ _ _ h
 |seq x y i j =>
  intro Q g a H d h
  simp only[gO]at *
  exact i a H (JZ (fun a H=>j a H d) d) h
 |cond c x y i j =>
  intro Q g a H d h
  simp only[gO,II]at *
  split at h
  .rename_i z; exact i a H d h
  .rename_i z; exact j a H d h
  .exact h.elim
 |block id b k =>
  intro Q g a H d h
  simp only[gO]at *
  exact k a H (fun e a H h=>d _ _ _ h) h
 |scope b k =>
  intro Q g a H d h
  simp only[gO]at *
  refine k a H (fun e a H h=>?_) h
  cases e with
  |goto l=>exact h
  |_=>exact d _ _ _ h
 |loop b k =>
  intro Q g a H d h
  simp only[gO]at *
  obtain⟨m,h⟩:=h;refine⟨m,?_⟩
  have q:∀(m:Nat)(a:ai)(H:aa),kc (fun g r t=>gO P ro b g r t) Q m a H->kc (fun g r t=>gO P ro b g r t) g m a H:=by
   intro m
   induction m with
   |zero=>exact fun a H h=>h
   |succ m u =>
    intro a H h
    simp only[kc]at *
    refine k a H (fun e a H h=>?_) h
    cases e with
    |normal=>exact u a H h
    |_=>exact d _ _ _ h
  exact q m a H h
 |region id ops n =>
  intro Q g a H d h
  simp only[gO]at *
  cases n with
  |true =>
   refine⟨h.1,?_⟩
   rcases h.2 with h|⟨l,o,B,C,E,F⟩
   .exact .inl (kR (fun a H=>d _ a H) _ _ _ _ _ h)
   .exact .inr ⟨l,o,B,C,E,kR (fun a H h=>⟨h.1,kJ d _ _ _ h.2⟩) _ _ _ _ _ F⟩
  |false=>exact kJ d _ _ _ h
 |rangeFunc f G p v _ _ =>
  intro Q g a H d h
  simp only[gO]at *
  split at h
  .exact Dx d h
  .exact h.elim
 |refuse s=>exact fun a H d h=>h.elim
def NG{b:Code}{Q:Exit->ai->aa->Prop}(I:Nat->ai->aa->Prop){k:Nat}{a:ai}(g:I k a H)
  (h:∀ k a H,I k a H->gO P ro b (Bw (fun a1 H1=>∃ j,j<k/\I j a1 H1) Q) a H):gO P ro (.loop b) Q a H:=by
 have c:∀ m k a H,k<m->I k a H->kc (fun i l n=>gO P ro b i l n) Q m a H:=by
  intro m
  induction m with
  |zero=>intro k a H o; omega
  |succ m p =>
   intro k a H o q;simp only[kc];refine lU b a H (fun e a1 H1 f=>?_) (h k a H q)
   cases e with
   |normal =>obtain⟨j,r,d⟩:=f;exact p j a1 H1 li d
   |_=>exact f
 exact⟨k+1,c (k+1) k a H (zD9 _) g⟩
def nC(H:aa)(F:List Nat):H.merge (H.restrict F)=H:=by obtain⟨b,d,c⟩:=aI H F;unfold aa.merge;rw[c,b,zG0];rfl
def gC:Op->Bool
 |.move _=>bv
 |.assign _=>bv
 |.pick _ _ _=>bv
 |.build _ _=>bv
 |.nilCheck _=>bv
 |.unOp _ _ _=>bv
 |.makeInterface _ _=>bv
 |.makeFunc _ _ _=>bv
 |.fieldAddr _ _ _=>bv
 |.field _ _ _=>bv
 |.indexAddr _ _ _=>bv
 |.index _ _ _=>bv
 |.typeAssert _ _ _ _=>bv
 |.extract _ _=>bv
 |_=>gc
def EP{d:Op}(h:gC d=bv)(a:ai):∃ f:Option cO,∀ G:aa,cj d P a G=f.map fun x=>(x,G):=by
 cases d with
 |move x=>exact⟨(aP P a x).map .value,fun G=>by simp only[cj,qo,rv]; cases aP P a x<;>rfl⟩
 |assign x=>exact⟨(aP P a x).map .value,fun G=>by simp only[cj,qo,rv]; cases aP P a x<;>rfl⟩
 |pick c x y =>
  refine⟨(match aP P a c with
   |some (kw bv)=>(aP P a x).map .value
   |some (kw gc)=>(aP P a y).map .value
   |_=>bi),fun G=>?_⟩
  simp only[cj,Be,rv,zA1]
  cases aP P a c with
  |none=>rfl
  |some v =>
   cases v with
   |bool b=>cases b<;>simp only[zA4]<;>(first|cases aP P a x<;>rfl|cases aP P a y<;>rfl)
   |_=>rfl
 |build t g=>exact⟨((gv P a g.toList).bind (dR P t)).map .value,fun G=>by
   simp only[cj,tA,rv,zA1]
   cases gv P a g.toList with
   |none=>rfl
   |some l=>simp only[zA4]; cases dR P t l<;>rfl⟩
 |nilCheck x=>exact⟨(aP P a x).bind fun v=>(zA P (aa.none 0) v).map (·.1),fun G=>by
   simp only[cj,JB,zA1]
   cases aP P a x with
   |none=>rfl
   |some v =>
    simp only[zA4];unfold zA
    split<;>rfl⟩
 |unOp d t x=>exact⟨(aP P a x).bind fun v=>(QX P (aa.none 0) d v).map (·.1),fun G=>by
   simp only[cj,QZ,zA1]
   cases aP P a x with
   |none=>rfl
   |some v =>
    simp only[zA4];unfold QX;split
    .rfl
    .rfl
    .split
     .simp only[Option.map_map]; cases iZ P (Op.unary d v)<;>rfl
     .rfl⟩
 |makeInterface t x=>exact⟨(aP P a x).bind fun v=>(wP P (aa.none 0) t v).map (·.1),fun G=>by
   simp only[cj,Ci,zA1]
   cases aP P a x with
   |none=>rfl
   |some v=>simp only[zA4]; unfold wP; split<;>rfl⟩
 |makeFunc fn p q=>exact⟨(eR P a p.toList).bind fun u=>(eR P a q.toList).bind fun v=>(A9 (aa.none 0) fn u v).map (·.1),fun G=>by
   simp only[cj,Du,zA1]
   cases eR P a p.toList with
   |none=>rfl
   |some u =>
    cases eR P a q.toList with
    |none=>rfl
    |some v=>simp only[zA4]; unfold A9; split<;>rfl⟩
 |fieldAddr t x f=>exact⟨(aP P a x).bind fun v=>(aG P t v f).map .value,fun G=>by
   simp only[cj,jo,rv,zA1]
   cases aP P a x with
   |none=>rfl
   |some v=>simp only[zA4]; cases aG P t v f<;>rfl⟩
 |field t x f=>exact⟨(aP P a x).bind fun v=>(tS P t v f).map .value,fun G=>by
   simp only[cj,CC,rv,zA1]
   cases aP P a x with
   |none=>rfl
   |some v=>simp only[zA4]; cases tS P t v f<;>rfl⟩
 |indexAddr t x i=>exact⟨(aP P a x).bind fun v=>(aP P a i).bind fun j=>(aS P t v j).map .value,fun G=>by
   simp only[cj,iY,rv,zA1]
   cases aP P a x with
   |none=>rfl
   |some v =>
    cases aP P a i with
    |none=>rfl
    |some j=>simp only[zA4]; cases aS P t v j<;>rfl⟩
 |index t x i=>exact⟨(aP P a x).bind fun v=>(aP P a i).bind fun j=>(o8 P (aa.none 0) t v j).map (·.1),fun G=>by
   simp only[cj,tJ,zA1]
   cases aP P a x with
   |none=>rfl
   |some v =>
    cases aP P a i with
    |none=>rfl
    |some j =>
     simp only[zA4];unfold o8;split
     .rfl
     .split
      .simp only[Option.map_map]; cases iZ P (Instr.index t v j)<;>rfl
      .rfl⟩
 |typeAssert x t u ok=>exact⟨(aP P a x).bind fun v=>(gi P v u ok).map .value,fun G=>by
   simp only[cj,lF,rv,zA1]
   cases aP P a x with
   |none=>rfl
   |some v=>simp only[zA4]; cases gi P v u ok<;>rfl⟩
 |extract x i=>exact⟨(aP P a x).bind fun v=>(ku (aa.none 0) i v).map (·.1),fun G=>by
   simp only[cj,mq,zA1]
   cases aP P a x with
   |none=>rfl
   |some v =>
    simp only[zA4];unfold ku;split
    .rename_i vs; simp only[rv]; cases vs.toList[i]?<;>rfl
    .rfl⟩
 |_=>cases h
def fw(anc:Nat)(F W O:List Nat)(r:Fp):Prop :=
 anc.testBit r.i=bv\/((∀ n∈r.W,n∉F)/\(∀ n∈r.F,n∉W)/\(r.lo<r.hi->(∀ n∈F,n<r.lo\/r.hi<=n)/\(∀ n∈O,n<r.lo\/r.hi<=n)))
def HB{a b:List Nat}(h:∀ n∈a,n∉b):OE a b=true:=by
 refine zD3.2 fun n c=>?_
 cases d:EK n b with
 |false=>rfl
 |true=>exact absurd (wS.1 d) (h n c)
def A4{lo hi:Nat}{l:List Nat}(h:∀ n∈l,n<lo\/hi<=n):CF lo hi l=true:=by
 refine zD3.2 fun n b=>?_;rcases h n b with h|h
 .rw[bx h]; rfl
 .rw[show Nat.ble hi n=bv from zE2▸h]; simp
def iL{anc:Nat}{F:List Nat}{v:gt}{g:aa}{next:Nat}{r:Fp}(h:fw anc F g.dirty (fV v g next) r):tR anc F v g next r=true:=by
 rcases h with h|⟨f,i,j⟩
 .simp[tR,h]
 .have c:=HB f;have d:=HB i;by_cases b:r.lo<r.hi
  .obtain⟨k,l⟩:=j b;simp[tR,c,d,A4 k,A4 l]
  .have m:Nat.ble r.hi r.lo=true:=zE2▸Nat.not_lt.1 b;simp[tR,c,d,m]
def Ri(r:Fp):Prop:=r.F=[]/\r.W=[]/\r.hi<=r.lo
def N1{anc:Nat}{F:List Nat}{v:gt}{g:aa}{next:Nat}{r:Fp}(h:Ri r):tR anc F v g next r=true:=by
 refine iL (.inr ⟨?_,?_,fun b=>?_⟩)
 .rw[h.2.1]; simp
 .rw[h.1]; simp
 .have:=h.2.2; omega
def lM{ops:Array Oper}{anc:List Nat}{Q:ai->aa->Prop}:∀(rest:List Oper)(i:Nat)(d c:List Fp)(a:ai)(H:aa),(∀ r∈c,r∈d\/Ri r)->cu P ops anc rest i d a H Q->cu P ops anc rest i c a H Q
 |[],_,_,_,a,H,_,h=>h
 |o::rest,i,d,c,a,H,f,h=>by
  simp only[cu]at *
  cases j:cG ops a o with
  |none=>rw[j]at h; exact h.elim
  |some b =>
   rw[j]at h
   cases b with
   |false=>exact lM rest _ d c _ _ f h
   |true =>
    obtain⟨F,v,g,k,l,m,n,p⟩:=h;refine⟨F,v,g,k,l,m,fun r hr=>?_,lM rest _ _ _ _ _ (fun r hr=>?_) p⟩
    .rcases f r hr with h|h
     .exact n r h
     .exact N1 h
    .rcases zA9.1 hr with rfl|hr
     .exact .inl (zD7 ..)
     .rcases f r hr with h|h
      .exact .inl (zC4 _ h)
      .exact .inr h
def ir(anc:Nat)(b:List Fp)(O:List Nat):Prop:=∀ r∈b,r.lo<r.hi->anc.testBit r.i=bv\/∀ n∈O,n<r.lo\/r.hi<=n
def ra{ops:Array Oper}{anc:List Nat}{o:Oper}{rest:List Oper}{i:Nat}{b:List Fp}{a:ai}{Q:ai->aa->Prop}{v:gt}(k:cG ops a o=ap bv)
  (hx:∀ G,cj o.op P a G=ap (.value v,G)) (d:ir (anc.getD i 0) b (ae v))
  (h:cu P ops anc rest (i+1) b (a.put o.dst v) H Q):cu P ops anc (o::rest) i b a H Q:=by
 have c:=aI H [];simp only[cu,k];refine⟨[],v,H.restrict [],gL (x:=.value v) (g:=H.restrict []) (hx _) ⟨rfl,rfl⟩,lw,(by rw[c.2.2]; simp),?_,?_⟩
 .intro r hr;refine iL ?_;by_cases f:r.lo<r.hi
  .rcases d r hr f with h|h
   .exact .inl h
   .refine .inr ⟨by simp,by rw[c.2.2]; simp,fun _=>⟨by simp,fun n j=>h n ?_⟩⟩;simp only[fV,c.2.2,c.1,zG0,c8,zD4,List.flatMap_nil]at j;exact j
  .exact .inr ⟨by simp,by rw[c.2.2]; simp,fun h=>absurd h f⟩
 .rw[nC];refine lM rest _ b _ _ _ (fun r hr=>?_) h;rcases zA9.1 hr with rfl|hr
  .exact .inr ⟨rfl,c.2.2,by simp[c.1]⟩
  .exact .inl hr
def ER{ops:Array Oper}{anc:List Nat}{o:Oper}{rest:List Oper}{i:Nat}{b:List Fp}{a:ai}{Q:ai->aa->Prop}{v:gt}(k:gC o.op=bv)(l:cG ops a o=ap bv)
  (hx:cj o.op P a H=ap (.value v,H)) (d:ir (anc.getD i 0) b (ae v))
  (h:cu P ops anc rest (i+1) b (a.put o.dst v) H Q):cu P ops anc (o::rest) i b a H Q:=by
 obtain⟨f,j⟩:=EP (P:=P) k a;refine ra l (fun G=>?_) d h;have c:=j H;rw[hx]at c;rw[j]
 cases g:f with
 |none=>rw[g]at c; cases c
 |some y=>rw[g]at c; simp only[zB1,i5,i6]at c ⊢; exact⟨c.1.symm,trivial⟩
def Bv{ops:Array Oper}{anc:List Nat}{o:Oper}{rest:List Oper}{i:Nat}{b:List Fp}{a:ai}{Q:ai->aa->Prop}{v:gt}(F:List Nat)(f:cG ops a o=ap bv)
  (d:F8 P a (H.restrict F) o (.ok v) (H.restrict F)) (g:∀ n∈F,H.get n≠bi) (j:∀ r∈b,fw (anc.getD i 0) F [] (ae v) r)
  (h:cu P ops anc rest (i+1) (⟨i,F,[],H.next,H.next⟩::b) (a.put o.dst v) H Q):cu P ops anc (o::rest) i b a H Q:=by
 have c:=aI H F;simp only[cu,f];refine⟨F,v,H.restrict F,d,g,(by rw[c.2.2]; simp),fun r k=>iL ?_,?_⟩
 .simp only[fV,c.2.2,c.1,zG0,c8,zD4,List.flatMap_nil];exact j r k
 .rw[nC,c.2.2,c.1]; exact h
def E0{ops:Array Oper}{anc:List Nat}{o:Oper}{rest:List Oper}{i:Nat}{b:List Fp}{a:ai}{Q:ai->aa->Prop}{t:ii}{x:i4}{v:gt}{n off:Nat}(j:o.op=.load t x)(k:cG ops a o=ap bv)
  (hx:aP P a x=ap (i9 (ap ⟨n,off,bi⟩))) (f:fR P H t (i9 (ap ⟨n,off,bi⟩))=ap v) (l:∀ r∈b,fw (anc.getD i 0) [n] [] (ae v) r)
  (h:cu P ops anc rest (i+1) (⟨i,[n],[],H.next,H.next⟩::b) (a.put o.dst v) H Q):cu P ops anc (o::rest) i b a H Q:=by
 have dK:H.get n≠none:=by intro c;simp[fR,cM,c]at f
 refine Bv [n] k ?_ (by simpa using dK) l h;have c:(H.restrict [n]).get n=H.get n:=by rw[bf]; simp
 have d:fR P (H.restrict [n]) t (i9 (ap ⟨n,off,bi⟩))=ap v:=by rw[<-f];simp only[fR,cM,c]
 refine gL (x:=.value v) (g:=H.restrict [n]) ?_ ⟨rfl,rfl⟩;rw[j];simp only[cj,Fb,hx,zA1,zA4,d];rfl
end
section
variable{P:io}{H:aa}
def Q0(H:aa)(n:Nat)(e:ii)(o:Bool)(l:List gt):Prop:=∃ rv,bI H n=ap (rv,e,o)/\rv.n=l.length/\∀ i,i<l.length->rv.get i=l.getD i undef
def Q0.jJ{rv:RV}{l:List gt}(c:rv.n=l.length)(b:∀ i,i<l.length->rv.get i=l.getD i undef)(off sz:Nat)(h:off+sz<=l.length):rv.jJ off sz=(l.drop off).take sz:=by
 rw[RV.gl];apply zG4;intro i;by_cases hi:i<sz
 .rw[zE1,List.getElem?_range hi,List.getElem?_take_of_lt hi,List.getElem?_drop];have:off+i<l.length:=by omega
  simp[b _ this,List.getD,this]
 .rw[zC5 (by simpa using hi),zC5 pp]
def tI(l:List gt)(off:Nat)(vs:List gt):List Value:=l.take off++vs++l.drop (off+vs.length)
def nw(H:aa)(e:ii)(l:List gt)(o:Bool):aa:=H.new ⟨.cells #[] e,o,RV.ofList l⟩
def CJ{e:ii}{l:List gt}{o:Bool}(h:aX H.next l=bv):cH H e l o=ap (nw H e l o):=by simp only[cH,h,if_true,nw]
theorem iF(e:ii)(l:List gt)(o:Bool):(nw H e l o).next=H.next+1:=rfl
theorem Hn(e:ii)(l:List gt)(o:Bool):(nw H e l o).base=H.base:=rfl
theorem LA(e:ii)(l:List gt)(o:Bool):(nw H e l o).dirty=H.dirty:=rfl
def NK(e:ii)(l:List gt)(o:Bool){m:Nat}(h:m≠H.next):(nw H e l o).get m=H.get m:=by rw[nw,aa.fN,if_neg h]
end
end Go.Ax
