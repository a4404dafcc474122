/- Parts of the proof, one behind the other. -/
import Derived.Test.YtpohjcacnkhnkaaGreatDoorM1
import Derived.Below
import Derived.LoopNIn
import Derived.Scope
set_option linter.all false
set_option maxRecDepth 10000
set_option maxHeartbeats 16000000
open And renaming intro -> zA0
open Option renaming bind_eq_bind -> zA1, bind_eq_some_iff -> zA2, bind_some -> zA3, map_some -> zA9, map_eq_some_iff -> zB3
open Bool renaming and_eq_true -> zA4, false_eq_true -> zC4, not_true -> zE0, and_self -> zE3, not_false -> zG2
open List renaming mem_singleton -> zA5, mem_cons -> zA7, length_cons -> zB0, getElem?_eq_getElem -> zB1, mem_append -> zB2, length_append -> zB4, mem_map -> zB5, length_nil -> zB6, mem_of_getElem? -> zB9, map_cons -> zC0, nil_append -> zC1, getElem?_eq_none -> zC5, all_eq_true -> zC6, mem_cons_of_mem -> zC7, getD_eq_getElem?_getD -> zC8, nodup_cons -> zC9, append_nil -> zD0, drop_zero -> zD1, not_mem_nil -> zD2, append_assoc -> zD3, nodup_append -> zD4, take_of_length_le -> zD6, length_map -> zD7, length_drop -> zD8, mem_flatMap -> zE2, length_replicate -> zE4, mem_cons_self -> zE5, cons_append -> zE7, eq_nil_of_length_eq_zero -> zE9, getElem?_map -> zF0, drop_eq_nil_of_le -> zF1, length_set -> zF3, map_nil -> zF4, getElem?_cons_zero -> zF5, mem_of_mem_take -> zF6, mem_of_mem_drop -> zF9, mem_range -> zG0, getElem?_eq_some_iff -> zG1, drop_drop -> zG3, getElem?_cons_succ -> zG4, getElem_mem -> zG7, take_append_drop -> zG8
open Nat renaming le_of_ble_eq_true -> zA6, le_refl -> zA8, zero_le -> zB7, zero_add -> zB8, lt_or_ge -> zC2, le_trans -> zC3, lt_of_lt_of_le -> zD5, lt_succ_self -> zD9, add_zero -> zE1, ble_eq -> zE6, mul_one -> zE8, min -> zF2, zero_mul -> zF7, add_sub_cancel_left -> zF8, sub_self -> zG5
open Int renaming toNat_natCast -> zG6

namespace Go.Ax
def NC (H:aa):Prop:=∀ n o,H.get n=some o->n<H.next/\ki H.next o
def Fi (N:Nat):cP->Prop
 |.value v=>aS N v=true
 |.skip=>True
 |.enter _ args=>aO N args=true
 |.round r=>r.l<N/\∀ i,i<r.env.n->aS N (r.env.get i)=true
 |.panic v=>aS N v=true
section
variable {P : Program} {H : aa} {a : ag} {N : Nat}
theorem zq {v:Value} (h:aS N v=true):aO N v.cells.toList=true:=by
 cases v with
 |agg cs=>obtain⟨l⟩:=cs; simpa[aS,fb,Value.cells]using h
 |_=>simp[Value.cells,aO,h]
theorem tD {l:List Value}:fb N ⟨l⟩=aO N l:=by rw[fb]
theorem kh {c:Array Value}:fb N c=aO N c.toList:=by obtain⟨l⟩:=c; rw[fb]
theorem iP {l:List Value} (h:aO N l=true) {v:Value} (hv:v∈l):aS N v=true:=bL.1 h v hv
theorem iJ {l m:List Value} (h:aO N l=true) (hs:∀ v∈m,v∈l):aO N m=true:=bL.2 fun v hv=>iP h (hs v hv)
theorem yD (hd:NC H) {n:Nat} {c:RV} {e:TypeId} {o:Bool} (h:aR H n=some (c,e,o)):∀ i,i<c.n->aS H.next (c.get i)=true:=by
 unfold aR at h
 split at h
 ·rename_i x e' z o' v hg
  simp only[Option.some.injEq,Prod.mk.injEq]at h
  obtain⟨rfl,rfl,rfl⟩:=h
  exact (hd _ _ hg).2
 ·cases h
theorem OX {c:RV} (h:∀ i,i<c.n->aS N (c.get i)=true) {off k:Nat} (hle:off+k<=c.n):aO N (c.jK off k)=true:=by
 refine bL.2 fun v hv=>?_
 rw[RV.gA]at hv
 obtain⟨j,hj,rfl⟩:=zB5.1 hv
 exact h _ (by have:=zG0.1 hj; omega)
theorem wq (hd:NC H) {t:TypeId} {p v:Value} (h:ga P H t p=some v):aS H.next v=true:=by
 unfold ga at h
 split at h
 ·rename_i n off
  simp only[zA1,zA2]at h
  obtain⟨⟨c,e,o⟩,hc,b,hb,h⟩:=h
  have hcs:=yD hd hc
  cases b with
  |true =>
   simp only[zA2]at h
   obtain⟨sz,hsz,h⟩:=h
   split at h
   ·rename_i hle
    simp only[Option.some.injEq]at h
    subst h
    rw[aS,tD]
    exact OX hcs (iq hle)
   ·cases h
  |false =>
   simp only at h
   split at h
   ·rename_i hlt
    simp only[Option.some.injEq]at h
    subst h
    exact hcs _ (bN hlt)
   ·cases h
 ·cases h
theorem Dp {t:TypeId} {cs:List Value} {off:Nat} {v:Value} (hs:aO N cs=true) (h:zw P t cs off=some v):aS N v=true:=by
 unfold zw at h
 simp only[zA1,zA2]at h
 obtain⟨b,hb,h⟩:=h
 cases b with
 |true =>
  simp only[zA2,Option.some.injEq]at h
  obtain⟨sz,_,rfl⟩:=h
  rw[aS,tD]
  exact iJ hs fun v hv=>zF9 (zF6 hv)
 |false=>exact iP hs (zB9 h)
theorem pL {t:TypeId} {v:Value} (h:zeroOf P t=some v):aS N v=true:=by
 unfold zeroOf at h
 split at h
 ·split at h
  ·split at h
   ·rename_i ha
    simp only[Option.some.injEq]at h
    subst h
    exact fK _ ha
   ·cases h
  ·cases h
 ·cases h
theorem Jj {cs:Array Value} (hc:aO N cs.toList=true):∀ (l:List (Value × Nat)) (off:Nat),(∀ x∈l,aS N x.1=true)->aO N (l.foldl (fun cs (c,j)=>cs.setIfInBounds (off+j) c) cs).toList=true:=by
 intro l
 induction l generalizing cs with
 |nil=>exact fun _ _=>hc
 |cons x l ih =>
  intro off h
  simp only[List.foldl_cons]
  refine ih ?_ off (fun y hy=>h y (zC7 _ hy))
  refine bL.2 fun v hv=>?_
  rw[Array.toList_setIfInBounds]at hv
  rcases List.mem_or_eq_of_mem_set hv with hv|rfl
  ·exact iP hc hv
  ·exact h x (zE5 ..)
theorem BY {place:Nat->Option (Nat × Nat)}:∀ (parts:List (Nat × Value)) (cells:Array Value) (c:Array Value),aO N cells.toList=true->(∀ p∈parts,aS N p.2=true)->Instr.fill place cells parts=some c->aO N c.toList=true
 |[],cells,c,h,_,hf=>by simp only[Instr.fill,Option.some.injEq]at hf; subst hf; exact h
 |(i,v)::parts,cells,c,h,hp,hf=>by
  simp only[Instr.fill]at hf
  split at hf
  ·cases hf
  ·split at hf
   ·cases hf
   ·refine BY parts _ c ?_ (fun p h'=>hp p (zC7 _ h')) hf
    rw[<-Array.foldl_toList]
    refine Jj h _ _ (fun x hx=>?_)
    have hv:=zq (hp (i,v) (zE5 ..))
    refine iP hv ?_
    rw[Array.toList_zipIdx]at hx
    obtain⟨x1,x2⟩:=x
    have:=List.mem_zipIdx hx
    rw[this.2.2]
    exact zG7 _
theorem IT {t:TypeId} {parts:List (Nat × Value)} {v:Value} (hp:∀ p∈parts,aS N p.2=true) (h:er P t parts=some v):aS N v=true:=by
 unfold er at h
 simp only[zA1,zA2]at h
 obtain⟨z,hz,h⟩:=h
 have hzs:aO N z.cells.toList=true:=zq (pL hz)
 split at h
 ·simp only[zA2,zB3]at h
  obtain⟨pl,_,c,hc,rfl⟩:=h
  rw[aS,kh]
  exact BY parts _ c hzs hp hc
 ·simp only[zA2,zB3]at h
  obtain⟨pl,_,c,hc,rfl⟩:=h
  rw[aS,kh]
  exact BY parts _ c hzs hp hc
 ·cases h
theorem DT (hg:P.globals.size<=N) (hs:ic N a):∀ {ps:List (Nat × Operand)} {l:List (Nat × Value)},gH P a ps=some l->∀ p∈l,aS N p.2=true
 |[],l,h=>by simp only[gH,Option.some.injEq]at h; subst h; simp
 |(i,x)::ps,l,h=>by
  simp only[gH,zA1,zA2,Option.some.injEq]at h
  obtain⟨v,hv,vs,hvs,rfl⟩:=h
  intro p hp
  rcases zA7.1 hp with rfl|hp
  ·exact cI hg hs hv
  ·exact DT hg hs hvs p hp
theorem JA {op:BinOp} {k:IntKind} {x y:Int} {v:Value} (h:eD op k x y=some v):aS N v=true:=by
 cases op<;>simp only[eD,Option.some.injEq,reduceCtorEq]at h<;>first|(subst h; simp only[aS])|(split at h<;>first|(cases h; done)|(simp only[Option.some.injEq]at h; subst h; simp only[aS]))
theorem G6 {op:BinOp} {b:Bool} {v:Value} (h:wv op b=some v):aS N v=true:=by
 cases op<;>simp only[wv,Option.some.injEq,reduceCtorEq]at h<;>(subst h; simp only[aS])
theorem OO {op:BinOp} {t:TypeId} {x y v:Value} (h:fu P H op t x y=some v):aS N v=true:=by
 unfold fu at h
 split at h
 ·split at h
  ·exact JA h
  ·cases h
 ·split at h
  ·exact G6 h
  ·cases h
 ·unfold sC at h
  split at h
  ·cases h
  ·cases h
  ·simp only[zA2]at h
   obtain⟨b,_,h⟩:=h
   exact G6 h
theorem th {s:Sem Value} {x:cP} (h:jX P s=some x):Fi N x:=by
 unfold jX at h
 split at h
 ·split at h
  ·rename_i ha
   simp only[Option.some.injEq]at h
   subst h
   exact fK _ ha
  ·cases h
 ·split at h
  ·split at h
   ·rename_i ha
    simp only[Option.some.injEq]at h
    subst h
    exact fK _ ha
   ·cases h
  ·cases h
theorem mapNext {x:Option cP} {y:cP} {H1:aa} (h:(x.map fun r=>(r,H))=some (y,H1)):x=some y/\H1=H:=by
 cases x with
 |none=>cases h
 |some z=>simp only[zA9,Option.some.injEq,Prod.mk.injEq]at h; exact⟨by rw[h.1],h.2.symm⟩
theorem oe {x:Option Value} {y:cP} {H1:aa} (hx:∀ v,x=some v->aS H.next v=true) (h:rv H x=some (y,H1)):Fi H1.next y:=by
 simp only[rv,zB3,Prod.mk.injEq]at h
 obtain⟨v,hv,rfl,rfl⟩:=h
 exact hx v hv
theorem qO {x:Option (Value × aa)} {y:cP} {H1:aa} (hx:∀ v g,x=some (v,g)->aS g.next v=true) (h:sI x=some (y,H1)):Fi H1.next y:=by
 simp only[sI,zB3,Prod.mk.injEq]at h
 obtain⟨⟨v,g⟩,hv,rfl,rfl⟩:=h
 exact hx v g hv
theorem pD {e:TypeId} {c:List Value} {o:Bool} {g:aa} (h:cF H e c o=some g):g.next=H.next+1:=by
 unfold cF at h
 split at h
 ·simp only[Option.some.injEq]at h; subst h; rfl
 ·cases h
theorem Ep {n off:Nat} {vs:List Value} {g:aa} (h:dV H n off vs=some g):g.next=H.next:=by
 unfold dV at h
 simp only[zA1,zA2]at h
 obtain⟨⟨c,e,o⟩,_,h⟩:=h
 simp only at h
 split at h
 ·simp only[Option.some.injEq]at h; subst h; rfl
 ·cases h
theorem Im (k:IntKind) (n:Int):aS N (.int k n)=true:=by simp[aS]
theorem js (n:Int):aS N (goInt n)=true:=by simp[goInt,aS]
theorem vj {e:TypeId} {sz len cap n:Nat} {base:Option Addr} {new:List Value} {v:Value} {g:aa} (hb:aS H.next (.slice base len cap)=true) (h:cW H e sz base len cap n new=some (v,g)):aS g.next v=true:=by
 unfold cW at h
 split at h
 ·split at h
  ·split at h
   ·simp only[Option.some.injEq,Prod.mk.injEq]at h
    obtain⟨rfl,rfl⟩:=h
    simp[aS]
   ·cases h
  ·simp only[zA1,zA2,Option.some.injEq,Prod.mk.injEq]at h
   obtain⟨g',hg,rfl,rfl⟩:=h
   rw[Ep hg]
   simpa[aS]using hb
 ·simp only[zA1,zA2]at h
  obtain⟨fX,_,h⟩:=h
  have key:∀ {K g':aa} {c:List Value} {len cap:Nat},K.next=H.next->cF K e c true=some g'->aS g'.next (.slice (some ⟨H.next,0,Option.none⟩) len cap)=true:=by
   intro K g' c len cap hk hg
   rw[pD hg,hk]
   simp only[aS]
   exact a8 (zD9 _)
  split at h
  ·split at h
   ·simp only[zA2,Option.some.injEq,Prod.mk.injEq]at h
    obtain⟨g',hg,rfl,rfl⟩:=h
    exact key rfl hg
   ·simp only[zA2]at h
    obtain⟨b,_,h⟩:=h
    cases b with
    |true =>
     simp only[zA2,Option.some.injEq,Prod.mk.injEq]at h
     obtain⟨g',hg,rfl,rfl⟩:=h
     exact key rfl hg
    |false =>
     simp only[zA2]at h
     obtain⟨⟨v',e',o'⟩,_,h⟩:=h
     simp only at h
     split at h
     ·simp only[zA2,Option.some.injEq,Prod.mk.injEq]at h
      obtain⟨g',hg,rfl,rfl⟩:=h
      exact key (K:=H.cE _ Option.none) rfl hg
     ·cases h
  ·cases h
theorem DA {b:Builtin} {ts:Array TypeId} {args:List Value} {v:Value} {g:aa} (hs:aO H.next args=true) (h:aD P H b ts args=some (v,g)):aS g.next v=true:=by
 have m1:∀ {x:Option Value},(x.map fun v=>(v,H))=some (v,g)->∃ u,x=some u/\v=u/\g=H:=by
  intro x hx
  simp only[zB3,Prod.mk.injEq]at hx
  obtain⟨u,h1,h2,h3⟩:=hx
  exact⟨u,h1,h2.symm,h3.symm⟩
 unfold aD at h
 split at h
 ·obtain⟨u,h1,rfl,rfl⟩:=m1 h
  unfold nb at h1
  have hx:=iP hs (zE5 ..)
  split at h1
  ·cases h1; rfl
  ·cases h1; exact hx
  ·cases h1
 ·have hstr:∀ s N,aS N (.string s)=true:=fun _ _=>rfl
  unfold nF at h
  split at h
  ·simp only[Option.some.injEq,Prod.mk.injEq]at h; obtain⟨rfl,rfl⟩:=h; rfl
  ·simp only[zA1,zA2]at h
   obtain⟨_,_,h⟩:=h
   split at h
   ·simp only[zA2]at h
    obtain⟨_,_,h⟩:=h
    split at h
    ·simp only[zA2]at h
     obtain⟨_,_,h⟩:=h
     split at h
     ·split at h
      ·split at h
       ·simp only[Option.some.injEq,Prod.mk.injEq]at h; obtain⟨rfl,rfl⟩:=h; rfl
       ·split at h
        ·simp only[zA2,Option.some.injEq,Prod.mk.injEq]at h
         obtain⟨_,_,rfl,rfl⟩:=h
         rfl
        ·cases h
      ·cases h
     ·cases h
    ·cases h
   ·cases h
  ·cases h
 ·-- append
  rename_i s x
  unfold eP at h
  split at h
  ·rename_i st xt rest base len cap
   have hb:=iP hs (zE5 ..)
   simp only[zA1,zA2]at h
   obtain⟨u,_,h⟩:=h
   split at h
   ·simp only[zA2]at h
    obtain⟨sz,_,by1,_,zs,_,it,_,h⟩:=h
    split at h
    ·split at h
     ·exact vj hb h
     ·cases h
    ·cases h
    ·simp only[zA2]at h
     obtain⟨n,_,new,_,h⟩:=h
     split at h
     ·exact vj hb h
     ·cases h
   ·cases h
  ·cases h
 ·-- copy
  unfold Ai at h
  split at h
  ·simp only[zA1,zA2]at h
   obtain⟨u,_,h⟩:=h
   split at h
   ·simp only[zA2]at h
    obtain⟨sz,_,sl,_,cs,_,h⟩:=h
    split at h
    ·simp only[Option.some.injEq,Prod.mk.injEq]at h
     obtain⟨rfl,rfl⟩:=h
     exact js _
    ·split at h
     ·simp only[zA2,Option.some.injEq,Prod.mk.injEq]at h
      obtain⟨g',_,rfl,rfl⟩:=h
      exact js _
     ·simp only[Option.some.injEq,Prod.mk.injEq]at h
      obtain⟨rfl,rfl⟩:=h
      exact js _
   ·cases h
  ·cases h
 ·-- len
  split at h
  ·obtain⟨u,h1,rfl,rfl⟩:=m1 h
   unfold EW at h1
   split at h1<;>first|(simp only[Option.some.injEq]at h1; subst h1; exact js _)|(split at h1<;>first|(simp only[Option.some.injEq]at h1; subst h1; exact js _)|cases h1)|cases h1
  ·cases h
 ·-- cap
  split at h
  ·obtain⟨u,h1,rfl,rfl⟩:=m1 h
   unfold La at h1
   split at h1<;>first|(simp only[Option.some.injEq]at h1; subst h1; exact js _)|(split at h1<;>first|(simp only[Option.some.injEq]at h1; subst h1; exact js _)|cases h1)|cases h1
  ·cases h
 ·-- delete
  split at h
  ·unfold vN at h
   split at h
   ·split at h
    ·simp only[zA1,zA2]at h
     obtain⟨kd,_,h⟩:=h
     split at h
     ·split at h<;>first|(simp only[Option.some.injEq,Prod.mk.injEq]at h; obtain⟨rfl,rfl⟩:=h; simp only[aS,fb,aO])|(cases h; done)
     ·cases h
    ·cases h
   ·cases h
  ·cases h
 ·-- clear
  split at h
  ·unfold Cq at h
   split at h
   ·simp only[Option.some.injEq,Prod.mk.injEq]at h
    obtain⟨rfl,rfl⟩:=h
    simp[aS,fb,aO]
   ·split at h
    ·simp only[Option.some.injEq,Prod.mk.injEq]at h
     obtain⟨rfl,rfl⟩:=h
     simp[aS,fb,aO]
    ·simp only[zA1,zA2,Option.some.injEq,Prod.mk.injEq]at h
     obtain⟨z,_,g',_,rfl,rfl⟩:=h
     simp[aS,fb,aO]
   ·cases h
  ·cases h
 ·obtain⟨u,h1,rfl,rfl⟩:=m1 h
  unfold fT at h1
  split at h1
  ·simp only[Option.some.injEq]at h1; subst h1; exact Im _ _
  ·cases h1
 ·obtain⟨u,h1,rfl,rfl⟩:=m1 h
  unfold fT at h1
  split at h1
  ·simp only[Option.some.injEq]at h1; subst h1; exact Im _ _
  ·cases h1
 ·cases h
theorem sR {f:FuncId} {args:List Value} {x:cP} (hs:aO N args=true) (h:iU P f args=some x):Fi N x:=by
 unfold iU at h
 split at h
 ·simp only[Option.some.injEq]at h; subst h; exact hs
 ·cases h
theorem EF (hd:NC H) {t:TypeId} {v x:Value} {ptr:Bool} (hs:aS H.next v=true) (h:wu P H t v ptr=some x):aS H.next x=true:=by
 unfold wu at h
 split at h
 ·simp only[Option.some.injEq]at h; subst h; exact hs
 ·exact wq hd h
 ·cases h
 ·simp only[Option.some.injEq]at h; subst h; exact hs
 ·cases h
theorem zX:∀ (ts:List Tmp) (vs:List Value) (e:RV),aO N vs=true->(∀ i,i<e.n->aS N (e.get i)=true)->∀ i,i<(nO ts vs e).n->aS N ((nO ts vs e).get i)=true
 |[],vs,e,_,h=>by cases vs<;>exact h
 |_::_,[],e,_,h=>h
 |t::ts,v::vs,e,hv,h=>by
  simp only[aO,zA4]at hv
  simp only[nO]
  refine zX ts vs _ hv.2 ?_
  split
  ·intro i hi
   rw[RV.n_set]at hi
   rw[RV.ri]
   split
   ·exact hv.1
   ·exact h i hi
  ·exact h
theorem nt (hd:NC H) {fn:Fn} {args captured:List Value} {x:cP} (hl:∀ l,fn=.yield l->l<H.next) (hs:aO H.next args=true) (hc:aO H.next captured=true) (h:fq P H fn args captured=some x):Fi H.next x:=by
 unfold fq at h
 split at h
 ·exact sR (cB hs hc) h
 ·unfold wz at h
  split at h
  ·rename_i hg
   split at h
   ·simp only[Option.some.injEq]at h
    subst h
    refine⟨hl _ rfl,zX _ _ _ hs ?_⟩
    have:=(hd _ _ hg).2
    simp only[ki]at this
    exact this.2
   ·cases h
  ·cases h
 ·rename_i name t v r
  simp only[zA1,zA2]at h
  obtain⟨⟨f,ptr⟩,_,y,hy,h⟩:=h
  simp only[aO,zA4]at hs
  have h1:aS H.next v=true:=by have:=hs.1; rw[aS]at this; exact this
  refine sR ?_ h
  rw[aO,EF hd h1 hy,hs.2]; rfl
 ·rename_i t path f ptr y r
  split at h
  ·simp only[zA1,zA2]at h
   obtain⟨z,hz,h⟩:=h
   simp only[aO,zA4]at hs
   refine sR ?_ h
   rw[aO,EF hd hs.1 hz,hs.2]; rfl
  ·cases h
 ·cases h
theorem Bf {fn:Fn} {p q:Array Value} (h:aS N (.func fn p q)=true):(∀ l,fn=.yield l->l<N)/\aO N p.toList=true/\aO N q.toList=true:=by
 cases fn with
 |yield l =>
  simp only[aS,zA4,kh]at h
  exact⟨fun l' e=>by cases e; exact bN h.1.1,h.1.2,h.2⟩
 |_ =>
  simp only[aS,zA4,kh]at h
  exact⟨fun l' e=>(by cases e),h.1,h.2⟩
theorem My (hg:P.globals.size<=H.next) (hd:NC H) (hs:ic H.next a) {c:Call} {x:cP} {H1:aa} (h:kc c P a H=some (x,H1)):Fi H1.next x:=by
 unfold kc at h
 simp only[zA1,zA2]at h
 obtain⟨args,hargs,h⟩:=h
 have hsa:=mS hg hs hargs
 split at h
 ·exact qO (fun v g hv=>DA hsa hv) h
 ·simp only[zA2]at h
  obtain⟨r,hr,h⟩:=h
  obtain⟨h1,rfl⟩:=mapNext h
  refine nt hd (fun l e=>by cases e) ?_ rfl h1
  rw[aO,cI hg hs hr,hsa]; rfl
 ·simp only[zA2]at h
  obtain⟨f,hf,h⟩:=h
  have hfs:=cI hg hs hf
  split at h
  ·rename_i r hr
   simp only[Option.some.injEq]at h
   subst h
   unfold oA at hr
   split at hr
   ·obtain⟨h1,rfl⟩:=mapNext hr
    obtain⟨k1,k2,k3⟩:=Bf hfs
    exact nt hd k1 (cB k2 hsa) k3 h1
   ·cases hr
  ·have key:∀ {g:FuncId},nJ P H g args=some (x,H1)->Fi H1.next x:=by
    intro g h
    unfold nJ at h
    split at h
    ·split at h
     ·simp only[Option.some.injEq,Prod.mk.injEq]at h
      obtain⟨rfl,rfl⟩:=h
      exact iP hsa (zE5 ..)
     ·cases h
    ·split at h
     ·split at h
      ·split at h
       ·split at h
        ·split at h
         ·simp only[Option.some.injEq,Prod.mk.injEq]at h
          obtain⟨rfl,rfl⟩:=h
          exact a8 (zD9 _)
         ·cases h
        ·cases h
       ·cases h
      ·cases h
     ·cases h
    ·cases h
   unfold vY at h
   split at h
   ·split at h
    ·split at h
     ·split at h
      ·rename_i ha
       simp only[Option.some.injEq,Prod.mk.injEq]at h
       obtain⟨rfl,rfl⟩:=h
       exact fK _ ha
      ·cases h
     ·exact key h
    ·exact key h
   ·cases h
theorem FL {sz len cap:Nat} {ad:Option Addr} {lo hi:Option Value} {v:Value} {g:aa} (hb:∀ x,ad=some x->x.block<H.next) (h:fm H sz ad len cap lo hi=some (v,g)):aS g.next v=true:=by
 unfold fm at h
 simp only[zA1,zA2]at h
 obtain⟨l,_,k,_,h⟩:=h
 split at h
 ·split at h
  ·simp only[Option.some.injEq,Prod.mk.injEq]at h
   obtain⟨rfl,rfl⟩:=h
   simp[aS]
  ·rename_i x
   have hx:=hb x rfl
   obtain⟨ob,hb⟩:=Go.Ax.bP (cY H x)
   simp only[hb]at h
   cases ob with
   |none =>
    simp only at h
    split at h
    ·simp only[Option.some.injEq,Prod.mk.injEq]at h
     obtain⟨rfl,rfl⟩:=h
     simp only[aS]; exact a8 hx
    ·cases h
   |some b =>
    cases b with
    |true =>
    simp only[Option.some.injEq,Prod.mk.injEq]at h
    obtain⟨rfl,rfl⟩:=h
    simp only[aS]; exact a8 hx
    |false =>
    simp only at h
    split at h
    ·simp only[Option.some.injEq,Prod.mk.injEq]at h
     obtain⟨rfl,rfl⟩:=h
     simp only[aS]; exact a8 hx
    ·split at h
     ·simp only[Option.some.injEq,Prod.mk.injEq]at h
      obtain⟨rfl,rfl⟩:=h
      simp only[aS]; exact a8 hx
     ·split at h
      ·cases h
      simp only[Option.some.injEq,Prod.mk.injEq]at h
      obtain⟨rfl,rfl⟩:=h
      simp only[aS]; exact a8 hx
 ·cases h
theorem qh {x:Option Addr} {n m:Nat} (h:aS N (.slice x n m)=true):∀ y,x=some y->y.block<N:=by
 rintro y rfl
 simp only[aS]at h
 exact bN h
theorem IW {t:TypeId} {x:Value} {lo hi mx:Option Value} {v:Value} {g:aa} (hx:aS H.next x=true) (h:cg P H t x lo hi mx=some (v,g)):aS g.next v=true:=by
 unfold cg at h
 split at h
 ·simp only[zA1,zA2]at h
  obtain⟨l,_,k,_,h⟩:=h
  split at h
  ·simp only[Option.some.injEq,Prod.mk.injEq]at h
   obtain⟨rfl,rfl⟩:=h
   simp[aS]
  ·cases h
 ·simp only[zA1,zA2]at h
  obtain⟨sz,_,h⟩:=h
  exact FL (qh hx) h
 ·split at h
  ·simp only[zA1,zA2]at h
   obtain⟨sz,_,h⟩:=h
   unfold vO at h
   simp only[zA1,zA2]at h
   obtain⟨l,_,k,_,h⟩:=h
   split at h
   ·split at h
    ·simp only[Option.some.injEq,Prod.mk.injEq]at h
     obtain⟨rfl,rfl⟩:=h
     simp[aS]
    ·simp only[Option.some.injEq,Prod.mk.injEq]at h
     obtain⟨rfl,rfl⟩:=h
     simp only[aS]; exact a8 (qh hx _ rfl)
   ·cases h
  ·cases h
 ·simp only[zA1,zA2]at h
  obtain⟨l,_,k,_,sz,_,h⟩:=h
  split at h
  ·simp only[Option.some.injEq,Prod.mk.injEq]at h
   obtain⟨rfl,rfl⟩:=h
   simp only[aS]at hx ⊢
   exact hx
  ·cases h
 ·cases h
theorem Eu {s d:TypeId} {x v:Value} {g:aa} (hx:aS H.next x=true) (h:cj P H s d x=some (v,g)):aS g.next v=true:=by
 have key:∀ {g':aa} {e:TypeId} {c:List Value} {len cap:Nat},cF H e c true=some g'->aS g'.next (.slice (some ⟨H.next,0,Option.none⟩) len cap)=true:=by
  intro g' e c len cap hg
  rw[pD hg]
  simp only[aS]
  exact a8 (zD9 _)
 unfold cj at h
 split at h
 ·simp only[Option.some.injEq,Prod.mk.injEq]at h; obtain⟨rfl,rfl⟩:=h; simp[aS]
 ·simp only[Option.some.injEq,Prod.mk.injEq]at h; obtain⟨rfl,rfl⟩:=h; simp[aS]
 ·simp only[Option.some.injEq,Prod.mk.injEq]at h; obtain⟨rfl,rfl⟩:=h; simp[aS]
 ·split at h
  ·simp only[zA1,zA2]at h
   obtain⟨z,_,h⟩:=h
   split at h
   ·split at h
    ·simp only[zA2,Option.some.injEq,Prod.mk.injEq]at h
     obtain⟨g',hg,rfl,rfl⟩:=h
     exact key hg
    ·cases h
   ·cases h
  ·simp only[zA1,zA2]at h
   obtain⟨z,_,h⟩:=h
   split at h
   ·split at h
    ·simp only[zA2,Option.some.injEq,Prod.mk.injEq]at h
     obtain⟨g',hg,rfl,rfl⟩:=h
     exact key hg
    ·cases h
   ·cases h
  ·cases h
 ·simp only[zA1,zA2]at h
  obtain⟨cs,_,h⟩:=h
  split at h
  ·simp only[zB3,Prod.mk.injEq]at h; obtain⟨l,_,rfl,rfl⟩:=h; simp[aS]
  ·simp only[zB3,Prod.mk.injEq]at h; obtain⟨l,_,rfl,rfl⟩:=h; simp[aS]
  ·cases h
 ·simp only[zA1,zA2]at h
  obtain⟨u,_,h⟩:=h
  split at h
  ·split at h
   ·split at h
    ·simp only[Option.some.injEq,Prod.mk.injEq]at h; obtain⟨rfl,rfl⟩:=h; exact hx
    ·cases h
   ·cases h
  ·cases h
 ·simp only[Option.some.injEq,Prod.mk.injEq]at h; obtain⟨rfl,rfl⟩:=h; exact hx
 ·simp only[zA1,zA2]at h
  obtain⟨sz,_,c,_,h⟩:=h
  split at h
  ·simp only[Option.some.injEq,Prod.mk.injEq]at h; obtain⟨rfl,rfl⟩:=h; exact hx
  ·cases h
 ·simp only[Option.some.injEq,Prod.mk.injEq]at h; obtain⟨rfl,rfl⟩:=h; exact hx
 ·simp only[zA1,zA2]at h
  obtain⟨sz,_,h⟩:=h
  split at h
  ·split at h
   ·simp only[Option.some.injEq,Prod.mk.injEq]at h; obtain⟨rfl,rfl⟩:=h; exact hx
   ·cases h
  ·cases h
 ·cases h
theorem vg {kd:TypeDesc} {k:Value}:∀ (l:List MapEntry) (i:Nat) {j:Nat} {v:Value},Instr.findNow kd k l i=some (some (j,v))->∃ e∈l,e.val=v
 |[],i,j,v,h=>by simp[Instr.findNow]at h
 |e::l,i,j,v,h=>by
  simp only[Instr.findNow]at h
  split at h
  ·simp only[Option.some.injEq,Prod.mk.injEq]at h
   exact⟨e,zE5 ..,h.2⟩
  ·obtain⟨e',h1,h2⟩:=vg l (i+1) h
   exact⟨e',zC7 _ h1,h2⟩
  ·cases h
theorem pd {v:Value} {b:Bool} (h:aS N v=true):aS N (.tuple #[v,.bool b])=true:=by
 simp only[aS,fb,aO,h,zE3]
theorem FM (hd:NC H) {t:TypeId} {x k v:Value} {ok:Bool} (h:lK P H t x k ok=some v):aS H.next v=true:=by
 unfold lK at h
 split at h
 ·rename_i key elem r
  simp only[zA1,zA2]at h
  obtain⟨es,hes,kd,_,h⟩:=h
  split at h
  ·split at h
   ·rename_i j u hf
    obtain⟨e,he,rfl⟩:=vg _ _ hf
    have hes':∀ e∈es,aS H.next e.val=true:=by
     unfold zF at hes
     split at hes
     ·simp only[Option.some.injEq]at hes; subst hes; intro e he; simp at he
     ·split at hes
      ·rename_i es' c o v' hg
       simp only[Option.some.injEq]at hes
       subst hes
       have:=(hd _ _ hg).2
       simp only[ki]at this
       exact fun e he=>(this e he).2
      ·cases hes
    have hev:=hes' e (by simpa using he)
    simp only[Option.some.injEq]at h
    subst h
    split
    ·exact pd hev
    ·exact hev
   ·simp only[zB3]at h
    obtain⟨z,hz,rfl⟩:=h
    split
    ·exact pd (pL hz)
    ·exact pL hz
   ·cases h
  ·cases h
 ·cases h
theorem xL {x v:Value} {u:TypeId} {ok:Bool} (hx:aS N x=true) (h:gp P x u ok=some v):aS N v=true:=by
 have z:∀ {w:Option Value} {v:Value},w=zeroOf P u->(w.map fun z=>(.tuple #[z,.bool false]:Value))=some v->aS N v=true:=by
  intro w v hw h
  simp only[zB3]at h
  obtain⟨z,hz,rfl⟩:=h
  exact pd (pL (hw▸hz))
 unfold gp at h
 split at h
 ·split at h
  ·split at h
   ·simp only[Option.some.injEq]at h
    subst h
    split
    ·exact pd hx
    ·exact hx
   ·split at h
    ·exact z rfl h
    ·cases h
  ·cases h
 ·split at h
  ·exact z rfl h
  ·cases h
 ·rename_i t w _ _
  have hw:aS N w=true:=by rw[aS]at hx; exact hx
  split at h
  ·simp only[Option.some.injEq]at h
   subst h
   split
   ·exact pd hw
   ·exact hw
  ·split at h
   ·exact z rfl h
   ·cases h
 ·cases h
theorem A2 (hg:P.globals.size<=H.next) (hd:NC H) (hs:ic H.next a) {op:Op} {x:cP} {H1:aa} (h:ck op P a H=some (x,H1)):Fi H1.next x:=by
 have box:∀ {t:TypeId} {v:Value} {x:cP} {H1:aa},xT t v H=some (x,H1)->Fi H1.next x:=by
  intro t v x H1 h
  simp only[xT,zA1,zA2,Option.some.injEq,Prod.mk.injEq]at h
  obtain⟨g,hg,rfl,rfl⟩:=h
  show aS g.next (.pointer (some ⟨H.next,0,Option.none⟩))=true
  rw[pD hg]
  simp only[aS]
  exact a8 (zD9 _)
 have newp:∀ {g:aa} {e:TypeId} {c:List Value} {o:Bool} {s:Option Nat} {len cap:Nat},cF H e c o=some g->aS g.next (.slice (some ⟨H.next,0,s⟩) len cap)=true:=by
  intro g e c o s len cap hg
  rw[pD hg]
  simp only[aS]
  exact a8 (zD9 _)
 cases op with
 |move y=>exact oe (fun v hv=>cI hg hs hv) h
 |assign y=>exact oe (fun v hv=>cI hg hs hv) h
 |pick c y z =>
  simp only[ck,zK,zA1,zA2]at h
  obtain⟨cv,_,h⟩:=h
  split at h
  ·exact oe (fun v hv=>cI hg hs hv) h
  ·exact oe (fun v hv=>cI hg hs hv) h
  ·cases h
 |alloc t =>
  simp only[ck,wj,zA1,zA2]at h
  obtain⟨z,_,h⟩:=h
  exact box h
 |box t y =>
  simp only[ck,sQ,zA1,zA2]at h
  obtain⟨z,_,h⟩:=h
  exact box h
 |build t ps =>
  simp only[ck,tR,zA1,zA2]at h
  obtain⟨l,hl,h⟩:=h
  exact oe (fun v hv=>IT (DT hg hs hl) hv) h
 |buildSlice t n ps =>
  simp only[ck,iz,zA1,zA2]at h
  obtain⟨l,hl,h⟩:=h
  refine qO (fun v g hv=>?_) h
  unfold b7 at hv
  simp only[zA1,zA2]at hv
  obtain⟨u,_,hv⟩:=hv
  split at hv
  ·simp only[zA2]at hv
   obtain⟨sz,_,z,_,hv⟩:=hv
   split at hv
   ·simp only[zA2,Option.some.injEq,Prod.mk.injEq]at hv
    obtain⟨c,_,g',hg,rfl,rfl⟩:=hv
    exact newp hg
   ·cases hv
  ·cases hv
 |load t y =>
  simp only[ck,Dq,zA1,zA2]at h
  obtain⟨z,_,h⟩:=h
  exact oe (fun v hv=>wq hd hv) h
 |store t y z =>
  simp only[ck,sK,Kp,zA1,zA2,zB3,Prod.mk.injEq]at h
  obtain⟨p,_,q,_,g,_,rfl,rfl⟩:=h
  trivial
 |nilCheck y =>
  simp only[ck,JS,zA1,zA2]at h
  obtain⟨v,hv,h⟩:=h
  have hvs:=cI hg hs hv
  have hn:aS H.next (jF P)=true:=by simp only[jF,strVal,aS]
  unfold y9 at h
  split at h
  all_goals first
   |(cases h; done)
   |(simp only[Option.some.injEq,Prod.mk.injEq]at h; obtain⟨rfl,rfl⟩:=h; first|exact hn|exact hvs)
 |binOp op t y z u =>
  simp only[ck,Gt,zA1,zA2]at h
  obtain⟨p,hp,q,hq,h⟩:=h
  unfold Ec at h
  split at h
  ·rename_i v hv
   simp only[Option.some.injEq,Prod.mk.injEq]at h
   obtain⟨rfl,rfl⟩:=h
   exact OO hv
  ·split at h
   ·obtain⟨h1,rfl⟩:=mapNext h
    exact th h1
   ·cases h
 |unOp op t y =>
  simp only[ck,QO,zA1,zA2]at h
  obtain⟨p,hp,h⟩:=h
  unfold QD at h
  split at h
  ·simp only[Option.some.injEq,Prod.mk.injEq]at h; obtain⟨rfl,rfl⟩:=h; simp only[Fi,aS]
  ·simp only[Option.some.injEq,Prod.mk.injEq]at h; obtain⟨rfl,rfl⟩:=h; simp only[Fi,aS]
  ·split at h
   ·obtain⟨h1,rfl⟩:=mapNext h
    exact th h1
   ·cases h
 |convert s d y =>
  simp only[ck,rj,zA1,zA2]at h
  obtain⟨p,hp,h⟩:=h
  exact qO (fun v g hv=>Eu (cI hg hs hp) hv) h
 |makeInterface t y =>
  simp only[ck,xk,zA1,zA2]at h
  obtain⟨p,hp,h⟩:=h
  unfold sX at h
  split at h
  ·cases h
  ·simp only[Option.some.injEq,Prod.mk.injEq]at h
   obtain⟨rfl,rfl⟩:=h
   simp only[Fi,aS]; exact cI hg hs hp
  ·cases h
 |makeFunc fn p q =>
  simp only[ck,Dw,zA1,zA2]at h
  obtain⟨u,hu,v,hv,h⟩:=h
  unfold zQ at h
  split at h
  ·cases h
  ·rename_i cR
   simp only[Option.some.injEq,Prod.mk.injEq]at h
   obtain⟨rfl,rfl⟩:=h
   have h1:=mS hg hs hu
   have h2:=mS hg hs hv
   cases fn with
   |yield l=>exact absurd rfl (cR l)
   |_=>simp only[Fi,aS,fb,h1,h2,zE3]
 |makeMap t r =>
  have hm:∀ {x:cP} {H1:aa},qH H=some (x,H1)->Fi H1.next x:=by
   intro x H1 h
   simp only[qH,Option.some.injEq,Prod.mk.injEq]at h
   obtain⟨rfl,rfl⟩:=h
   simp only[Fi,aS]
   exact a8 (zD9 _)
  cases r with
  |none=>exact hm h
  |some y =>
   simp only[ck,rF,zA1,zA2]at h
   obtain⟨u,_,h⟩:=h
   split at h
   ·simp only[zA2]at h
    obtain⟨v,_,h⟩:=h
    split at h
    ·exact hm h
    ·cases h
   ·cases h
 |makeSlice t l c =>
  simp only[ck,kE,zA1,zA2]at h
  obtain⟨p,hp,q,hq,h⟩:=h
  refine qO (fun v g hv=>?_) h
  unfold fG at hv
  split at hv
  ·simp only[zA1,zA2]at hv
   obtain⟨u,_,hv⟩:=hv
   split at hv
   ·simp only[zA2]at hv
    obtain⟨by1,_,sz,_,z,_,hv⟩:=hv
    split at hv
    ·simp only[zA2,Option.some.injEq,Prod.mk.injEq]at hv
     obtain⟨g',hg,rfl,rfl⟩:=hv
     exact newp hg
    ·cases hv
   ·cases hv
  ·cases hv
 |slice t y lo hi mx =>
  simp only[ck,yj,zA1,zA2]at h
  obtain⟨p,hp,l,_,k,_,m,_,h⟩:=h
  exact qO (fun v g hv=>IW (cI hg hs hp) hv) h
 |fieldAddr t y f =>
  simp only[ck,jh,zA1,zA2]at h
  obtain⟨p,hp,h⟩:=h
  refine oe (fun v hv=>?_) h
  have hps:=cI hg hs hp
  unfold aH at hv
  split at hv
  ·split at hv
   ·split at hv
    ·cases hv
    ·simp only[Option.some.injEq]at hv
     subst hv
     simp only[aS,Addr.add]at hps ⊢
     split<;>exact hps
    ·cases hv
   ·cases hv
  ·cases hv
 |field t y f =>
  simp only[ck,BZ,zA1,zA2]at h
  obtain⟨p,hp,h⟩:=h
  refine oe (fun v hv=>?_) h
  have hps:=cI hg hs hp
  unfold tm at hv
  split at hv
  ·split at hv
   ·refine Dp ?_ hv
    rw[aS,kh]at hps; exact hps
   ·cases hv
  ·cases hv
 |indexAddr t y i =>
  simp only[ck,jq,zA1,zA2]at h
  obtain⟨p,hp,q,hq,h⟩:=h
  refine oe (fun v hv=>?_) h
  have hps:=cI hg hs hp
  unfold aP at hv
  split at hv
  ·simp only[zA1,zA2]at hv
   obtain⟨sz,_,hv⟩:=hv
   split at hv
   ·simp only[Option.some.injEq]at hv
    subst hv
    simp only[aS,Addr.add]at hps ⊢
    split<;>exact hps
   ·cases hv
  ·simp only[zA1,zA2]at hv
   obtain⟨sz,_,hv⟩:=hv
   split at hv
   ·simp only[Option.some.injEq]at hv
    subst hv
    simp only[aS]at hps ⊢
    exact hps
   ·cases hv
  ·cases hv
 |index t y i =>
  simp only[ck,Cn,zA1,zA2]at h
  obtain⟨p,hp,q,hq,h⟩:=h
  have hps:=cI hg hs hp
  unfold tW at h
  split at h
  ·rename_i v hv
   simp only[Option.some.injEq,Prod.mk.injEq]at h
   obtain⟨rfl,rfl⟩:=h
   unfold BP at hv
   split at hv
   ·simp only[zA1,zA2]at hv
    obtain⟨sz,_,hv⟩:=hv
    split at hv
    ·refine Dp ?_ hv
     rw[aS,kh]at hps; exact hps
    ·cases hv
   ·split at hv
    ·obtain⟨b,_,rfl⟩:=zB3.1 hv
     rfl
    ·cases hv
   ·cases hv
  ·split at h
   ·obtain⟨h1,rfl⟩:=mapNext h
    exact th h1
   ·cases h
 |lookup t y k ok =>
  simp only[ck,vT,zA1,zA2]at h
  obtain⟨p,hp,q,hq,h⟩:=h
  exact oe (fun v hv=>FM hd hv) h
 |mapUpdate t m k y =>
  simp only[ck,ik,Kp,zA1,zA2,zB3,Prod.mk.injEq]at h
  obtain⟨p,_,q,_,r,_,g,_,rfl,rfl⟩:=h
  trivial
 |insert t m k y =>
  simp only[ck,ik,Kp,zA1,zA2,zB3,Prod.mk.injEq]at h
  obtain⟨p,_,q,_,r,_,g,_,rfl,rfl⟩:=h
  trivial
 |range t y =>
  simp only[ck,Bo,zA1,zA2]at h
  obtain⟨p,hp,h⟩:=h
  refine qO (fun v g hv=>?_) h
  unfold qP at hv
  split at hv
  ·simp only[Option.some.injEq,Prod.mk.injEq]at hv
   obtain⟨rfl,rfl⟩:=hv
   simp only[aS]
   exact a8 (zD9 _)
  ·cases hv
 |next it s =>
  simp only[ck,Iz,zA1,zA2]at h
  obtain⟨p,hp,h⟩:=h
  refine qO (fun v g hv=>?_) h
  unfold rY at hv
  split at hv
  ·split at hv
   ·split at hv
    ·simp only[Option.some.injEq,Prod.mk.injEq]at hv
     obtain⟨rfl,rfl⟩:=hv
     simp only[aS,fb,aO,goInt,zE3]
    ·simp only[Option.some.injEq,Prod.mk.injEq]at hv
     obtain⟨rfl,rfl⟩:=hv
     simp only[aS,fb,aO,zE3]
   ·cases hv
  ·cases hv
 |typeAssert y t u ok =>
  simp only[ck,lC,zA1,zA2]at h
  obtain⟨p,hp,h⟩:=h
  exact oe (fun v hv=>xL (cI hg hs hp) hv) h
 |extract y i =>
  simp only[ck,mN,zA1,zA2]at h
  obtain⟨p,hp,h⟩:=h
  have hps:=cI hg hs hp
  unfold kR at h
  split at h
  ·refine oe (fun v hv=>?_) h
   rw[aS,kh]at hps
   exact iP hps (zB9 hv)
  ·cases h
 |call c=>exact My hg hd hs h
 |panic y =>
  simp only[ck,BM,zA1,zA2]at h
  obtain⟨p,hp,h⟩:=h
  have hps:=cI hg hs hp
  unfold A3 at h
  split at h
  ·simp only[Option.some.injEq,Prod.mk.injEq]at h
   obtain⟨rfl,rfl⟩:=h
   exact hps
  ·cases h
 |_=>simp[ck,EL]at h
theorem tS (hg:P.globals.size<=H.next) (hd:NC H) (hs:ic H.next a):∀ {rs:List ResultVar} {vs:List Value},cV P H a rs=some vs->aO H.next vs=true
 |[],vs,h=>by simp only[cV,Option.some.injEq]at h; subst h; rfl
 |.tmp t::rs,vs,h=>by
  simp only[cV,zA1,zA2,Option.some.injEq]at h
  obtain⟨us,hu,rfl⟩:=h
  rw[aO,tS hg hd hs hu]
  have:aS H.next (a.tmp t)=true:=by
   unfold ag.tmp
   split
   ·rename_i hb; exact hs.1 t (bN hb)
   ·exact eG _
  rw[this]; rfl
 |.cell y t::rs,vs,h=>by
  simp only[cV,zA1,zA2,Option.some.injEq]at h
  obtain⟨v,hv,us,hu,rfl⟩:=h
  rw[aO,tS hg hd hs hu,wq hd hv]; rfl
theorem PI {vs:List Value} (h:aO N vs=true):aS N (Bv vs)=true:=by
 unfold Bv
 split
 ·exact iP h (zE5 ..)
 ·rw[aS,tD]; exact h
end
def Ren.pe (ρ:Ren) (p:PanicEntry):PanicEntry:={p with v:=ρ.val p.v}
def Ren.exit (ρ:Ren):Exit->Exit
 |.panic ch=>.panic (ch.map ρ.pe)
 |e=>e
def L8 (N:Nat):Exit->Prop
 |.panic ch=>∀ p∈ch,aS N p.v=true
 |_=>True
structure cZ (F:Fence):Prop where
 fn:∀ f,F.fn f
 depth:F.depth=none
 alive:F.alive=false
theorem cZ.inRound {F:Fence} (h:cZ F) (l:Nat):cZ (F.inRound l):=⟨h.fn,h.depth,h.alive⟩
theorem cZ.plain {F:Fence} (h:cZ F):cZ F.plain:=⟨h.fn,h.depth,h.alive⟩
theorem cZ.all {F:Fence} (h:cZ F) (P:Program) (m:Machine):m.fenced P F:=by
 intro g _
 refine⟨fun e=>?_,Or.inl (h.fn _),fun _ _=>h.fn _,fun _ e=>?_⟩
 ·rw[h.alive]at e; cases e
 ·rw[h.depth]at e; cases e
theorem cZ.calls {F:Fence} (h:cZ F) {n:Nat} {P:Program} {f:FuncId} {args:Array Value} {w:World} {R:Ending->World->Prop} (hc:Calls P f args w R):CallsIn F n P f args w R:=by
 refine⟨h.fn f,fun cs _=>?_⟩
 obtain⟨e,w',fr,r,s,x⟩:=hc cs
 refine⟨e,w',fr,r,?_,x⟩
 cases e with
 |returned v=>exact (StepsIn.of_steps s).mono fun m _=>h.all P m
 |panicked chain=>exact (StepsIn.of_steps s).mono fun m _=>h.all P m
 |outgrown=>exact s
theorem cZ.deep {F:Fence} (h:cZ F) {n:Nat}:F.depth.isSome=true->1<=n:=fun e=>by rw[h.depth]at e; cases e
def de (P:Program) (ro:Option Nat) (c:Code) (a:ag) (H:aa) (e:Exit) (a1:ag) (H1:aa):Prop :=
 ∀ (ρ:Ren) (w:World) (F:Fence) (n:Nat) (Q:Exit->Act->World->Prop),cZ F->F.round=ro.map ρ.blk->(∀ l,ro=some l->l<H.next)->Rel P ρ H w->ic H.next a ->
  (∀ ρ1 w1,St P ρ H w ρ1 H1 w1->ic H1.next a1->L8 H1.next e->Q (ρ1.exit e) (ρ1.act a1) w1)->c.wpIn F n P Q (ρ.act a) w
def Kq (P:Program) (ρ:Ren) (H:aa) (w:World) (out:Out) (H1:aa) (R:Ending->World->Prop):Prop :=
 ∀ ρ1 w1,St P ρ H w ρ1 H1 w1->match out with
  |.ok v=>aS H1.next v=true->R (.returned (ρ1.val v)) w1
  |.error ch=>(∀ p∈ch,aS H1.next p.v=true)->R (.panicked (ch.map ρ1.pe)) w1
def br (P:Program) (f:FuncId) (args:List Value) (H:aa) (out:Out) (H1:aa):Prop :=
 ∀ (ρ:Ren) (w:World),Rel P ρ H w->aO H.next args=true->∀ (F:Fence) (n:Nat) (R:Ending->World->Prop),cZ F->Kq P ρ H w out H1 R->CallsIn F n P f (args.map ρ.val).toArray w R
structure Sound (P:Program) (rec:Rec):Prop where
 run:∀ (ro:Option Nat) (c:Code) (a:ag) (H:aa) (e:Exit) (a1:ag) (H1:aa),rec.run ro c a H=some (e,a1,H1)->de P ro c a H e a1 H1
 know:∀ (f:FuncId) (args:List Value) (v:Value) (H H1:aa),rec.know f args H=some (v,H1)->br P f args H (.ok v) H1
section
variable {P : Program} {ρ : Ren} {H : aa} {w : World}
theorem zP (ρ:Ren) (args:List Value) (n:Nat) (h:args.length<=n) :
  (args.map ρ.val).toArray++Array.replicate (n-(args.map ρ.val).toArray.size) undef=ρ.tmps {RV.ofList args with n:=n}:=by
 apply Array.ext_getElem?
 intro i
 rw[jg]
 have hg:({RV.ofList args with n:=n}:RV).get i=args.getD i undef:=RV.cb args i
 rw[hg]
 by_cases h1:i<args.length
 ·rw[Array.getElem?_append_left (by simpa using h1),if_pos (by show i<n; omega)]
  simp[h1]
 ·rw[Array.getElem?_append_right (by simpa using h1)]
  by_cases h2:i<n
  ·rw[if_pos h2,Array.getElem?_replicate]
   simp only[List.size_toArray,zD7]
   rw[if_pos (by omega)]
   simp[List.getD,zC5 (Nat.not_lt.1 h1)]
  ·rw[if_neg h2,Array.getElem?_replicate]
   simp only[List.size_toArray,zD7]
   rw[if_neg (by omega)]
theorem C8 {args:List Value} {n N:Nat} (h:aO N args=true):ic N ⟨{RV.ofList args with n:=n},[]⟩:=by
 refine⟨fun i _=>?_,fun d hd=>by cases hd⟩
 have hg:({RV.ofList args with n:=n}:RV).get i=args.getD i undef:=RV.cb args i
 simp only[hg]
 by_cases h1:i<args.length
 ·exact bL.1 h _ (by simp only[List.getD,zB1 h1,Option.getD_some]; exact zG7 _)
 ·rw[List.getD,zC5 (Nat.not_lt.1 h1)]; exact eG N
theorem uN (ρ:Ren) (ops:Array Oper) (a:ag) (j:Nat) :
  yielded ops (ρ.act a).tmps j=match (ops[j]?).bind (·.dst) with
   |some d=>(match a.tmp d with
    |.bool b=>some b
    |_=>none)
   |none=>none:=by
 unfold yielded
 cases hd:(ops[j]?).bind (·.dst) with
 |none=>simp
 |some d =>
  simp only[zA3,Ren.act,jg,ag.tmp]
  by_cases h:d<a.env.n
  ·rw[if_pos h,a8 h,if_pos rfl]
   cases hv:a.env.get d with
   |bool b=>simp[Ren.val]
   |pointer p=>cases p<;>simp[Ren.val]
   |slice p _ _=>cases p<;>simp[Ren.val]
   |map p=>cases p<;>simp[Ren.val]
   |chan p =>
    cases p with
    |none=>simp[Ren.val]
    |some k =>
     have h1:=ρ.op1 k
     rw[Ren.val]
     cases hk:ρ.op k with
     |bool b=>rw[hk]at h1; cases h1
     |_=>rfl
   |_=>simp[Ren.val]
  ·rw[if_neg h,mL h]
   simp[undef]
theorem fY (ρ:Ren) {ops:Array Oper} {a:ag} {o:Oper} {b:Bool} (h:cw ops a o=some b):Region.wanted o (yielded ops (ρ.act a).tmps)=b:=by
 unfold cw at h
 unfold Region.wanted
 split at h
 ·rename_i hg
  simp only[Option.some.injEq]at h
  rw[hg]; simpa using h
 ·rename_i j want hg
  rw[hg]
  simp only[uN]
  split at h
  ·rename_i oj hoj
   rw[hoj]
   simp only[zA3]
   split at h
   ·rename_i d hd
    rw[hd]
    simp only
    split at h
    ·rename_i bb hb
     simp only[Option.some.injEq]at h
     rw[hb]
     simpa using h
    ·rename_i hb
     simp only[Option.some.injEq]at h
     subst h
     split
     ·rename_i bb hbb; exact absurd hbb (hb bb)
     ·rfl
   ·rename_i hd
    simp only[Option.some.injEq]at h
    subst h
    rw[hd]; rfl
  ·rename_i hoj
   simp only[Option.some.injEq]at h
   subst h
   rw[hoj]; rfl
def ub (tmps:Array Value):ResultVar->Sem Value
 |.tmp t=>pure (tmps.getD t undef)
 |.cell x t=>do loadVar t (<-asAddr (tmps.getD x undef))
theorem q8 (r:Rel P ρ H w) {a:ag}:∀ {rs:List ResultVar} {vs:List Value},cV P H a rs=some vs->(rs.mapM (ub (ρ.act a).tmps)).run P w=.ok (vs.map ρ.val) w
 |[],vs,h=>by simp only[cV,Option.some.injEq]at h; subst h; simp
 |.tmp t::rs,vs,h=>by
  simp only[cV,zA1,zA2,Option.some.injEq]at h
  obtain⟨us,hu,rfl⟩:=h
  rw[List.mapM_cons]
  have h0:ub (ρ.act a).tmps (.tmp t)=pure (ρ.val (a.tmp t)):=by simp only[ub,rC]
  simp[q8 r hu,h0]
 |.cell x t::rs,vs,h=>by
  simp only[cV,zA1,zA2,Option.some.injEq]at h
  obtain⟨v,hv,us,hu,rfl⟩:=h
  rw[List.mapM_cons]
  obtain⟨n,off,hp⟩:=tv hv
  have hl:=sW r (by rw[<-hp]; exact hv)
  have h0:(ub (ρ.act a).tmps (.cell x t)).run P w=.ok (ρ.val v) w:=by
   simp only[ub,rC,hp,pA,asAddr,Sem.run_bind,Sem.run_pure,Result.andThen_ok,hl]
  simp[q8 r hu,h0]
theorem N9 (ρ:Ren) (vs:List Value):(if h:(vs.map ρ.val).toArray.size=1 then (vs.map ρ.val).toArray[0] else .tuple (vs.map ρ.val).toArray)=ρ.val (Bv vs):=by
 cases vs with
 |nil=>simp[Bv,Ren.val,Ren.ez,Ren.gM]
 |cons v r =>
  cases r with
  |nil=>simp[Bv]
  |cons u r=>simp[Bv,Ren.val,Ren.ez,Ren.nM]
theorem oB (r:Rel P ρ H w) {a:ag} {fn:Func} {vs:List Value} (h:cV P H a fn.results.toList=some vs) :
  (results fn (ρ.act a).tmps).run P w=.ok (ρ.val (Bv vs)) w:=by
 have h1:=q8 r h
 have h2:results fn (ρ.act a).tmps=(do
   let vs <-fn.results.mapM (ub (ρ.act a).tmps)
   pure (if h:vs.size=1 then vs[0] else .tuple vs)):=by
  unfold results
  congr 2
 rw[h2,Array.mapM_eq_mapM_toList]
 simp only[Sem.run_bind,Sem.run_map,h1,Result.andThen_ok,Sem.run_pure,N9]
theorem P8.plain {F:Fence} {n:Nat} {f:FuncId} {args:Array Value} {R:Ending->World->Prop} (h:CallsIn F.plain n P f args w R):CallsIn F n P f args w R:=h
theorem Rel.FX (r:Rel P ρ H w):NC H:=r.dom
def Ren.mode (ρ:Ren):FrameMode->FrameMode
 |.panicking ch=>.panicking (ch.map ρ.pe)
 |u=>u
def BJ (N:Nat):FrameMode->Prop
 |.panicking ch=>∀ p∈ch,aS N p.v=true
 |_=>True
theorem BJ.mono {N M:Nat} {u:FrameMode} (h:BJ N u) (hle:N<=M):BJ M u:=by
 cases u with
 |panicking ch=>exact fun p hp=>cM hle _ (h p hp)
 |_=>trivial
theorem OE {N:Nat} {ρ ρ':Ren} (e:Ext N ρ ρ') {ch:List PanicEntry} (h:∀ p∈ch,aS N p.v=true):ch.map ρ'.pe=ch.map ρ.pe:=by
 apply List.map_congr_left
 intro p hp
 simp only[Ren.pe,gE e _ (h p hp)]
theorem rL {N:Nat} {ρ ρ':Ren} (e:Ext N ρ ρ') {u:FrameMode} (h:BJ N u):ρ'.mode u=ρ.mode u:=by
 cases u with
 |panicking ch=>simp only[Ren.mode,OE e h]
 |_=>rfl
theorem DJ (ρ:Ren):∀ (l:List PanicEntry),(l.map ρ.pe).dropWhile (!·.goexit)=(l.dropWhile (!·.goexit)).map ρ.pe
 |[]=>rfl
 |p::l=>by
  simp only[zC0,List.dropWhile_cons,Ren.pe]
  split
  ·exact DJ ρ l
  ·rfl
theorem Lm {l:List PanicEntry} {p:PanicEntry} (h:p∈l.dropWhile (!·.goexit)):p∈l:=(List.dropWhile_sublist _).subset h
theorem C4 (ρ:Ren) (u:FrameMode):settle (ρ.mode u)=ρ.mode (settle u):=by
 cases u with
 |panicking ch =>
  cases ch with
  |nil=>rfl
  |cons p l =>
   obtain⟨v,r,g⟩:=p
   cases r with
   |false=>rfl
   |true =>
    simp only[Ren.mode,zC0,Ren.pe,settle]
    rw[show List.map ρ.pe l=l.map ρ.pe from rfl,DJ]
    cases l.dropWhile (!·.goexit)<;>rfl
 |_=>rfl
theorem FQ {N:Nat} {u:FrameMode} (h:BJ N u):BJ N (settle u):=by
 cases u with
 |panicking ch =>
  cases ch with
  |nil=>exact h
  |cons p l =>
   obtain⟨v,r,g⟩:=p
   cases r with
   |false=>exact h
   |true =>
    simp only[settle]
    cases e:l.dropWhile (!·.goexit) with
    |nil=>trivial
    |cons q l' =>
     intro p hp
     exact h p (zC7 _ (Lm (by rw[e]; exact hp)))
 |_=>trivial
theorem Eh (ρ:Ren) (u:FrameMode) (ch:List PanicEntry):raised (ρ.mode u) (ch.map ρ.pe)=ρ.mode (raised u ch):=by
 cases u<;>simp[Ren.mode,raised]
theorem Fh {N:Nat} {u:FrameMode} {ch:List PanicEntry} (h:BJ N u) (hc:∀ p∈ch,aS N p.v=true):BJ N (raised u ch):=by
 cases u with
 |panicking fX =>
  intro p hp
  rcases zB2.1 hp with hp|hp
  ·exact hc p hp
  ·exact h p hp
 |_=>exact hc
theorem JR {e:Operand->Value} {o:Oper} (h:isRec o.op=true):(execOp e o).run P w=.ok .recover w:=by
 obtain⟨dst,op,ty,af,gd,ps⟩:=o
 simp only at h
 unfold isRec at h
 split at h
 ·simp[execOp,resolve,invoke,builtin]
 ·cases h
theorem Cr (ρ:Ren) {c0:Frame} {u:FrameMode} (hu:c0.mode=ρ.mode u) (cs:List Frame) :
  recoverD (c0::cs)=some (ρ.val (eS u).1,{c0 with mode:=ρ.mode (eS u).2}::cs)\/(recoverD (c0::cs)=none/\eS u=(.nilIface,u)):=by
 cases u with
 |panicking ch =>
  cases ch with
  |nil=>right; simp only[Ren.mode,zF4]at hu; simp[recoverD,hu,eS]
  |cons p l =>
   obtain⟨v,r,g⟩:=p
   simp only[Ren.mode,zC0,Ren.pe]at hu
   cases r with
   |true=>right; simp[recoverD,hu,eS]
   |false =>
    cases g with
    |true=>right; simp[recoverD,hu,eS]
    |false=>left; simp[recoverD,hu,eS,Ren.mode,Ren.pe]
 |run=>right; simp only[Ren.mode]at hu; simp[recoverD,hu,eS]
 |returning=>right; simp only[Ren.mode]at hu; simp[recoverD,hu,eS]
theorem Ba {N:Nat} {u:FrameMode} (h:BJ N u):aS N (eS u).1=true/\BJ N (eS u).2:=by
 unfold eS
 split
 ·rename_i v older
  refine⟨h _ (zE5 ..),fun p hp=>?_⟩
  rcases zA7.1 hp with rfl|hp
  ·exact h ⟨v,false,false⟩ (zE5 ..)
  ·exact h p (zC7 _ hp)
 ·exact⟨by simp[aS],h⟩
def QB (P:Program) (ρ:Ren) (H:aa) (w:World) (c0:Frame) (cs:List Frame) (e:Exit) (a1:ag) (u1:FrameMode) (H1:aa) (Q:Exit->Act->List Frame->World->Prop):Prop :=
 ∀ ρ1 w1,St P ρ H w ρ1 H1 w1->ic H1.next a1->L8 H1.next e->BJ H1.next u1->Q (ρ1.exit e) (ρ1.act a1) ({c0 with mode:=ρ1.mode u1}::cs) w1
theorem s9 {c:Frame} {u:FrameMode} (h:c.mode=u):({c with mode:=u}:Frame)=c:=by subst h; rfl
theorem ui {ops:Array Oper} {F:Fence} {n:Nat} {Q:Exit->Act->List Frame->World->Prop} (hF:cZ F) {cs:List Frame} :
  ∀ (rest:List Oper) (k:Nat) (ρ:Ren) (H:aa) (w:World) (a:ag) (u:FrameMode) (c0:Frame) (e:Exit) (a1:ag) (u1:FrameMode) (H1:aa),ops.toList.drop k=rest->jx P ops rest a u H=some (e,a1,u1,H1) ->
   Rel P ρ H w->ic H.next a->BJ H.next u->c0.mode=ρ.mode u->QB P ρ H w c0 cs e a1 u1 H1 Q->wpOpsSIn F n P ops Q (List.range' k rest.length) (ρ.act a) (c0::cs) w
 |[],k,ρ,H,w,a,u,c0,e,a1,u1,H1,_,h,r,hs,hm,hu,hQ=>by
  simp only[jx,Option.some.injEq,Prod.mk.injEq]at h
  obtain⟨rfl,rfl,rfl,rfl⟩:=h
  have:=hQ ρ w (St.refl r) hs trivial hm
  rw[s9 hu]at this
  exact this
 |o::rest,k,ρ,H,w,a,u,c0,e,a1,u1,H1,hd,h,r,hs,hm,hu,hQ=>by
  have hk:ops[k]?=some o:=by
   have:=congrArg (·[0]?) hd
   simpa using this
  have hd':ops.toList.drop (k+1)=rest:=by
   have:=congrArg List.tail hd
   simpa using this
  have next:∀ (ρ1:Ren) (g:aa) (w1:World) (v:Value) (u':FrameMode) (c1:Frame),St P ρ H w ρ1 g w1->aS g.next v=true->BJ g.next u'->c1.mode=ρ1.mode u'->(∀ m,({c1 with mode:=m}:Frame)={c0 with mode:=m}) ->
    jx P ops rest (a.put o.dst v) u' g=some (e,a1,u1,H1)->wpOpsSIn F n P ops Q (List.range' (k+1) rest.length) ((ρ.act a).put o.dst (ρ1.val v)) (c1::cs) w1:=by
   intro ρ1 g w1 v u' c1 s hsc hm' hu' hc hrun
   rw[<-fS s.ext hs,jy]
   refine ui hF rest (k+1) ρ1 g w1 _ u' c1 e a1 u1 H1 hd' hrun s.rel ((hs.mono s.le.next).put _ hsc) hm' hu' ?_
   intro ρ2 w2 s2 h1 h2 h3
   rw[hc]
   exact hQ ρ2 w2 (s.trans s2) h1 h2 h3
  simp only[zB0,List.range'_succ,wpOpsSIn,hk]
  refine⟨fun f _=>hF.fn f,?_⟩
  simp only[jx]at h
  split at h
  ·rename_i hw
   rw[fY ρ hw,if_pos rfl]
   split at h
   ·rename_i hrec
    rw[JR hrec]
    simp only
    obtain⟨q1,q2⟩:=Ba hm
    rcases Cr ρ hu cs with h0|⟨h0,h1⟩
    ·rw[h0]
     exact next ρ H w _ _ _ (St.refl r) q1 q2 rfl (fun _=>rfl) h
    ·rw[h0]
     rw[h1]at h
     have:=next ρ H w .nilIface u c0 (St.refl r) (by simp[aS]) hm hu (fun _=>rfl) h
     rw[show ρ.val .nilIface=.nilIface from by simp[Ren.val]]at this
     exact this
   ·split at h
    ·rename_i v g hx
     obtain⟨⟨ρ1,w1,s,hrun⟩,_⟩:=sg r hx
     simp only[gz]at hrun
     rw[hrun]
     exact next ρ1 g w1 v u c0 s (A2 r.glob.1 r.FX hs hx) (hm.mono s.le.next) (by rw[hu,rL s.ext hm]) (fun _=>rfl) h
    ·rename_i g hx
     obtain⟨⟨ρ1,w1,s,hrun⟩,_⟩:=sg r hx
     simp only[gz]at hrun
     rw[hrun]
     have:=next ρ1 g w1 undef u c0 s (eG _) (hm.mono s.le.next) (by rw[hu,rL s.ext hm]) (fun _=>rfl) h
     rw[Ren.val_undef]at this
     exact this
    ·rename_i v g hx
     obtain⟨⟨ρ1,w1,s,hrun⟩,_⟩:=sg r hx
     simp only[gz]at hrun
     rw[hrun]
     have hsc:aS g.next v=true:=A2 r.glob.1 r.FX hs hx
     simp only[Option.some.injEq,Prod.mk.injEq]at h
     obtain⟨rfl,rfl,rfl,rfl⟩:=h
     have:=hQ ρ1 w1 s (hs.mono s.le.next) (fun p hp=>by simp at hp; subst hp; exact hsc) (hm.mono s.le.next)
     rw[fS s.ext hs,rL s.ext hm,s9 hu]at this
     exact this
    ·cases h
  ·rename_i hw
   rw[fY ρ hw]
   simp only[zC4,if_false]
   have:=next ρ H w undef u c0 (St.refl r) (eG _) hm hu (fun _=>rfl) h
   rw[Ren.val_undef]at this
   exact this
  ·cases h
theorem Mf {rec:Rec} (hrec:Sound P rec) {F:Fence} {n:Nat} (hF:cZ F) (hFr:F.round=none) {cs:List Frame} :
  ∀ (c:Code) (ρ:Ren) (H:aa) (w:World) (a:ag) (u:FrameMode) (c0:Frame) (e:Exit) (a1:ag) (u1:FrameMode) (H1:aa) (Q:Exit->Act->List Frame->World->Prop),kP P rec c a u H=some (e,a1,u1,H1) ->
   Rel P ρ H w->ic H.next a->BJ H.next u->c0.mode=ρ.mode u->QB P ρ H w c0 cs e a1 u1 H1 Q->c.wpSIn F n P Q (ρ.act a) (c0::cs) w:=by
 have lift:∀ (c:Code) (ρ:Ren) (H:aa) (w:World) (a:ag) (u:FrameMode) (c0:Frame) (e:Exit) (a1:ag) (u1:FrameMode) (H1:aa) (Q:Exit->Act->List Frame->World->Prop),
   (rec.run none c a H).map (fun r=>(r.1,r.2.1,u,r.2.2))=some (e,a1,u1,H1) ->
   Rel P ρ H w->ic H.next a->BJ H.next u->c0.mode=ρ.mode u->QB P ρ H w c0 cs e a1 u1 H1 Q->c.wpSIn F n P Q (ρ.act a) (c0::cs) w:=by
  intro c ρ H w a u c0 e a1 u1 H1 Q h r hs hm hu hQ
  simp only[zB3,Prod.mk.injEq]at h
  obtain⟨⟨e',a',H'⟩,hr,rfl,rfl,rfl,rfl⟩:=h
  refine wpSIn_of_wpIn hFr (hrec.run none c a H _ _ _ hr ρ w F n _ hF (by rw[hFr]; rfl) (fun l hl=>by cases hl) r hs ?_)
  intro ρ1 w1 s h1 h2
  have:=hQ ρ1 w1 s h1 h2 (hm.mono s.le.next)
  rw[rL s.ext hm,s9 hu]at this
  exact this
 intro c
 induction c with
 |seq x y ihx ihy =>
  intro ρ H w a u c0 e a1 u1 H1 Q h r hs hm hu hQ
  simp only[kP]at h
  refine wpSIn_seq ?_
  split at h
  ·rename_i a2 u2 H2 hx
   refine ihx ρ H w a u c0 .normal a2 u2 H2 _ hx r hs hm hu ?_
   intro ρ1 w1 s h1 _ h3
   refine ihy ρ1 H2 w1 a2 u2 _ e a1 u1 H1 Q h s.rel h1 h3 rfl ?_
   intro ρ2 w2 s2 k1 k2 k3
   exact hQ ρ2 w2 (s.trans s2) k1 k2 k3
  ·rename_i cR
   refine ihx ρ H w a u c0 e a1 u1 H1 _ h r hs hm hu ?_
   intro ρ1 w1 s h1 h2 h3
   have:=hQ ρ1 w1 s h1 h2 h3
   cases e with
   |normal=>exact absurd h (cR a1 u1 H1)
   |_=>exact this
 |cond c x y ihx ihy =>
  intro ρ H w a u c0 e a1 u1 H1 Q h r hs hm hu hQ
  simp only[kP]at h
  split at h
  ·rename_i hc
   refine wpSIn_cond (t:=true) (by rw[aI r hc]; simp[Ren.val]) ?_
   exact ihx ρ H w a u c0 e a1 u1 H1 Q h r hs hm hu hQ
  ·rename_i hc
   refine wpSIn_cond (t:=false) (by rw[aI r hc]; simp[Ren.val]) ?_
   exact ihy ρ H w a u c0 e a1 u1 H1 Q h r hs hm hu hQ
  ·cases h
 |region id ops draw =>
  intro ρ H w a u c0 e a1 u1 H1 Q h r hs hm hu hQ
  cases draw with
  |true=>exact lift _ ρ H w a u c0 e a1 u1 H1 Q h r hs hm hu hQ
  |false =>
   simp only[kP]at h
   split at h
   ·refine wpSIn_region ?_
    rw[List.range_eq_range']
    have:=ui (n:=n) (Q:=Q) hF (cs:=cs) ops.toList 0 ρ H w a u c0 e a1 u1 H1 (by simp) h r hs hm hu hQ
    simpa using this
   ·exact lift _ ρ H w a u c0 e a1 u1 H1 Q h r hs hm hu hQ
 |_ =>
  intro ρ H w a u c0 e a1 u1 H1 Q h r hs hm hu hQ
  exact lift _ ρ H w a u c0 e a1 u1 H1 Q h r hs hm hu hQ
def R3 (P:Program) (ρ:Ren) (H:aa) (w:World) (out:Out) (u1:FrameMode) (H1:aa) (R:Ending->FrameMode->World->Prop):Prop :=
 ∀ ρ1 w1,St P ρ H w ρ1 H1 w1->BJ H1.next u1->match out with
  |.ok v=>R (.returned (ρ1.val v)) (ρ1.mode u1) w1
  |.error ch=>(∀ p∈ch,aS H1.next p.v=true)->R (.panicked (ch.map ρ1.pe)) (ρ1.mode u1) w1
theorem yG {rec:Rec} (hrec:Sound P rec) (r:Rel P ρ H w) {f:FuncId} {args:List Value} {u:FrameMode} {out:Out} {u1:FrameMode} {H1:aa} (h:lQ P rec f args u H=some (out,u1,H1)) (hsc:aO H.next args=true) (hm:BJ H.next u)
  {F:Fence} {n:Nat} {R:Ending->FrameMode->World->Prop} (hF:cZ F) (hFr:F.round=none) (hR:R3 P ρ H w out u1 H1 R):CallsDIn F n P f (args.map ρ.val).toArray (ρ.mode u) w R:=by
 simp only[lQ,zA1,zA2]at h
 obtain⟨fn,hfn,c,hc,h⟩:=h
 split at h
 ·rename_i hle
  have hle:=iq hle
  simp only[zA2]at h
  obtain⟨⟨e,a1,u2,H2⟩,hr,h⟩:=h
  refine callsDIn_of_wpSIn hfn hc (hF.fn f) (fun c0 cs hu=>?_)
  have hact:({tmps:=(args.map ρ.val).toArray++Array.replicate (fn.ntmps-(args.map ρ.val).toArray.size) undef,defers:=[]}:Act)=ρ.act ⟨{RV.ofList args with n:=fn.ntmps},[]⟩:=by
   rw[zP ρ args fn.ntmps hle]; rfl
  rw[hact]
  refine Mf hrec hF hFr c ρ H w _ u c0 e a1 u2 H2 _ hr r (C8 hsc) hm hu ?_
  intro ρ1 w1 s h1 h2 h3
  obtain⟨env,ds⟩:=a1
  unfold Q0 at h
  split at h
  ·rename_i e' u' H' heq
   simp only[Prod.mk.injEq,ag.mk.injEq]at heq
   obtain⟨rfl,⟨rfl,rfl⟩,rfl,rfl⟩:=heq
   simp only[zB3,Prod.mk.injEq]at h
   obtain⟨vs,hvs,rfl,rfl,rfl⟩:=h
   exact⟨rfl,_,rfl,_,oB s.rel hvs,hR ρ1 w1 s h3⟩
  ·rename_i e' u' H' heq
   simp only[Prod.mk.injEq,ag.mk.injEq]at heq
   obtain⟨rfl,⟨rfl,rfl⟩,rfl,rfl⟩:=heq
   simp only[zB3,Prod.mk.injEq]at h
   obtain⟨vs,hvs,rfl,rfl,rfl⟩:=h
   exact⟨rfl,_,rfl,_,oB s.rel hvs,hR ρ1 w1 s h3⟩
  ·rename_i ch e' u' H' heq
   simp only[Prod.mk.injEq,ag.mk.injEq]at heq
   obtain⟨rfl,⟨rfl,rfl⟩,rfl,rfl⟩:=heq
   simp only[Option.some.injEq,Prod.mk.injEq]at h
   obtain⟨rfl,rfl,rfl⟩:=h
   exact⟨rfl,_,rfl,hR ρ1 w1 s h3 h2⟩
  ·cases h
 ·cases h
theorem vU (ρ:Ren) (c:Array Value):ρ.ez c=(c.toList.map ρ.val).toArray:=by
 rw[Ren.dJ]; apply Array.ext'; simp
theorem ni {rec:Rec} (hrec:Sound P rec) {F:Fence} {n:Nat} (hF:cZ F) (hFr:F.round=none) {fn:Func} {a1:ag} {R:Ending->World->Prop} :
  ∀ (ds:List Deferred) (u:FrameMode) (H:aa) (w:World) (ρ:Ren) (out:Out) (H1:aa),dy P rec fn a1 ds u H=some (out,H1)->Rel P ρ H w->ic H.next a1->(∀ d∈ds,Pg H.next d)->BJ H.next u ->
   Kq P ρ H w out H1 R->LeavesInM F n P fn (ρ.act a1).tmps R (ds.map ρ.rM) (ρ.mode u) w
 |[],u,H,w,ρ,out,H1,h,r,hs,hd,hm,hR=>by
  cases u with
  |run=>simp[dy]at h
  |returning =>
   simp only[dy,zB3,Prod.mk.injEq]at h
   obtain⟨vs,hvs,rfl,rfl⟩:=h
   exact⟨_,oB r hvs,hR ρ w (St.refl r) (PI (tS r.glob.1 r.FX hs hvs))⟩
  |panicking ch =>
   simp only[dy,Option.some.injEq,Prod.mk.injEq]at h
   obtain⟨rfl,rfl⟩:=h
   exact hR ρ w (St.refl r) hm
 |d::ds,u,H,w,ρ,out,H1,h,r,hs,hd,hm,hR=>by
  have cR:ρ.mode u≠.run:=by
   cases u with
   |run=>simp[dy]at h
   |_=>simp[Ren.mode]
  refine⟨cR,?_⟩
  rcases hd d (zE5 ..) with⟨x,rfl,hx⟩|⟨f,cap,as0,rfl,hcap,has⟩
  ·have h' : (match (generalizing := false) H.get x with
     |some ⟨.deferred (some []),_,_⟩=>dy P rec fn a1 ds u (H.cE x (some ⟨.deferred none,false,⟨[],0⟩⟩))
     |_=>none)=some (out,H1):=by
    cases u with
    |run=>simp[dy]at h
    |_=>simp only[dy]at h; exact h
   clear h
   split at h'
   ·rename_i o v hg
    obtain⟨o',hw,hf⟩:=r.obj _ _ hg
    simp only[Fits]at hf
    subst hf
    obtain⟨k1,k2,k3⟩:=gi (w:=w) (ρ.blk x) _ (.deferred none) hw
    have hst:St P ρ H w ρ (H.cE x (some ⟨.deferred none,false,⟨[],0⟩⟩)) {w with heap:=w.heap.setIfInBounds (ρ.blk x) (.deferred none)} :=
     St.cE r (bD hg) (ru hg rfl) (by simp[ki]) (by simp[Fits]) k1 k2 k3 rfl rfl rfl
    have ih:=ni hrec hF hFr (n:=n) (R:=R) ds u _ _ ρ out H1 h' hst.rel hs (fun d hd'=>hd d (zC7 _ hd')) hm (fun ρ1 w1 s=>hR ρ1 w1 (hst.trans s))
    refine .inl ⟨ρ.blk x,_,rfl,?_,ih⟩
    simp[Instr.takeDeferred,getObj,Sem.run,hw,im (P:=P) (o':=.deferred none) hw (fun _ _ _=>by simp)]
   ·cases h'
  ·have h' : (if aF P f then
     match (generalizing:=false) lQ P rec f (as0.toList++cap.toList) u H with
     |some (.ok _,u1,H1)=>dy P rec fn a1 ds (settle u1) H1
     |some (.error ch,u1,H1)=>dy P rec fn a1 ds (raised u1 ch) H1
     |none=>none
    else none)=some (out,H1):=by
    cases u with
    |run=>simp[dy]at h
    |_=>simp only[dy]at h; exact h
   clear h
   split at h'
   ·rename_i hb
    have hsas:aO H.next (as0.toList++cap.toList)=true:=cB (by rw[<-kh]; exact has) (by rw[<-kh]; exact hcap)
    have hargs:ρ.ez as0++ρ.ez cap=((as0.toList++cap.toList).map ρ.val).toArray:=by
     rw[vU,vU]; simp
    refine .inr ⟨hF.deep,.func f,ρ.ez cap,f,((as0.toList++cap.toList).map ρ.val).toArray,rfl,?_,fun g _=>hF.fn g,?_⟩
    ·simp only[Ren.rM,Ren.fn,invoke,hargs]
     exact vh hb
    ·split at h'
     ·rename_i v u1 H2 hen
      refine yG hrec r hen hsas hm hF hFr ?_
      intro ρ1 w1 s hm1
      simp only
      rw[C4,<-fS s.ext hs,show ds.map ρ.rM=ds.map ρ1.rM from List.map_congr_left fun d hd'=>(rJ s.ext (hd d (zC7 _ hd'))).symm]
      exact ni hrec hF hFr ds _ H2 w1 ρ1 out H1 h' s.rel (hs.mono s.le.next) (fun d hd'=>(hd d (zC7 _ hd')).mono s.le.next) (FQ hm1) (fun ρ2 w2 s2=>hR ρ2 w2 (s.trans s2))
     ·rename_i ch u1 H2 hen
      refine yG hrec r hen hsas hm hF hFr ?_
      intro ρ1 w1 s hm1 hch
      simp only
      rw[Eh,<-fS s.ext hs,show ds.map ρ.rM=ds.map ρ1.rM from List.map_congr_left fun d hd'=>(rJ s.ext (hd d (zC7 _ hd'))).symm]
      exact ni hrec hF hFr ds _ H2 w1 ρ1 out H1 h' s.rel (hs.mono s.le.next) (fun d hd'=>(hd d (zC7 _ hd')).mono s.le.next) (Fh hm1 hch) (fun ρ2 w2 s2=>hR ρ2 w2 (s.trans s2))
     ·cases h'
   ·cases h'
theorem xx {rec:Rec} (hrec:Sound P rec) {f:FuncId} {args:List Value} {fn:Func} {c:Code} {e:Exit} {a1:ag} {H2 H1:aa} {out:Out} (hfn:P.funcs[f]?=some fn) (hc:fn.body=some c) (hle:args.length<=fn.ntmps)
  (hr:de P none c ⟨{RV.ofList args with n:=fn.ntmps},[]⟩ H e a1 H2) (h:JZ P rec fn (e,a1,H2)=some (out,H1)):br P f args H out H1:=by
 intro ρ w r hsc F n R hF hR
 refine P8.plain (callsIn_of_wp_marks hfn hc (hF.plain.fn f) ?_ rfl)
 have hact:({tmps:=(args.map ρ.val).toArray++Array.replicate (fn.ntmps-(args.map ρ.val).toArray.size) undef,defers:=[]}:Act)=ρ.act ⟨{RV.ofList args with n:=fn.ntmps},[]⟩:=by
  rw[zP ρ args fn.ntmps hle]; rfl
 rw[hact]
 refine hr ρ w F.plain n _ hF.plain rfl (fun l hl=>by cases hl) r (C8 hsc) ?_
 intro ρ1 w1 hst hsa hsx
 have key:∀ (u:FrameMode),dy P rec fn a1 a1.defers u H2=some (out,H1)->BJ H2.next u->LeavesInM F.plain n P fn (ρ1.act a1).tmps R (ρ1.act a1).defers (ρ1.mode u) w1 :=
  fun u hl hu=>ni hrec hF.plain rfl a1.defers u H2 w1 ρ1 out H1 hl hst.rel hsa hsa.2 hu (fun ρ2 w2 s2=>hR ρ2 w2 (hst.trans s2))
 cases e with
 |normal=>exact key .returning h trivial
 |ret=>exact key .returning h trivial
 |panic ch=>exact key (.panicking ch) h hsx
 |exit id=>simp[JZ]at h
 |goto l=>simp[JZ]at h
 |outgrown=>simp[JZ]at h
theorem yU {rec:Rec} (hrec:Sound P rec) (r:Rel P ρ H w) {f:FuncId} {args:List Value} {out:Out} {H1:aa} (h:BK P rec f args H=some (out,H1)) (hsc:aO H.next args=true)
  {F:Fence} {n:Nat} {R:Ending->World->Prop} (hF:cZ F) (hR:Kq P ρ H w out H1 R):CallsIn F n P f (args.map ρ.val).toArray w R:=by
 simp only[BK,zA1,zA2]at h
 obtain⟨fn,hfn,c,hc,h⟩:=h
 split at h
 ·rename_i hle
  simp only[zA2]at h
  obtain⟨⟨e,a1,H2⟩,hr,h⟩:=h
  exact xx hrec hfn hc (iq hle) (hrec.run none c _ H e a1 H2 hr) h ρ w r hsc F n R hF hR
 ·cases h
theorem uL {l:Nat} {lp:Loop} {e:RV} (h:getLoop H l=some (lp,e)):∃ o,H.get l=some ⟨.loop lp,o,e⟩:=by
 unfold getLoop at h
 split at h
 ·rename_i r o e' hg
  simp only[Option.some.injEq,Prod.mk.injEq]at h
  obtain⟨rfl,rfl⟩:=h
  exact⟨o,hg⟩
 ·cases h
theorem lJ (r:Rel P ρ H w) {l:Nat} {lp lp':Loop} {e:RV} (h:getLoop H l=some (lp,e)) (hd:lp'.defers=lp.defers) :
  ∃ fn,(Instr.getLoop (ρ.blk l)).run P w=.ok {lp with fn:=fn,tmps:=ρ.tmps e,defers:=ρ.blk lp.defers} w /\
   ∃ w1,(setObj (ρ.blk l) (.loop {lp' with fn:=fn,tmps:=ρ.tmps e,defers:=ρ.blk lp.defers})).run P w=.ok () w1/\St P ρ H w ρ (eM H l lp' e) w1:=by
 obtain⟨o,hg⟩:=uL h
 obtain⟨fn,hw,hgl⟩:=oD r hg
 refine⟨fn,hgl,_,im hw (fun _ _ _=>by simp),?_⟩
 obtain⟨k1,k2,k3⟩:=gi (w:=w) (ρ.blk l) _ (.loop {lp' with fn:=fn,tmps:=ρ.tmps e,defers:=ρ.blk lp.defers}) hw
 have hs:=(r.dom _ _ hg).2
 simp only[ki]at hs
 refine St.cE r (bD hg) (ru hg rfl) ?_ ?_ k1 k2 k3 rfl rfl rfl
 ·simp only[ki,hd]; exact hs
 ·simp only[Fits,hd]; exact⟨fn,rfl⟩
theorem St.below (r:Rel P ρ H w) {w1:World} (h:RowKit.Below w.heap.size w w1):St P ρ H w ρ H w1:=by
 refine⟨Ext.refl _ _,Le.refl _,⟨r.base,r.glob,r.inj,r.dom,fun n o ho=>?_⟩,h.os,h.tape,h.output,h.size,fun b hb _=>h.block b hb,fun n hn hg=>absurd (r.lt hg) (by omega),fun _ _=>⟨id,rfl⟩⟩
 rw[h.block _ (r.tU (bD ho))]
 exact r.obj n o ho
theorem tg (ρ:Ren):∀ (l:List Value),(∀ x∈l,af x=true)->l.map ρ.val=l
 |[],_=>rfl
 |x::l,h=>by
  rw[zC0,df ρ x (h x (zE5 ..)),tg ρ l (fun y hy=>h y (zC7 _ hy))]
theorem AP {rec:Rec} (hrec:Sound P rec) (r:Rel P ρ H w) {f:FuncId} {args:List Value} {out:Out} {H1:aa} (h:HP P rec f args H=some (out,H1)) (hsc:aO H.next args=true)
  {F:Fence} {n:Nat} {R:Ending->World->Prop} (hF:cZ F) (hR:Kq P ρ H w out H1 R):CallsIn F n P f (args.map ρ.val).toArray w R:=by
 unfold HP at h
 split at h
 ·rename_i v g hk
  simp only[Option.some.injEq,Prod.mk.injEq]at h
  obtain⟨rfl,rfl⟩:=h
  exact hrec.know f args v H g hk ρ w r hsc F n R hF hR
 ·exact yU hrec r h hsc hF hR
def BB (P:Program) (rd:Round) (H:aa) (out:Out) (H1:aa):Prop :=
 ∀ (ρ:Ren) (w:World),Rel P ρ H w->rd.l<H.next->(∀ i,i<rd.env.n->aS H.next (rd.env.get i)=true)->∀ (F:Fence) (n:Nat) (f:FuncId) (R:Ending->World->Prop),cZ F->Kq P ρ H w out H1 R->RoundIn F n P (ρ.blk rd.l) f (ρ.tmps rd.env) rd.assign rd.body w R
theorem Fw {rd:Round} {a1 a2:ag} {H2 H3:aa} {e2:Exit} {lp lp2:Loop} {le le2:RV} {j:Option Code} (hr:de P (some rd.l) rd.assign ⟨rd.env,[]⟩ H .normal a1 H2)
  (hlp:getLoop H2 rd.l=some (lp,le)) (hready:lp.state=.ready) (hr2:de P (some rd.l) rd.body a1 (eM H2 rd.l {lp with state:=.busy} le) e2 a2 H3) (hj:oF e2=some j) (hlp2:getLoop H3 rd.l=some (lp2,le2)) :
  BB P rd H (.ok (.bool j.isNone)) (eM H3 rd.l {lp2 with state:=if j.isNone then .ready else .done,pending:=j} le2):=by
 intro ρ w r hl hsc F n f R hF hR
 refine roundIn_of_wpIn (hF.fn f) ?_
 have hact:({tmps:=ρ.tmps rd.env,defers:=[]}:Act)=ρ.act ⟨rd.env,[]⟩:=rfl
 rw[hact]
 refine hr ρ w (F.inRound (ρ.blk rd.l)) n _ (hF.inRound _) rfl (fun l e=>by cases e; exact hl) r ⟨hsc,fun d hd=>by cases hd⟩ ?_
 intro ρ1 w1 hst hsa hsx
 have hblk:ρ1.blk rd.l=ρ.blk rd.l:=hst.ext.blk _ hl
 obtain⟨fn,hgl,w2,hset,hst2⟩:=lJ hst.rel (lp':={lp with state:=.busy}) hlp rfl
 rw[hblk]at hgl hset
 refine⟨w2,?_,?_⟩
 ·simp only[Instr.beginRound,Sem.run_bind,hgl,Result.andThen_ok]
  rw[show ({({lp with fn:=fn,tmps:=ρ1.tmps le,defers:=ρ1.blk lp.defers}:Loop) with state:=.busy}:Loop)={({lp with state:=.busy}:Loop) with fn:=fn,tmps:=ρ1.tmps le,defers:=ρ1.blk lp.defers} from rfl,hset]
  simp[hready]
 ·have hn2:(eM H2 rd.l {lp with state:=.busy} le).next=H2.next:=rfl
  have hl2:rd.l<H2.next:=zD5 hl hst.le.next
  refine hr2 ρ1 w2 (F.inRound (ρ.blk rd.l)) n _ (hF.inRound _) (by simp[hblk]) (fun l e=>by cases e; rw[hn2]; exact hl2) hst2.rel hsa ?_
  intro ρ2 w3 hst3 hsa3 hsx3
  have hblk2:ρ2.blk rd.l=ρ.blk rd.l:=(hst3.ext.blk _ (by rw[hn2]; exact hl2)).trans hblk
  obtain⟨fn2,hgl2,w4,hset4,hst4⟩:=lJ hst3.rel (lp':={lp2 with state:=if j.isNone then .ready else .done,pending:=j}) hlp2 rfl
  rw[hblk2]at hgl2 hset4
  have hend:(Instr.endRound (ρ.blk rd.l) j).run P w3=.ok (.bool j.isNone) w4:=by
   simp only[Instr.endRound,Sem.run_bind,hgl2,Result.andThen_ok]
   rw[show ({({lp2 with fn:=fn2,tmps:=ρ2.tmps le2,defers:=ρ2.blk lp2.defers}:Loop) with state:=if j.isNone then .ready else .done,pending:=j}:Loop) =
    {({lp2 with state:=if j.isNone then .ready else .done,pending:=j}:Loop) with fn:=fn2,tmps:=ρ2.tmps le2,defers:=ρ2.blk lp2.defers} from rfl,hset4]
   simp
  have hfin:=hR ρ2 w4 (((hst.trans hst2).trans hst3).trans hst4) (by simp only[aS])
  simp only[Ren.val]at hfin
  cases e2 with
  |normal=>simp only[oF,Option.some.injEq]at hj; subst hj; exact⟨_,_,hend,hfin⟩
  |ret=>simp only[oF,Option.some.injEq]at hj; subst hj; exact⟨_,_,hend,hfin⟩
  |exit id=>simp only[oF,Option.some.injEq]at hj; subst hj; exact⟨_,_,hend,hfin⟩
  |goto t=>simp only[oF,Option.some.injEq]at hj; subst hj; exact⟨_,_,hend,hfin⟩
  |panic ch=>simp[oF]at hj
  |outgrown=>simp[oF]at hj
theorem Dh {rec:Rec} (hrec:Sound P rec) {rd:Round} {out:Out} {H1:aa} (h:E0 rec rd H=some (out,H1)):BB P rd H out H1:=by
 unfold E0 at h
 simp only[zA1,zA2]at h
 obtain⟨⟨e,a1,H2⟩,hr,h⟩:=h
 cases e with
 |normal =>
  simp only[zA2]at h
  obtain⟨⟨lp,le⟩,hlp,h⟩:=h
  simp only at h
  split at h
  ·rename_i hready
   simp only[zA2]at h
   obtain⟨⟨e2,a2,H3⟩,hr2,j,hj,⟨lp2,le2⟩,hlp2,h⟩:=h
   simp only[Option.some.injEq,Prod.mk.injEq]at h
   obtain⟨rfl,rfl⟩:=h
   exact Fw (hrec.run _ _ _ _ _ _ _ hr) hlp hready (hrec.run _ _ _ _ _ _ _ hr2) hj hlp2
  ·cases h
 |exit id=>cases h
 |goto l=>cases h
 |ret=>cases h
 |panic ch=>cases h
 |outgrown=>cases h
end
section
variable {P : Program} {ρ : Ren} {H : aa} {w : World}
def RP (P:Program) (ρ:Ren) (H:aa) (w:World) (a:Act) (dst:Option Tmp) (out:Out) (H1:aa) (K:Act->World->Prop) (Q:Exit->Act->World->Prop):Prop :=
 ∀ ρ1 w1,St P ρ H w ρ1 H1 w1->match out with
  |.ok v=>aS H1.next v=true->K (a.put dst (ρ1.val v)) w1
  |.error ch=>(∀ p∈ch,aS H1.next p.v=true)->Q (.panic (ch.map ρ1.pe)) a w1
theorem CO {rec:Rec} (hrec:Sound P rec) (r:Rel P ρ H w) {a:ag} (hs:ic H.next a) {o:Oper} {out:Out} {H1:aa} (h:Nr P rec a H o=some (out,H1)) {ca:Act} (hca:∀ x∈o.op.operands,ca.eval x=(ρ.act a).eval x)
  {F:Fence} {n:Nat} {K:Act->World->Prop} {Q:Exit->Act->World->Prop} (hF:cZ F) (hR:RP P ρ H w ca o.dst out H1 K Q):o.wpIn F n P ca w K Q:=by
 simp only[Nr,zA2]at h
 obtain⟨⟨x,g⟩,hx,h⟩:=h
 have hsn:=A2 r.glob.1 r.FX hs hx
 obtain⟨⟨ρ1,w1,hst,hrun⟩,hnd⟩:=sg r hx
 refine⟨fun f _=>hF.fn f,?_⟩
 have hsel:∀ cs b,o.op≠.select cs b:=fun cs b e=>by rw[e]at hx; simp[ck,EL]at hx
 rw[Oper.semAt_eq _ _ _ hnd,execOp_congr o hsel hca]
 cases x with
 |value v =>
  simp only[Qf,Option.some.injEq,Prod.mk.injEq]at h
  obtain⟨rfl,rfl⟩:=h
  simp only[gz]at hrun
  rw[hrun,Oper.uponIn_value]
  exact hR ρ1 w1 hst hsn
 |skip =>
  simp only[Qf,Option.some.injEq,Prod.mk.injEq]at h
  obtain⟨rfl,rfl⟩:=h
  simp only[gz]at hrun
  rw[hrun,Oper.uponIn_skip]
  have:=hR ρ1 w1 hst (eG _)
  simpa using this
 |enter f args =>
  simp only[Qf]at h
  simp only[gz]at hrun
  rw[hrun,Oper.uponIn_enter]
  refine⟨hF.deep,AP hrec hst.rel h hsn hF ?_⟩
  intro ρ2 w2 hst2
  cases out with
  |ok v=>exact hR ρ2 w2 (hst.trans hst2)
  |error ch=>exact hR ρ2 w2 (hst.trans hst2)
 |round rd =>
  simp only[Qf]at h
  simp only[gz]at hrun
  obtain⟨fn,hrun⟩:=hrun
  rw[hrun,Oper.uponIn_round]
  refine⟨hF.deep,Dh hrec h ρ1 w1 hst.rel hsn.1 hsn.2 _ _ _ _ hF ?_⟩
  intro ρ2 w2 hst2
  cases out with
  |ok v=>exact hR ρ2 w2 (hst.trans hst2)
  |error ch=>exact hR ρ2 w2 (hst.trans hst2)
 |panic v =>
  simp only[Qf,Option.some.injEq,Prod.mk.injEq]at h
  obtain⟨rfl,rfl⟩:=h
  simp only[gz]at hrun
  rw[hrun,Oper.uponIn_panic]
  exact hR ρ1 w1 hst (fun p hp=>by simp at hp; subst hp; exact hsn)
def ET (P:Program) (a:ag) (H:aa) (o:Oper) (out:Out) (H1:aa):Prop :=
 ∀ (ρ:Ren) (w:World),Rel P ρ H w->ic H.next a->∀ (ca:Act),(∀ x∈o.op.operands,ca.eval x=(ρ.act a).eval x) ->
  ∀ (F:Fence) (n:Nat) (K:Act->World->Prop) (Q:Exit->Act->World->Prop),cZ F->RP P ρ H w ca o.dst out H1 K Q->o.wpIn F n P ca w K Q
theorem GF {rec:Rec} (hrec:Sound P rec) {a:ag} {o:Oper} {out:Out} {H1:aa} (h:Nr P rec a H o=some (out,H1)):ET P a H o out H1 :=
 fun _ _ r hs _ hca _ _ _ _ hF hR=>CO hrec r hs h hca hF hR
theorem Ht {rec:Rec} (hrec:Sound P rec) (r:Rel P ρ H w) {a:ag} (hs:ic H.next a) {o:Oper} {out:Out} {H1:aa} (h:Nr P rec a H o=some (out,H1))
  {F:Fence} {n:Nat} {K:Act->World->Prop} {Q:Exit->Act->World->Prop} (hF:cZ F) (hR:RP P ρ H w (ρ.act a) o.dst out H1 K Q):o.wpIn F n P (ρ.act a) w K Q :=
 CO hrec r hs h (fun _ _=>rfl) hF hR
theorem yk (r:Rel P ρ H w) {a:ag} (hs:ic H.next a) {o:Oper} {d:Deferred} (h:px P a o.op=some d):(execOp (ρ.act a).eval o).run P w=.ok (.defer (ρ.rM d)) w/\Pg H.next d:=by
 obtain⟨dst,op,ty,after,gd,ps⟩:=o
 simp only at h
 unfold px at h
 split at h
 ·rename_i c
  split at h
  ·rename_i f hcal
   simp only[zA1,zA2]at h
   obtain⟨args,hargs,fv,hfv,h⟩:=h
   unfold FC at h
   split at h
   ·rename_i g first captured
    simp only[Option.some.injEq]at h
    subst h
    have hf:=cI r.glob.1 hs hfv
    simp only[aS,zA4]at hf
    refine⟨?_,.inr ⟨g,captured,_,rfl,hf.2,?_⟩⟩
    ·have h1:=aI r hfv
     have h2:=la r hargs
     obtain⟨callee,cargs,cty⟩:=c
     simp only at hcal h2
     subst hcal
     simp only[execOp,resolve,h1,Ren.val,Deferred.ofValue,Ren.fn,Sem.run_bind,Sem.run_pure,Result.andThen_ok,Ren.rM]
     congr 3
     rw[vU,vU,List.map_append]
     have h3:cargs.map (ρ.act a).eval=(args.map ρ.val).toArray:=by
      apply Array.ext'
      simpa using h2
     rw[h3]; simp
    ·obtain⟨fl⟩:=first
     rw[fb]at hf ⊢
     exact cB hf.1 (mS r.glob.1 hs hargs)
   ·cases h
  ·cases h
 ·cases h
theorem nQ {rec:Rec} (hrec:Sound P rec) {top:Bool} {ops:Array Oper} {F:Fence} {n:Nat} {Q:Exit->Act->World->Prop} (hF:cZ F) (htop:top=true->F.round=none) :
  ∀ (rest:List Oper) (k:Nat) (ρ:Ren) (H:aa) (w:World) (a:ag) (e:Exit) (a1:ag) (H1:aa),ops.toList.drop k=rest->jW P rec top ops rest a H=some (e,a1,H1)->Rel P ρ H w->ic H.next a ->
   (∀ ρ1 w1,St P ρ H w ρ1 H1 w1->ic H1.next a1->L8 H1.next e->Q (ρ1.exit e) (ρ1.act a1) w1)->wpOpsIn F n P ops Q (List.range' k rest.length) (ρ.act a) w
 |[],k,ρ,H,w,a,e,a1,H1,_,h,r,hs,hQ=>by
  simp only[jW,Option.some.injEq,Prod.mk.injEq]at h
  obtain⟨rfl,rfl,rfl⟩:=h
  exact hQ ρ w (St.refl r) hs trivial
 |o::rest,k,ρ,H,w,a,e,a1,H1,hd,h,r,hs,hQ=>by
  have hk:ops[k]?=some o:=by
   have:=congrArg (·[0]?) hd
   simpa using this
  have hd':ops.toList.drop (k+1)=rest:=by
   have:=congrArg List.tail hd
   simpa using this
  simp only[zB0,List.range'_succ,wpOpsIn,hk]
  simp only[jW]at h
  split at h
  ·rename_i hw
   rw[fY ρ hw,if_pos rfl]
   split at h
   ·rename_i v g hop
    refine Ht hrec r hs hop hF ?_
    intro ρ1 w1 hst hsc
    have hs1:ic g.next a:=hs.mono hst.le.next
    rw[<-fS hst.ext hs,jy]
    refine nQ hrec hF htop rest (k+1) ρ1 g w1 (a.put o.dst v) e a1 H1 hd' h hst.rel (hs1.put _ hsc) ?_
    intro ρ2 w2 hst2 h1 h2
    exact hQ ρ2 w2 (hst.trans hst2) h1 h2
   ·rename_i ch g hop
    simp only[Option.some.injEq,Prod.mk.injEq]at h
    obtain⟨rfl,rfl,rfl⟩:=h
    refine Ht hrec r hs hop hF ?_
    intro ρ1 w1 hst hsc
    have:=hQ ρ1 w1 hst (hs.mono hst.le.next) hsc
    rw[fS hst.ext hs]at this
    exact this
   ·split at h
    ·rename_i d hd1
     obtain⟨hrun,hsd⟩:=yk r hs hd1
     refine⟨fun f _=>hF.fn f,?_⟩
     rw[htop rfl,Oper.semAt_none,hrun]
     have hp:=jy ρ ⟨a.env,d::a.defers⟩ o.dst undef
     rw[Ren.val_undef]at hp
     have hs':ic H.next ⟨a.env,d::a.defers⟩:=⟨hs.1,fun d' hd'=>by
      rcases zA7.1 hd' with rfl|hd'
      ·exact hsd
      ·exact hs.2 d' hd'⟩
     have:=nQ (n:=n) (Q:=Q) hrec hF htop rest (k+1) ρ H w (ag.put ⟨a.env,d::a.defers⟩ o.dst undef) e a1 H1 hd' h r (hs'.put _ (eG _)) hQ
     rw[<-hp]at this
     exact this
    ·cases h
  ·rename_i hw
   rw[fY ρ hw]
   simp only[zC4,if_false]
   refine⟨fun f _=>hF.fn f,?_⟩
   have hp:=jy ρ a o.dst undef
   rw[Ren.val_undef]at hp
   rw[hp]
   exact nQ hrec hF htop rest (k+1) ρ H w (a.put o.dst undef) e a1 H1 hd' h r (hs.put _ (eG _)) hQ
  ·cases h
theorem qi (r:Rel P ρ H w) {ro:Option Nat} {a:ag} {ps:Array Tmp} {assign body:Code} {l:Nat} {mark:List Deferred} {H1:aa} (hro:∀ l,ro=some l->l<H.next) (hsc:∀ i,i<a.env.n->aS H.next (a.env.get i)=true)
  (h:enterLoop ro a ps assign body H=some (l,mark,H1)) (fn:FuncId) :
  ∃ ρ1 w1,St P ρ H w ρ1 H1 w1/\(Instr.enterLoop fn (ρ.act a).tmps ps assign body (ro.map ρ.blk)).run P w=.ok (ρ1.blk l,mark.map ρ1.rM) w1/\l<H1.next/\∀ d∈mark,Pg H1.next d:=by
 unfold enterLoop at h
 ·split at h
  ·simp only[Option.some.injEq,Prod.mk.injEq]at h
   obtain⟨rfl,rfl,rfl⟩:=h
   have s1:=St.new r ⟨.deferred (some []),false,⟨[],0⟩⟩ (.deferred (some [])) 0 0 (by simp[ki]) (by simp[Fits])
   have hn1:(H.new ⟨.deferred (some []),false,⟨[],0⟩⟩).next=H.next+1:=rfl
   have s2:=St.new s1.rel (lI a ps assign body H.next)
    (.loop {state:=.ready,pending:=none,fn:=fn,tmps:=ρ.tmps a.env,params:=ps,assign,body,defers:=w.heap.size}) 0 0
    (by
     simp only[lI,ki,hn1]
     exact⟨zD9 _,fun i hi=>cM (Nat.le_succ _) _ (hsc i hi)⟩)
    (by
     simp only[lI,Fits,hn1]
     refine⟨fn,?_⟩
     have e1:Ext H.next ρ ((ρ.at H.next w.heap.size 0 0).at (H.next+1) (w.alloc (.deferred (some []))).heap.size 0 0) :=
      (Ren.gN ρ H.next w.heap.size 0 0).trans (Ren.gN _ (H.next+1) _ 0 0) (Nat.le_succ _)
     rw[Ren.q9 e1 _ hsc,(Ren.gN (ρ.at H.next w.heap.size 0 0) (H.next+1) _ 0 0).blk _ (zD9 _),Ren.at_blk])
   refine⟨_,_,s1.trans s2,?_,zD9 _,fun d hd=>by simp at hd; subst hd; exact .inl ⟨_,rfl,by show H.next<H.next+1+1; omega⟩⟩
   have hb:((ρ.at H.next w.heap.size 0 0).at (H.next+1) (w.alloc (.deferred (some []))).heap.size 0 0).blk (H.next+1)=w.heap.size+1:=by rw[Ren.at_blk]; simp
   have hb2:((ρ.at H.next w.heap.size 0 0).at (H.next+1) (w.alloc (.deferred (some []))).heap.size 0 0).blk H.next=w.heap.size:=by
    rw[(Ren.gN (ρ.at H.next w.heap.size 0 0) (H.next+1) _ 0 0).blk _ (zD9 _),Ren.at_blk]
   simp only[Instr.enterLoop,Option.map_none,Sem.run_bind,run_newObj,Result.andThen_ok,Sem.run_pure,hn1,hb]
   simp only[zC0,zF4,Ren.rM,hb2]
   simp[Ren.act]
   rfl
  ·rename_i l0
   simp only[zA1,zA2]at h
   obtain⟨⟨lp,le⟩,hlp,h⟩:=h
   simp only at h
   split at h
   ·rename_i hd
    have hd:=bN hd
    simp only[Option.some.injEq,Prod.mk.injEq]at h
    obtain⟨rfl,rfl,rfl⟩:=h
    obtain⟨o,hg⟩:=uL hlp
    obtain⟨fn0,hw0,hgl⟩:=oD r hg
    have s2:=St.new r (lI a ps assign body lp.defers)
     (.loop {state:=.ready,pending:=none,fn:=fn,tmps:=ρ.tmps a.env,params:=ps,assign,body,defers:=ρ.blk lp.defers}) 0 0
     (by
      simp only[lI,ki]
      exact⟨hd,hsc⟩)
     (by
      simp only[lI,Fits]
      refine⟨fn,?_⟩
      rw[Ren.q9 (Ren.gN ρ H.next w.heap.size 0 0) _ hsc,(Ren.gN ρ H.next w.heap.size 0 0).blk _ hd])
    refine⟨_,_,s2,?_,zD9 _,fun d hd=>by cases hd⟩
    simp only[Instr.enterLoop,zA9,Sem.run_bind,hgl,run_newObj,Result.andThen_ok,Sem.run_pure,Ren.at_blk,zF4]
    simp[Ren.act]
   ·cases h
end
mutual
theorem fD {N:Nat}:∀ v,aS N v=true->∀ n∈ae v,n<N
 |.bool _,_,n,hn=>by simp[ae]at hn
 |.int _ _,_,n,hn=>by simp[ae]at hn
 |.float _ _,_,n,hn=>by simp[ae]at hn
 |.complex _ _ _,_,n,hn=>by simp[ae]at hn
 |.string _,_,n,hn=>by simp[ae]at hn
 |.pointer none,_,n,hn=>by simp[ae]at hn
 |.pointer (some a),h,n,hn=>by
  simp only[ae,zA5]at hn
  subst hn
  exact bN (by simpa[aS]using h)
 |.slice none _ _,_,n,hn=>by simp[ae]at hn
 |.slice (some a) _ _,h,n,hn=>by
  simp only[ae,zA5]at hn
  subst hn
  exact bN (by simpa[aS]using h)
 |.map none,_,n,hn=>by simp[ae]at hn
 |.map (some r),h,n,hn=>by
  simp only[ae,zA5]at hn
  subst hn
  exact bN (by simpa[aS]using h)
 |.chan none,_,n,hn=>by simp[ae]at hn
 |.chan (some r),h,n,hn=>by
  simp only[ae,zA5]at hn
  subst hn
  exact bN (by simpa[aS]using h)
 |.func f a b,h,n,hn=>by
  cases f with
  |yield l =>
   simp only[aS,zA4]at h
   simp only[ae,zA7,zB2]at hn
   rcases hn with rfl|hn|hn
   ·exact bN h.1.1
   ·exact iF a h.1.2 n hn
   ·exact iF b h.2 n hn
  |_ =>
   simp only[aS,zA4]at h
   simp only[ae,zB2]at hn
   rcases hn with hn|hn
   ·exact iF a h.1 n hn
   ·exact iF b h.2 n hn
 |.nilFunc,_,n,hn=>by simp[ae]at hn
 |.iface t v,h,n,hn=>fD v (by simpa[aS]using h) n (by simpa[ae]using hn)
 |.nilIface,_,n,hn=>by simp[ae]at hn
 |.agg cs,h,n,hn=>iF cs (by simpa[aS]using h) n (by simpa[ae]using hn)
 |.tuple cs,h,n,hn=>iF cs (by simpa[aS]using h) n (by simpa[ae]using hn)
theorem iF {N:Nat}:∀ c,fb N c=true->∀ n∈rf c,n<N
 |⟨l⟩,h,n,hn=>vi l (by simpa[fb]using h) n (by simpa[rf]using hn)
theorem vi {N:Nat}:∀ l,aO N l=true->∀ n∈gk l,n<N
 |[],_,n,hn=>by simp[gk]at hn
 |v::r,h,n,hn=>by
  simp only[aO,zA4]at h
  simp only[gk,zB2]at hn
  rcases hn with hn|hn
  ·exact fD v h.1 n hn
  ·exact vi r h.2 n hn
end
def my (ρ ρ':Ren) (n:Nat):Prop:=ρ'.blk n=ρ.blk n/\ρ'.sh n=ρ.sh n/\ρ'.ex n=ρ.ex n/\ρ'.op n=ρ.op n
mutual
theorem nD {ρ ρ':Ren}:∀ v,(∀ n∈ae v,my ρ ρ' n)->ρ'.val v=ρ.val v
 |.bool _,_=>by rw[Ren.val,Ren.val]
 |.int _ _,_=>by rw[Ren.val,Ren.val]
 |.float _ _,_=>by rw[Ren.val,Ren.val]
 |.complex _ _ _,_=>by rw[Ren.val,Ren.val]
 |.string _,_=>by rw[Ren.val,Ren.val]
 |.pointer none,_=>by rw[Ren.val,Ren.val]
 |.pointer (some a),h=>by
  obtain⟨h1,h2,h3,h4⟩:=h a.block (by simp[ae])
  simp only[Ren.val,h1,h2]
 |.slice none _ _,_=>by rw[Ren.val,Ren.val]
 |.slice (some a) _ _,h=>by
  obtain⟨h1,h2,h3,h4⟩:=h a.block (by simp[ae])
  simp only[Ren.val,Ren.nU,Ren.oP,Ren.zc,h1,h2,h3,h4]
 |.map none,_=>by rw[Ren.val,Ren.val]
 |.map (some r),h=>by
  obtain⟨h1,h2,h3,h4⟩:=h r (by simp[ae])
  simp only[Ren.val,h1]
 |.chan none,_=>by rw[Ren.val,Ren.val]
 |.chan (some r),h=>by
  obtain⟨h1,h2,h3,h4⟩:=h r (by simp[ae])
  simp only[Ren.val,h4]
 |.func f a b,h=>by
  cases f with
  |yield l =>
   simp only[ae,zA7,zB2]at h
   simp only[Ren.val,Ren.fn,(h l (.inl rfl)).1,mz a (fun n hn=>h n (.inr (.inl hn))),mz b (fun n hn=>h n (.inr (.inr hn)))]
  |_ =>
   simp only[ae,zB2]at h
   simp only[Ren.val,Ren.fn,mz a (fun n hn=>h n (.inl hn)),mz b (fun n hn=>h n (.inr hn))]
 |.nilFunc,_=>by rw[Ren.val,Ren.val]
 |.iface t v,h=>by rw[Ren.val,Ren.val,nD v (fun n hn=>h n (by simpa[ae]using hn))]
 |.nilIface,_=>by rw[Ren.val,Ren.val]
 |.agg cs,h=>by rw[Ren.val,Ren.val,mz cs (fun n hn=>h n (by simpa[ae]using hn))]
 |.tuple cs,h=>by rw[Ren.val,Ren.val,mz cs (fun n hn=>h n (by simpa[ae]using hn))]
theorem mz {ρ ρ':Ren}:∀ c,(∀ n∈rf c,my ρ ρ' n)->ρ'.ez c=ρ.ez c
 |⟨l⟩,h=>by rw[Ren.ez,Ren.ez,Dj l (fun n hn=>h n (by simpa[rf]using hn))]
theorem Dj {ρ ρ':Ren}:∀ l,(∀ n∈gk l,my ρ ρ' n)->ρ'.gM l=ρ.gM l
 |[],_=>rfl
 |v::r,h=>by
  simp only[gk,zB2]at h
  rw[Ren.gM,Ren.gM,nD v (fun n hn=>h n (.inl hn)),Dj r (fun n hn=>h n (.inr hn))]
end
theorem ED {l:List Value} {v:Value} (h:v∈l) {n:Nat} (hn:n∈ae v):n∈gk l:=by
 induction l with
 |nil=>cases h
 |cons x r ih =>
  simp only[gk,zB2]
  rcases zA7.1 h with rfl|h
  ·exact .inl hn
  ·exact .inr (ih h)
theorem uz {l:List Value} {n:Nat} (hn:n∈gk l):∃ v∈l,n∈ae v:=by
 induction l with
 |nil=>simp[gk]at hn
 |cons x r ih =>
  simp only[gk,zB2]at hn
  rcases hn with hn|hn
  ·exact⟨x,zE5 ..,hn⟩
  ·obtain⟨v,hv,h⟩:=ih hn; exact⟨v,zC7 _ hv,h⟩
theorem EH {v:RV} {i:Nat} (h:i<v.n):v.get i∈v.jK 0 v.n:=by
 rw[RV.gA]
 exact zB5.2 ⟨i,zG0.2 h,by simp⟩
theorem um {v:RV} {x:Value} (h:x∈v.jK 0 v.n):∃ i,i<v.n/\x=v.get i:=by
 rw[RV.gA]at h
 obtain⟨i,hi,rfl⟩:=zB5.1 h
 exact⟨i,zG0.1 hi,by simp⟩
theorem OQ {k:Value} (h:o7 k=true):ae k=[]:=by cases k<;>simp_all [o7,ae]
theorem qD {N:Nat} {o:dw} (h:ki N o):∀ n∈pZ o,n<N:=by
 obtain⟨ob,op,v⟩:=o
 intro n hn
 cases ob with
 |cells c e f =>
  simp only[ki]at h
  simp only[pZ]at hn
  obtain⟨x,hx,hnx⟩:=uz hn
  obtain⟨i,hi,rfl⟩:=um hx
  exact fD _ (h i hi) n hnx
 |map es clock =>
  simp only[ki]at h
  simp only[pZ,zE2]at hn
  obtain⟨e,he,hn⟩:=hn
  have:=h e (by simpa using he)
  rw[OQ this.1,zC1]at hn
  exact fD _ this.2 n hn
 |loop r =>
  simp only[ki]at h
  simp only[pZ,zA7]at hn
  rcases hn with rfl|hn
  ·exact h.1
  ·obtain⟨x,hx,hnx⟩:=uz hn
   obtain⟨i,hi,rfl⟩:=um hx
   exact fD _ (h.2 i hi) n hnx
 |_=>simp[pZ]at hn
theorem Fits.agree {P:Program} {ρ ρ':Ren} {n:Nat} {o:dw} {o':Obj} (h:Fits P ρ n o o') (hn:my ρ ρ' n) (hi:∀ k∈pZ o,my ρ ρ' k):Fits P ρ' n o o':=by
 obtain⟨ob,op,v⟩:=o
 cases ob with
 |cells c0 t f0 =>
  simp only[Fits]at h ⊢
  obtain⟨c,fz,h1,h2,h3,h4⟩:=h
  refine⟨c,fz,h1,fun i hi'=>?_,?_,?_⟩
  ·rw[hn.2.1,h2 i hi',nD _ (fun k hk=>hi k (by simp only[pZ]; exact ED (EH hi') hk))]
  ·rw[hn.2.1,hn.2.2.1]; exact h3
  ·rw[hn.2.1,hn.2.2.1]; exact h4
 |map es clock =>
  simp only[Fits]at h ⊢
  rw[h]
  congr 1
  apply Array.map_congr_left
  intro x hx
  simp only[Ren.entry]
  rw[nD _ (fun k hk=>hi k (by simp only[pZ,zE2]; exact⟨x,by simpa using hx,List.mem_append_right _ hk⟩))]
 |loop r =>
  simp only[Fits]at h ⊢
  obtain⟨fn,h⟩:=h
  refine⟨fn,?_⟩
  have ht:ρ'.tmps v=ρ.tmps v:=by
   unfold Ren.tmps
   congr 1
   funext i
   exact nD _ (fun k hk=>hi k (by simp only[pZ,zA7]; exact .inr (ED (EH i.2) hk)))
  rw[h,ht,(hi r.defers (by simp[pZ])).1]
 |stringIter s p=>exact⟨h.1,by rw[hn.2.1]; exact h.2⟩
 |deferred ds =>
  cases ds with
  |none=>exact h
  |some l=>cases l<;>exact h
 |_=>exact h
theorem wI {n:Nat} {l:List Nat}:D2 n l=true ↔ n∈l:=by
 induction l with
 |nil=>simp[D2]
 |cons m r ih =>
  rw[D2,Bool.or_eq_true,ih,zA7]
  constructor
  ·rintro (h|h)
   ·exact .inl (Nat.eq_of_beq_eq_true h).symm
   ·exact .inr h
  ·rintro (h|h)
   ·exact .inl (by rw[h]; exact Nat.beq_refl m)
   ·exact .inr h
theorem HK (H:aa):∀ (F:List Nat) (g:aa) (n:Nat),(aa.lay g H F).get n=if n∈F then H.get n else g.get n
 |[],g,n=>by simp[aa.lay]
 |m::r,g,n=>by
  rw[aa.lay,HK H r,aa.pE]
  by_cases h1:n∈r
  ·simp[h1]
  ·by_cases h2:n=m
   ·subst h2; simp
   ·simp[h1,h2]
theorem ow (N n:Nat):(aa.none N).get n=none:=by simp[aa.none,aa.get]
theorem aU (H:aa) (F:List Nat) (n:Nat):(H.restrict F).get n=if n∈F then H.get n else none:=by
 rw[aa.restrict,HK,ow]
theorem DI (H:aa):∀ (F:List Nat) (g:aa),(aa.lay g H F).next=g.next/\(aa.lay g H F).base=g.base/\(aa.lay g H F).dirty=g.dirty
 |[],g=>⟨rfl,rfl,rfl⟩
 |m::r,g=>DI H r (g.put m (H.get m))
theorem aL (H:aa) (F:List Nat):(H.restrict F).next=H.next/\(H.restrict F).base=H.next/\(H.restrict F).dirty=[]:=DI H F _
theorem wL (g:aa):∀ (W:List Nat) (H:aa) (n:Nat),(aa.ey H g W).get n=if n∈W then g.get n else H.get n
 |[],H,n=>by simp[aa.ey]
 |m::r,H,n=>by
  rw[aa.ey,wL g r,aa.eY]
  by_cases h1:n∈r
  ·simp[h1]
  ·by_cases h2:n=m
   ·subst h2; simp
   ·simp[h1,h2]
theorem uX (g:aa):∀ (W:List Nat) (H:aa),(aa.ey H g W).next=H.next/\(aa.ey H g W).base=H.base/\(∀ n,n∈H.dirty->n∈(aa.ey H g W).dirty)/\(∀ n∈W,n<H.base->n∈(aa.ey H g W).dirty)
 |[],H=>⟨rfl,rfl,fun _ h=>h,fun _ h=>by cases h⟩
 |m::r,H=>by
  obtain⟨h1,h2,h3,h4⟩:=uX g r (H.cE m (g.get m))
  refine⟨h1,h2,fun n hn=>h3 n ?_,fun n hn hb=>?_⟩
  ·simp only[aa.et]; split
   ·exact zC7 _ hn
   ·exact hn
  ·rcases zA7.1 hn with rfl|hn
   ·exact h3 n (by simp[aa.et,a8 hb])
   ·exact h4 n hn hb
theorem xU (g:aa):∀ (k n0:Nat) (H:aa) (n:Nat),(aa.cJ H g n0 k).get n=if n0<=n/\n<n0+k then g.get n else H.get n
 |0,n0,H,n=>by rw[aa.cJ,if_neg (by omega)]
 |k+1,n0,H,n=>by
  rw[aa.cJ,xU g k (n0+1),aa.pE]
  by_cases h1:n0+1<=n/\n<n0+1+k
  ·rw[if_pos h1,if_pos (by omega)]
  ·rw[if_neg h1]
   by_cases h2:n=n0
   ·subst h2; rw[if_pos rfl,if_pos (by omega)]
   ·rw[if_neg h2,if_neg (by omega)]
theorem lx (g:aa):∀ (k n0:Nat) (H:aa),(aa.cJ H g n0 k).base=H.base/\(aa.cJ H g n0 k).dirty=H.dirty
 |0,n0,H=>⟨rfl,rfl⟩
 |k+1,n0,H=>lx g k (n0+1) (H.put n0 (g.get n0))
def G8 (H g:aa) (n:Nat):Prop:=n∈g.dirty\/(H.next<=n/\n<g.next)
instance (H g:aa) (n:Nat):Decidable (G8 H g n):=by unfold G8; exact inferInstance
theorem sU (H g:aa) (hle:H.next<=g.next) (n:Nat):(H.merge g).get n=if G8 H g n then g.get n else H.get n:=by
 have h:(H.merge g).get n=(aa.cJ (aa.ey H g g.dirty) g H.next (g.next-H.next)).get n:=rfl
 rw[h,xU,wL]
 by_cases h1:H.next<=n/\n<g.next
 ·have hw:G8 H g n:=Or.inr h1
  rw[if_pos (by omega),if_pos hw]
 ·rw[if_neg (by omega)]
  by_cases h2:n∈g.dirty
  ·have hw:G8 H g n:=Or.inl h2
   rw[if_pos h2,if_pos hw]
  ·have hw:¬G8 H g n:=fun h=>h.elim h2 h1
   rw[if_neg h2,if_neg hw]
theorem jT (H g:aa):(H.merge g).next=g.next/\(H.merge g).base=H.base/\(∀ n,n∈H.dirty->n∈(H.merge g).dirty)/\(∀ n∈g.dirty,n<H.base->n∈(H.merge g).dirty):=by
 obtain⟨h1,h2,h3,h4⟩:=uX g g.dirty H
 obtain⟨k1,k2⟩:=lx g (g.next-H.next) H.next (aa.ey H g g.dirty)
 refine⟨rfl,k1.trans h2,fun n hn=>?_,fun n hn hb=>?_⟩
 ·show n∈(aa.cJ (aa.ey H g g.dirty) g H.next (g.next-H.next)).dirty
  rw[k2]; exact h3 n hn
 ·show n∈(aa.cJ (aa.ey H g g.dirty) g H.next (g.next-H.next)).dirty
  rw[k2]; exact h4 n hn hb
theorem rq (g:aa):∀ (l:List Nat) (H:aa) (n:Nat),n∈(aa.ey H g l).dirty->n∈H.dirty\/n∈l
 |[],H,n,h=>.inl h
 |m::l,H,n,h=>by
  rcases rq g l _ n h with h|h
  ·simp only[aa.et]at h
   split at h
   ·rcases zA7.1 h with h|h
    ·exact .inr (by simp[h])
    ·exact .inl h
   ·exact .inl h
  ·exact .inr (by simp[h])
theorem Ej (H g:aa) {n:Nat} (h:n∈(H.merge g).dirty):n∈H.dirty\/n∈g.dirty:=by
 have h:n∈(aa.cJ (aa.ey H g g.dirty) g H.next (g.next-H.next)).dirty:=h
 rw[(lx g (g.next-H.next) H.next (aa.ey H g g.dirty)).2]at h
 exact rq g _ _ _ h
theorem ky (H g:aa) (hle:H.next<=g.next) {n:Nat} (h:G8 H g n):(H.merge g).get n=g.get n:=by rw[sU H g hle,if_pos h]
theorem fM (H g:aa) (hle:H.next<=g.next) {n:Nat} (h:¬G8 H g n):(H.merge g).get n=H.get n:=by rw[sU H g hle,if_neg h]
section
variable {P : Program} {ρ : Ren} {H : aa} {w : World}
theorem rl (r:Rel P ρ H w) (F:List Nat):Rel P ρ (H.restrict F) w:=by
 obtain⟨h1,h2,h3⟩:=aL H F
 have hg:∀ n o,(H.restrict F).get n=some o->H.get n=some o:=fun n o h=>by
  rw[aU]at h
  split at h
  ·exact h
  ·cases h
 have hg':∀ n,(H.restrict F).get n≠none->H.get n≠none:=fun n h=>by
  cases e:(H.restrict F).get n with
  |none=>exact absurd e h
  |some o=>exact bD (hg n o e)
 have hge:∀ n,(H.restrict F).get n≠none->(H.restrict F).get n=H.get n:=fun n h=>by
  rw[aU]at h ⊢
  split at h
  ·rename_i hn; rw[if_pos hn]
  ·exact absurd rfl h
 refine⟨by rw[h1,h2]; exact zA8 _,by rw[h1]; exact r.glob,fun m n hm hn he=>(r.inj m n (hg' m hm) (hg' n hn) he).imp id fun⟨a,b⟩=>⟨by rw[hge m hm]; exact a,by rw[hge n hn]; exact b⟩,fun n o ho=>?_,fun n o ho=>r.obj n o (hg n o ho)⟩
 rw[h1]; exact r.dom n o (hg n o ho)
theorem LR (r:Rel P ρ H w) {F:List Nat} {ρ1:Ren} {g:aa} {w1:World} (hF:∀ n∈F,H.get n≠none) (s:St P ρ (H.restrict F) w ρ1 g w1) (hd:∀ n∈g.dirty,n∈F) :
  St P ρ H w ρ1 (H.merge g) w1:=by
 obtain⟨k1,k2,k3⟩:=aL H F
 have hle:H.next<=g.next:=by have:=s.le.next; rw[k1]at this; exact this
 obtain⟨m1,m2,m3,m4⟩:=jT H g
 have hLin:∀ n,n∈F->(H.restrict F).get n=H.get n:=fun n hn=>by rw[aU,if_pos hn]
 have hLout:∀ n,n∉F->(H.restrict F).get n=none:=fun n hn=>by rw[aU,if_neg hn]
 -- of a block that was not written: it lies in the part unturned, or outside
 have hkeep:∀ n,n∈F->¬G8 H g n->g.get n=H.get n:=fun n hn hw=>by
  rw[<-hLin n hn]
  exact s.le.keep n (by rw[k2]; exact r.lt (hF n hn)) (fun h=>hw (.inl h))
 have hro:∀ n∈F,Fz (H.get n)->n∉g.dirty/\g.get n=H.get n:=fun n hn h=>by
  obtain⟨a,b⟩:=s.ro n (by rw[hLin n hn]; exact h)
  rw[k3]at a
  exact⟨fun h=>(by cases a h),by rw[b,hLin n hn]⟩
 have hext:Ext H.next ρ ρ1:=by have:=s.ext; rw[k1]at this; exact this
 -- where a block of the merged heap comes from
 have hfrom:∀ n o,(H.merge g).get n=some o->(g.get n=some o/\(n∈F\/H.next<=n))\/(n∉F/\n<H.next/\H.get n=some o):=by
  intro n o ho
  by_cases hw:G8 H g n
  ·rw[ky H g hle hw]at ho
   refine .inl ⟨ho,?_⟩
   rcases hw with h|h
   ·exact .inl (hd n h)
   ·exact .inr h.1
  ·rw[fM H g hle hw]at ho
   by_cases hf:n∈F
   ·exact .inl ⟨by rw[hkeep n hf hw]; exact ho,.inl hf⟩
   ·exact .inr ⟨hf,(r.dom n o ho).1,ho⟩
 have hout:∀ n,n∉F->H.get n≠none->w1.heap[ρ.blk n]?=w.heap[ρ.blk n]?:=fun n hf hn=>by
  refine s.fX _ (r.tU hn) fun m hm hdm hgm=>?_
  rw[k1]at hm
  have hmF:m∈F:=by
   rcases Classical.em (m∈F) with h|h
   ·exact h
   ·exact absurd (hLout m h) hgm
  have hmd:m∈g.dirty:=hdm.elim (fun h=>by rw[k2]at h; omega) id
  exact fun e=>(r.inj m n (hF m hmF) hn e).elim (fun e=>hf (e▸hmF)) fun h=>(hro m hmF h.1).1 hmd
 refine⟨hext,⟨by rw[m1]; exact hle,m2,m3,fun n hb hn=>?_,fun n hn h0=>?_⟩,⟨?_,?_,?_,?_,?_⟩,s.os,s.tape,s.output,s.size,?_,?_,fun n hz=>?_⟩
 ·refine fM H g hle (fun hw=>?_)
  rcases hw with h|h
  ·exact hn (m4 n h hb)
  ·have:=r.base; omega
 ·by_cases hw:G8 H g n
  ·rw[ky H g hle hw]
   rcases hw with h|h
   ·exact absurd h0 (hF n (hd n h))
   ·omega
  ·rw[fM H g hle hw]; exact h0
 ·rw[m1,m2]; exact zC3 r.base hle
 ·rw[m1]; exact⟨zC3 r.glob.1 hle,s.rel.glob.2⟩
 ·-- one to one
  intro a b ha hb he
  obtain⟨oa,hoa⟩:∃ o,(H.merge g).get a=some o:=Option.ne_none_iff_exists'.1 ha
  obtain⟨ob,hob⟩:∃ o,(H.merge g).get b=some o:=Option.ne_none_iff_exists'.1 hb
  have cross:∀ x y ox oy,g.get x=some ox->(x∈F\/H.next<=x)->y∉F->y<H.next->H.get y=some oy->ρ1.blk x=ρ1.blk y->Fz (g.get x)/\Fz (H.get y):=by
   intro x y ox oy hx hxF hy hyn hoy he
   rw[hext.blk y hyn]at he
   rcases zC2 x H.next with hlt|hge
   ·have hxF:x∈F:=hxF.elim id (fun h=>by omega)
    rw[hext.blk x hlt]at he
    rcases r.inj x y (hF x hxF) (bD hoy) he with e|⟨e1,e2⟩
    ·exact absurd (e▸hxF) hy
    ·exact⟨by rw[(hro x hxF e1).2]; exact e1,e2⟩
   ·rcases s.fresh x (by rw[k1]; exact hge) (bD hx) with h|⟨m,hm1,hm2,hm3,hm4⟩
    ·have:=r.tU (bD hoy); omega
    ·rw[hm4]at he
     have hmF:m∈F:=by
      rcases Classical.em (m∈F) with h|h
      ·exact h
      ·exact absurd (hLout m h) hm2
     have hmd:m∈g.dirty:=hm3.elim (fun h=>by rw[k2]at h; rw[k1]at hm1; omega) id
     exact (r.inj m y (hF m hmF) (bD hoy) he).elim (fun e=>absurd (e▸hmF) hy) fun h=>absurd hmd (hro m hmF h.1).1
  rcases hfrom a oa hoa with⟨h1,h2⟩|⟨h1,h2,h3⟩<;>rcases hfrom b ob hob with⟨j1,j2⟩|⟨j1,j2,j3⟩
  ·rw[hoa,hob,<-h1,<-j1]; exact s.rel.inj a b (bD h1) (bD j1) he
  ·rw[hoa,hob,<-h1,<-j3]; exact .inr (cross a b oa ob h1 h2 j1 j2 j3 he)
  ·rw[hoa,hob,<-h3,<-j1]; exact .inr (cross b a ob oa j1 j2 h1 h2 h3 he.symm).symm
  ·rw[hext.blk a h2,hext.blk b j2]at he
   rw[hoa,hob,<-h3,<-j3]; exact r.inj a b (bD h3) (bD j3) he
 ·intro n o ho
  rw[m1]
  rcases hfrom n o ho with⟨h1,_⟩|⟨_,h2,h3⟩
  ·exact s.rel.dom n o h1
  ·exact⟨zD5 h2 hle,(r.dom n o h3).2.mono hle⟩
 ·intro n o ho
  rcases hfrom n o ho with⟨h1,_⟩|⟨h1,h2,h3⟩
  ·exact s.rel.obj n o h1
  ·obtain⟨o',hw,hf⟩:=r.obj n o h3
   have hdm:=r.dom n o h3
   refine⟨o',?_,hf.ext hdm.1 hdm.2 hext⟩
   rw[hext.blk n h2,hout n h1 (bD h3)]; exact hw
 ·intro b hb hc
  refine s.fX b hb fun m hm hdm hgm=>?_
  rw[k1]at hm
  have hmF:m∈F:=by
   rcases Classical.em (m∈F) with h|h
   ·exact h
   ·exact absurd (hLout m h) hgm
  rcases hdm with h|h
  ·rw[k2]at h; omega
  ·refine hc m hm ?_ (hF m hmF)
   rcases zC2 m H.base with hb'|hb'
   ·exact .inr (m4 m h hb')
   ·exact .inl hb'
 ·intro n hn hgn
  obtain⟨o,ho⟩:∃ o,(H.merge g).get n=some o:=Option.ne_none_iff_exists'.1 hgn
  rcases hfrom n o ho with⟨h1,_⟩|⟨_,h2,_⟩
  ·rcases s.fresh n (by rw[k1]; exact hn) (bD h1) with h|⟨m,hm1,hm2,hm3,hm4⟩
   ·exact .inl h
   ·rw[k1]at hm1
    have hmF:m∈F:=by
     rcases Classical.em (m∈F) with h|h
     ·exact h
     ·exact absurd (hLout m h) hm2
    refine .inr ⟨m,hm1,hF m hmF,?_,hm4⟩
    rcases hm3 with h|h
    ·rw[k2]at h; omega
    ·rcases zC2 m H.base with hb'|hb'
     ·exact .inr (m4 m h hb')
     ·exact .inl hb'
  ·omega
 ·have hnd:n∉g.dirty:=fun h=>(hro n (hd n h) hz).1 h
  have hw:¬G8 H g n:=fun h=>h.elim hnd fun h=>absurd (r.lt hz.ne) (by omega)
  exact⟨fun h=>(Ej H g h).resolve_right hnd,fM H g hle hw⟩
end
structure tN where
 on:Bool
 v:Value
 F:List Nat
 g:aa
 bad:Bool
def j5 (P:Program) (ops:Array Oper) (D:Nat->tN) (A:Nat->ag) (HH:Nat->aa) (i:Nat):Prop :=
 ∃ o,ops[i]?=some o/\A (i+1)=(A i).put o.dst (D i).v/\((D i).bad=false->cw ops (A i) o=some (D i).on) /\
  ((D i).on=true->ET P (A i) ((HH i).restrict (D i).F) o (.ok (D i).v) (D i).g/\(∀ n∈(D i).F,(HH i).get n≠none)/\(∀ n∈(D i).g.dirty,n∈(D i).F)/\HH (i+1)=(HH i).merge (D i).g) /\
  ((D i).on=false->(D i).v=undef/\HH (i+1)=HH i)
def pW (D:Nat->tN) (HH:Nat->aa) (i:Nat):Fp:=⟨i,(D i).F,(D i).g.dirty,(HH i).next,(D i).g.next⟩
def cN (anc:List Nat) (D:Nat->tN) (HH:Nat->aa) (j:Nat) (r:Fp):Prop :=
 (D j).on=true->tC (anc.getD j 0) (D j).F (D j).v (D j).g (HH j).next r=true
theorem nN {P:Program} {rec:Rec} (hrec:Sound P rec) {ops:Array Oper} {anc:List Nat}:∀ (rest:List Oper) (k:Nat) (fps:List Fp) (a:ag) (H:aa) (a1:ag) (H1:aa),
  (∃ tl,ops.toList.drop k=rest++tl)->km P rec ops anc rest k fps a H=some (a1,H1) ->
  ∃ (D:Nat->tN) (A:Nat->ag) (HH:Nat->aa),A k=a/\HH k=H/\A (k+rest.length)=a1/\HH (k+rest.length)=H1 /\
   (∀ i,k<=i->i<k+rest.length->j5 P ops D A HH i) /\
   (∀ i j,k<=i->i<j->j<k+rest.length->(D i).on=true->cN anc D HH j (pW D HH i)) /\
   (∀ r∈fps,∀ j,k<=j->j<k+rest.length->cN anc D HH j r)/\(∀ i,(D i).bad=false)
 |[],k,fps,a,H,a1,H1,_,h=>by
  simp only[km,Option.some.injEq,Prod.mk.injEq]at h
  obtain⟨rfl,rfl⟩:=h
  refine⟨fun _=>⟨false,undef,[],H,false⟩,fun _=>a,fun _=>H,rfl,rfl,rfl,rfl,?_,?_,?_,fun _=>rfl⟩
  ·intro i h1 h2; simp at h2; omega
  ·intro i j h1 h2 h3; simp at h3; omega
  ·intro r _ j h1 h2; simp at h2; omega
 |o::rest,k,fps,a,H,a1,H1,hd,h=>by
  obtain⟨tl,hd⟩:=hd
  have hk:ops[k]?=some o:=by
   have:=congrArg (·[0]?) hd
   simpa using this
  have hd':∃ tl,ops.toList.drop (k+1)=rest++tl:=⟨tl,by
   have:=congrArg List.tail hd
   simpa using this⟩
  -- the operation's own record laid before those of the rest
  have build:∀ (d:tN) (fps':List Fp) (H2:aa),(∀ r∈fps,r∈fps')->km P rec ops anc rest (k+1) fps' (a.put o.dst d.v) H2=some (a1,H1) ->
    cw ops a o=some d.on->d.bad=false ->
    (d.on=true->ET P a (H.restrict d.F) o (.ok d.v) d.g/\(∀ n∈d.F,H.get n≠none)/\(∀ n∈d.g.dirty,n∈d.F)/\H2=H.merge d.g/\(⟨k,d.F,d.g.dirty,H.next,d.g.next⟩:Fp)∈fps' /\
     ∀ r∈fps,tC (anc.getD k 0) d.F d.v d.g H.next r=true) ->
    (d.on=false->d.v=undef/\H2=H) ->
    ∃ (D:Nat->tN) (A:Nat->ag) (HH:Nat->aa),A k=a/\HH k=H/\A (k+(o::rest).length)=a1/\HH (k+(o::rest).length)=H1 /\
     (∀ i,k<=i->i<k+(o::rest).length->j5 P ops D A HH i) /\
     (∀ i j,k<=i->i<j->j<k+(o::rest).length->(D i).on=true->cN anc D HH j (pW D HH i)) /\
     (∀ r∈fps,∀ j,k<=j->j<k+(o::rest).length->cN anc D HH j r)/\(∀ i,(D i).bad=false):=by
   intro d fps' H2 hsub hrun hwant hbad hon hoff
   obtain⟨D,A,HH,e1,e2,e3,e4,f1,f2,f3,f4⟩:=nN hrec rest (k+1) fps' _ H2 a1 H1 hd' hrun
   have hlen:k+(o::rest).length=k+1+rest.length:=by simp only[zB0]; omega
   have cR:∀ {i},k+1<=i->¬i=k:=fun h=>by omega
   refine⟨fun i=>if i=k then d else D i,fun i=>if i=k then a else A i,fun i=>if i=k then H else HH i,by simp,by simp,?_,?_,?_,?_,?_,fun i=>by by_cases e:i=k<;>simp[e,hbad,f4]⟩
   ·rw[hlen]; show (if k+1+rest.length=k then a else A (k+1+rest.length))=a1
    rw[if_neg (by omega)]; exact e3
   ·rw[hlen]; show (if k+1+rest.length=k then H else HH (k+1+rest.length))=H1
    rw[if_neg (by omega)]; exact e4
   ·intro i h1 h2
    rw[hlen]at h2
    by_cases e:i=k
    ·subst e
     refine⟨o,hk,?_,?_,?_,?_⟩
     ·simp only[if_pos,if_neg (show ¬i+1=i by omega)]; rw[e1]
     ·simp only[if_pos]; exact fun _=>hwant
     ·simp only[if_pos,if_neg (show ¬i+1=i by omega)]
      intro h; obtain⟨x1,x2,x3,x4,_⟩:=hon h
      exact⟨x1,x2,x3,by rw[e2]; exact x4⟩
     ·simp only[if_pos,if_neg (show ¬i+1=i by omega)]
      intro h; obtain⟨x1,x2⟩:=hoff h
      exact⟨x1,by rw[e2]; exact x2⟩
    ·obtain⟨o',y1,y2,y3,y4,y5⟩:=f1 i (by omega) h2
     refine⟨o',y1,?_,?_,?_,?_⟩
     ·simp only[if_neg e,if_neg (show ¬i+1=k by omega)]; exact y2
     ·simp only[if_neg e]; exact y3
     ·simp only[if_neg e,if_neg (show ¬i+1=k by omega)]; exact y4
     ·simp only[if_neg e,if_neg (show ¬i+1=k by omega)]; exact y5
   ·intro i j h1 h2 h3 h4
    rw[hlen]at h3
    have hj:¬j=k:=by omega
    by_cases e:i=k
    ·subst e
     simp only[if_pos]at h4
     obtain⟨_,_,_,_,x5,_⟩:=hon h4
     have:=f3 _ x5 j (by omega) h3
     simp only[cN,pW,if_neg hj,if_pos]at this ⊢
     exact this
    ·simp only[if_neg e]at h4
     have:=f2 i j (by omega) h2 h3 h4
     simp only[cN,pW,if_neg hj,if_neg e]at this ⊢
     exact this
   ·intro r hr j h1 h2
    rw[hlen]at h2
    by_cases e:j=k
    ·subst e
     simp only[cN,if_pos]
     intro h
     exact (hon h).2.2.2.2.2 r hr
    ·have:=f3 r (hsub r hr) j (by omega) h2
     simp only[cN,if_neg e]at this ⊢
     exact this
  simp only[km]at h
  split at h
  ·rename_i hw
   split at h
   ·rename_i v g hop
    split at h
    ·rename_i hc
     simp only[zA4,zC6]at hc
     obtain⟨⟨c1,c2⟩,c3⟩:=hc
     refine build ⟨true,v,y6 P o.op a H,g,false⟩ _ _ (fun r hr=>zC7 _ hr) h hw rfl (fun _=>⟨GF hrec hop,fun n hn=>?_,fun n hn=>wI.1 (c2 n hn),rfl,zE5 ..,c3⟩) (fun h=>by cases h)
     have:=c1 n hn
     intro e
     rw[e]at this
     cases this
    ·cases h
   ·cases h
  ·rename_i hw
   exact build ⟨false,undef,[],H,false⟩ fps H (fun r hr=>hr) h hw rfl (fun h=>by cases h) (fun _=>⟨rfl,rfl⟩)
  ·cases h
section
variable {P : Program} {ρ : Ren} {H : aa} {w : World}
theorem Gz:cZ Fence.wide:=⟨fun _=>trivial,rfl,rfl⟩
theorem Fv {n:Nat} {a:Act} {o:Oper} {φ:Prop} (h:o.wpIn Fence.wide n P a w (fun _ _=>φ) (fun _ _ _=>φ)):φ:=by
 obtain⟨_,h⟩:=h
 generalize (o.semAt Fence.wide.round a.eval).run P w=res at h
 cases res with
 |ok x w' =>
  cases x with
  |value v=>exact h
  |skip=>exact h
  |defer d=>exact h
  |enter f args =>
   obtain⟨_,_,hc⟩:=h
   obtain⟨e,w1,fr,hR,_⟩:=hc [] (room_wide _)
   cases e with
   |returned v=>exact hR
   |panicked c=>exact hR
   |outgrown=>obtain⟨_,_,h⟩:=hR; exact h
  |row r args =>
   obtain⟨_,hc⟩:=h
   obtain⟨v,w1,hR,_⟩:=hc default [] (room_wide _)
   exact hR
  |round l f tmps assign body =>
   obtain⟨_,_,hc⟩:=h
   obtain⟨e,w1,hR,_⟩:=hc default [] (room_wide _)
   cases e with
   |returned v=>exact hR
   |panicked c=>exact hR
   |outgrown=>obtain⟨_,_,h⟩:=hR; exact h
  |_=>exact h.elim
 |halt x w' =>
  cases x with
  |panic v=>exact h
  |_=>exact h.elim
theorem L5 (r:Rel P ρ H w) {a:ag} (hs:ic H.next a) {o:Oper} {v:Value} {g:aa} (h:ET P a H o (.ok v) g) :
  ∃ ρ1 w1,St P ρ H w ρ1 g w1/\aS g.next v=true:=by
 refine Fv (P:=P) (w:=w) (n:=0) (o:=o) (a:=ρ.act a) (h ρ w r hs _ (fun _ _=>rfl) _ _ _ _ Gz ?_)
 intro ρ1 w1 hst hsc
 exact⟨ρ1,w1,hst,hsc⟩
theorem vR (r:Rel P ρ H w) {ops:Array Oper} {D:Nat->tN} {A:Nat->ag} {HH:Nat->aa} {m:Nat} (h0:HH 0=H) (hs:ic H.next (A 0))
  (hf:∀ i,i<m->j5 P ops D A HH i):∀ i,i<=m->∃ ρi wi,St P ρ H w ρi (HH i) wi/\ic (HH i).next (A i):=by
 intro i
 induction i with
 |zero=>intro _; exact⟨ρ,w,by rw[h0]; exact St.refl r,by rw[h0]; exact hs⟩
 |succ i ih =>
  intro hi
  obtain⟨ρi,wi,hst,hsa⟩:=ih (by omega)
  obtain⟨o,h1,h2,h3,h4,h5⟩:=hf i (by omega)
  cases hon:(D i).on with
  |true =>
   obtain⟨x1,x2,x3,x4⟩:=h4 hon
   obtain⟨ρ1,w1,hst1,hsc⟩:=L5 (rl hst.rel (D i).F) (by rw[(aL _ _).1]; exact hsa) x1
   have hm:=LR hst.rel x2 hst1 x3
   have hn:((HH i).merge (D i).g).next=(D i).g.next:=(jT _ _).1
   refine⟨ρ1,w1,by rw[x4]; exact hst.trans hm,?_⟩
   rw[x4,hn,h2]
   refine (hsa.mono ?_).put _ hsc
   have:=hm.le.next
   rw[hn]at this
   exact this
  |false =>
   obtain⟨x1,x2⟩:=h5 hon
   refine⟨ρi,wi,by rw[x2]; exact hst,?_⟩
   rw[x2,h2,x1]
   exact hsa.put _ (eG _)
end
theorem ql {acc:List Nat} {k:Nat}:∀ (es:List Edge) (s:Nat),(pb acc es s).testBit k=true->s.testBit k=true\/∃ e∈es,Region.binds .any e=true/\(k=e.on\/(acc.getD e.on 0).testBit k=true)
 |[],s,h=>.inl h
 |e::es,s,h=>by
  rcases ql es _ h with h|⟨e',he,hb,hk⟩
  ·split at h
   ·rename_i hb
    rw[Nat.testBit_or,Nat.testBit_or,Bool.or_eq_true,Bool.or_eq_true]at h
    rcases h with (h|h)|h
    ·exact .inl h
    ·refine .inr ⟨e,zE5 ..,hb,.inl ?_⟩
     rw[Nat.testBit_shiftLeft,zA4]at h
     have h1:e.on<=k:=by simpa using h.1
     have h2:k-e.on=0:=by
      have:=h.2
      rcases Nat.eq_zero_or_pos (k-e.on) with h0|h0
      ·exact h0
      ·obtain⟨j,hj⟩:∃ j,k-e.on=j+1:=⟨k-e.on-1,by omega⟩
       rw[hj,Nat.testBit_succ]at this
       simp at this
     omega
    ·exact .inr ⟨e,zE5 ..,hb,.inr h⟩
   ·exact .inl h
  ·exact .inr ⟨e',zC7 _ he,hb,hk⟩
theorem qb:∀ (l:List Oper) (acc:List Nat),(∀ j,j<acc.length->(jC l acc).getD j 0=acc.getD j 0)/\(jC l acc).length=acc.length+l.length /\
  ∀ i o,l[i]?=some o->∃ acc',(jC l acc).getD (acc.length+i) 0=pb acc' o.after.toList 0/\∀ j,(acc'.getD j 0)≠0->acc'.getD j 0=(jC l acc).getD j 0
 |[],acc=>⟨fun _ _=>rfl,by simp[jC],fun i o h=>by simp at h⟩
 |o::l,acc=>by
  obtain⟨h1,h2,h3⟩:=qb l (acc++[pb acc o.after.toList 0])
  simp only[jC]
  refine⟨fun j hj=>?_,?_,fun i o' ho=>?_⟩
  ·rw[h1 j (by simp; omega),List.getD,List.getD,List.getElem?_append_left hj]
  ·rw[h2]; simp; omega
  ·cases i with
   |zero =>
    simp only[zF5,Option.some.injEq]at ho
    subst ho
    refine⟨acc,?_,fun j hj=>?_⟩
    ·rw[zE1,h1 acc.length (by simp),List.getD,List.getElem?_append_right (zA8 _)]; simp
    ·have hlt:j<acc.length:=by
      rcases zC2 j acc.length with h|h
      ·exact h
      ·exact absurd (by simp[List.getD,zC5 h]) hj
     rw[h1 j (by simp; omega),List.getD,List.getD,List.getElem?_append_left hlt]
   |succ i =>
    simp only[zG4]at ho
    obtain⟨acc',g1,g2⟩:=h3 i o' ho
    refine⟨acc',?_,g2⟩
    rw[<-g1]
    congr 1
    simp; omega
theorem Ag {ops:Array Oper} {j k:Nat} {o:Oper} (ho:ops[j]?=some o) (h:((gS ops).getD j 0).testBit k=true) :
  ∃ e∈o.after,Region.binds .any e=true/\(k=e.on\/((gS ops).getD e.on 0).testBit k=true):=by
 obtain⟨_,_,h3⟩:=qb ops.toList []
 obtain⟨acc',g1,g2⟩:=h3 j o (by simpa using ho)
 simp only[zB6,zB8]at g1
 unfold gS at h ⊢
 rw[g1]at h
 rcases ql _ _ h with h|⟨e,he,hb,hk⟩
 ·simp at h
 ·refine⟨e,by simpa using he,hb,hk.imp id (fun hk=>?_)⟩
  rw[<-g2 e.on (fun h0=>by rw[h0]at hk; simp at hk)]; exact hk
theorem kq {t:Nat}:∀ (l:List Nat),(uZ l).testBit t=true ↔ t∈l
 |[]=>by simp[uZ]
 |u::l=>by
  rw[uZ,Nat.testBit_or,Bool.or_eq_true,kq l,zA7]
  refine or_congr ?_ Iff.rfl
  rw[Nat.testBit_shiftLeft,zA4]
  constructor
  ·rintro⟨h1,h2⟩
   have h1:u<=t:=by simpa using h1
   rcases Nat.eq_zero_or_pos (t-u) with h0|h0
   ·omega
   ·obtain⟨k,hk⟩:∃ k,t-u=k+1:=⟨t-u-1,by omega⟩
    rw[hk,Nat.testBit_succ]at h2
    simp at h2
  ·rintro rfl
   simp
theorem and_zero {x y:Nat} (h:Nat.beq (x &&& y) 0=true) {t:Nat} (hx:x.testBit t=true):y.testBit t=false:=by
 have h0:=Nat.eq_of_beq_eq_true h
 have:=Nat.testBit_and x y t
 rw[h0,hx,Nat.zero_testBit]at this
 simpa using this.symm
theorem Cb {ops:Array Oper} {x y:Oper} (h:A7 (rK ops x) (rK ops y)=true):x.apart ops y=true:=by
 simp only[A7,rK,zA4]at h
 obtain⟨h1,h2⟩:=h
 have a1:∀ d,x.dst=some d->d∉y.looksAt ops/\y.dst≠some d:=by
  intro d hd
  have hb:(uZ x.dst.toList).testBit d=true:=(kq _).2 (by simp[hd])
  have:=and_zero h1 hb
  rw[Nat.testBit_or,Bool.or_eq_false_iff]at this
  refine⟨fun hm=>?_,fun hm=>?_⟩
  ·rw[(kq _).2 hm]at this; cases this.1
  ·rw[(kq (t:=d) y.dst.toList).2 (by simp[hm])]at this; cases this.2
 have a2:∀ d,y.dst=some d->d∉x.looksAt ops:=by
  intro d hd hm
  have hb:(uZ y.dst.toList).testBit d=true:=(kq _).2 (by simp[hd])
  have:=and_zero h2 hb
  rw[(kq _).2 hm]at this; cases this
 unfold Oper.apart
 rw[zA4]
 constructor
 ·cases hd:x.dst with
  |none=>rfl
  |some d =>
   obtain⟨h3,h4⟩:=a1 d hd
   simp only[zA4,Bool.not_eq_true',bne_iff_ne,ne_eq]
   exact⟨by simpa using h3,h4⟩
 ·cases hd:y.dst with
  |none=>rfl
  |some d=>simpa using a2 d hd
theorem tL (ops:Array Oper):∀ (l:List Oper) (i:Nat),(Go.Ax.uO ops l)[i]?=(l[i]?).map (rK ops)
 |[],i=>by simp[Go.Ax.uO]
 |o::l,0=>by simp[Go.Ax.uO]
 |o::l,i+1=>by simp only[Go.Ax.uO,zG4]; exact tL ops l i
theorem ra {j:Nat}:∀ (l:List Edge),vS j l=true->∀ e∈l,Region.binds .any e=true->e.on<j
 |[],_,e,he,_=>by cases he
 |x::l,h,e,he,hb=>by
  simp only[vS,zA4]at h
  rcases zA7.1 he with rfl|he
  ·have:=h.1
   rw[hb]at this
   simp only[zE0,Bool.false_or]at this
   exact bN this
  ·exact ra l h.2 e he hb
theorem jI {ops:Array Oper} {anc:List Nat}:∀ (l:List Oper) (k:Nat),ops.toList.drop k=l->nk (Go.Ax.uO ops ops.toList) anc l k=true ->
  ∀ j oj,k<=j->ops[j]?=some oj->(∀ i oi,i<j->ops[i]?=some oi->(anc.getD j 0).testBit i=true\/oi.apart ops oj=true)/\∀ e∈oj.after,Region.binds .any e=true->e.on<j
 |[],k,hd,_,j,oj,hj,ho=>by
  have:ops.size<=k:=by
   have:=congrArg List.length hd
   simp at this
   omega
  have hlt:j<ops.size:=by
   rcases zC2 j ops.size with h|h
   ·exact h
   ·simp[Array.getElem?_eq_none h]at ho
  omega
 |o::l,k,hd,h,j,oj,hj,ho=>by
  have hk:ops[k]?=some o:=by
   have:=congrArg (·[0]?) hd
   simpa using this
  have hd':ops.toList.drop (k+1)=l:=by
   have:=congrArg List.tail hd
   simpa using this
  simp only[nk,zA4]at h
  obtain⟨⟨h1,h2⟩,h3⟩:=h
  by_cases e:j=k
  ·subst e
   rw[hk]at ho
   cases ho
   have hmj:(Go.Ax.uO ops ops.toList).getD j ⟨0,0⟩=rK ops o:=by
    rw[List.getD,tL]; simp[hk]
   rw[hmj]at h1
   refine⟨fun i oi hi hoi=>?_,fun e he hb=>ra _ h2 e (by simpa using he) hb⟩
   have key:∀ (l:List Mask) (b i:Nat) (m:Mask),v7 (rK ops o) (anc.getD j 0) l b=true->l[i]?=some m->(anc.getD j 0).testBit (b+i)=true\/A7 m (rK ops o)=true:=by
    intro l
    induction l with
    |nil=>intro b i m _ h; simp at h
    |cons x l ih =>
     intro b i m hp hx
     simp only[v7,zA4,Bool.or_eq_true]at hp
     cases i with
     |zero=>simp at hx; subst hx; exact hp.1
     |succ i =>
      have:=ih (b+1) i m hp.2 (by simpa using hx)
      rw[show b+(i+1)=b+1+i from by omega]; exact this
   have:=key _ 0 i (rK ops oi) h1 (by rw[List.getElem?_take_of_lt hi,tL]; simp[hoi])
   rw[zB8]at this
   exact this.imp id Cb
  ·exact jI l (k+1) hd' h3 j oj (by omega) ho
def qX (D:Nat->tN) (HH:Nat->aa) (i n:Nat):Prop:=(D i).on=true/\G8 (HH i) (D i).g n
instance (D:Nat->tN) (HH:Nat->aa) (i n:Nat):Decidable (qX D HH i n):=by unfold qX; exact inferInstance
def hx (D:Nat->tN) (HH:Nat->aa) (X:Nat->Bool):Nat->Nat->Option dw
 |0,n=>(HH 0).get n
 |k+1,n=>if X k=true/\qX D HH k n then (D k).g.get n else hx D HH X k n
def gI (ops:Array Oper) (k:Nat):Option Tmp:=(ops[k]?).bind (·.dst)
def ax (ops:Array Oper) (D:Nat->tN) (a:ag) (X:Nat->Bool):Nat->ag
 |0=>a
 |k+1=>if X k=true then (ax ops D a X k).put (gI ops k) (D k).v else ax ops D a X k
theorem Mp (a:ag) (d:Option Tmp) (v:Value):(a.put d v).env.n=a.env.n/\(a.put d v).defers=a.defers:=by
 cases d with
 |none=>exact⟨rfl,rfl⟩
 |some d=>simp only[ag.put_eq]; split<;>exact⟨rfl,rfl⟩
theorem kl (a:ag) (d:Option Tmp) (v:Value) (t:Nat) (ht:t<a.env.n):(a.put d v).env.get t=if d=some t then v else a.env.get t:=by
 cases d with
 |none=>simp[ag.put_eq]
 |some d =>
  simp only[ag.put_eq]
  by_cases h:d<a.env.n
  ·rw[if_pos (a8 h)]
   simp only[RV.ri,Option.some.injEq]
   by_cases e:t=d
   ·subst e; simp
   ·rw[if_neg e,if_neg (fun h=>e h.symm)]
  ·rw[if_neg (by rw[mL h]; simp)]
   rw[if_neg (fun e=>h (by cases e; exact ht))]
section
variable {ops : Array Oper} {D : Nat -> tN} {HH : Nat -> aa} {a : ag}
theorem mT {X Y:Nat->Bool} {n:Nat}:∀ k,(∀ j,j<k->qX D HH j n->X j=Y j)->hx D HH X k n=hx D HH Y k n
 |0,_=>rfl
 |k+1,h=>by
  rw[hx,hx,mT k (fun j hj=>h j (by omega))]
  by_cases hw:qX D HH k n
  ·rw[h k (zD9 _) hw]
  ·simp[hw]
theorem Hy {i n:Nat}:∀ k,i<=k->hx D HH (fun j=>decide (j<i)) k n=hx D HH (fun _=>true) i n
 |0,h=>by
  have:i=0:=by omega
  subst this; rfl
 |k+1,h=>by
  by_cases e:i=k+1
  ·subst e
   exact mT (k+1) (fun j hj _=>by simp[hj])
  ·rw[hx,if_neg (by simp; omega)]
   exact Hy k (by omega)
theorem zm {X X':Nat->Bool} {i n:Nat} (hi:X i=false) (hi':X' i=true) (hX:∀ j,j≠i->X' j=X j):∀ k,i<k->(∀ j,i<j->j<k->qX D HH j n->qX D HH i n->X j=false) ->
  hx D HH X' k n=if qX D HH i n then (D i).g.get n else hx D HH X k n
 |0,h,_=>by omega
 |k+1,h,hc=>by
  by_cases e:k=i
  ·subst e
   rw[hx,hx,mT (X:=X') (Y:=X) k (fun j hj _=>hX j (by omega))]
   by_cases hw:qX D HH k n
   ·rw[if_pos ⟨hi',hw⟩,if_pos hw]
   ·rw[if_neg (fun h=>hw h.2),if_neg hw,if_neg (fun h=>hw h.2)]
  ·rw[hx,hx,zm hi hi' hX k (by omega) (fun j h1 h2=>hc j h1 (by omega)),hX k e]
   by_cases hk:X k=true/\qX D HH k n
   ·rw[if_pos hk,if_pos hk]
    by_cases hw:qX D HH i n
    ·have:=hc k (by omega) (zD9 _) hk.2 hw
     rw[hk.1]at this; cases this
    ·rw[if_neg hw]
   ·rw[if_neg hk,if_neg hk]
theorem p6 {X:Nat->Bool}:∀ k,(ax ops D a X k).env.n=a.env.n/\(ax ops D a X k).defers=a.defers
 |0=>⟨rfl,rfl⟩
 |k+1=>by
  rw[ax]
  split
  ·obtain⟨h1,h2⟩:=Mp (ax ops D a X k) (gI ops k) (D k).v
   obtain⟨h3,h4⟩:=p6 (X:=X) k
   exact⟨h1.trans h3,h2.trans h4⟩
  ·exact p6 k
theorem kS {X Y:Nat->Bool} {t:Nat} (ht:t<a.env.n):∀ k,(∀ j,j<k->gI ops j=some t->X j=Y j)->(ax ops D a X k).env.get t=(ax ops D a Y k).env.get t
 |0,_=>rfl
 |k+1,h=>by
  have ih:=kS ht k (fun j hj=>h j (by omega))
  have hn1:=(p6 (ops:=ops) (D:=D) (a:=a) (X:=X) k).1
  have hn2:=(p6 (ops:=ops) (D:=D) (a:=a) (X:=Y) k).1
  rw[ax,ax]
  by_cases hd:gI ops k=some t
  ·rw[h k (zD9 _) hd]
   split
   ·rw[kl _ _ _ _ (by rw[hn1]; exact ht),kl _ _ _ _ (by rw[hn2]; exact ht),if_pos hd,if_pos hd]
   ·exact ih
  ·have e1:(if X k=true then (ax ops D a X k).put (gI ops k) (D k).v else ax ops D a X k).env.get t=(ax ops D a X k).env.get t:=by
    split
    ·rw[kl _ _ _ _ (by rw[hn1]; exact ht),if_neg hd]
    ·rfl
   have e2:(if Y k=true then (ax ops D a Y k).put (gI ops k) (D k).v else ax ops D a Y k).env.get t=(ax ops D a Y k).env.get t:=by
    split
    ·rw[kl _ _ _ _ (by rw[hn2]; exact ht),if_neg hd]
    ·rfl
   rw[e1,e2,ih]
theorem vH {i t:Nat} (ht:t<a.env.n):∀ k,i<=k->(ax ops D a (fun j=>decide (j<i)) k).env.get t=(ax ops D a (fun _=>true) i).env.get t
 |0,h=>by
  have:i=0:=by omega
  subst this; rfl
 |k+1,h=>by
  by_cases e:i=k+1
  ·subst e
   exact kS ht (k+1) (fun j hj _=>by simp[hj])
  ·rw[ax,if_neg (by simp; omega)]
   exact vH ht k (by omega)
theorem tP {X X':Nat->Bool} {i t:Nat} (ht:t<a.env.n) (hi:X i=false) (hi':X' i=true) (hX:∀ j,j≠i->X' j=X j):∀ k,i<k->(∀ j,i<j->j<k->gI ops j=some t->gI ops i=some t->X j=false) ->
  (ax ops D a X' k).env.get t=if gI ops i=some t then (D i).v else (ax ops D a X k).env.get t
 |0,h,_=>by omega
 |k+1,h,hc=>by
  have hn1:=(p6 (ops:=ops) (D:=D) (a:=a) (X:=X) k).1
  have hn2:=(p6 (ops:=ops) (D:=D) (a:=a) (X:=X') k).1
  by_cases e:k=i
  ·subst e
   have hcong:=kS (ops:=ops) (D:=D) (X:=X') (Y:=X) ht k (fun j hj _=>hX j (by omega))
   rw[ax,ax,if_pos hi',if_neg (show ¬X k=true by rw[hi]; simp),kl _ _ _ _ (by rw[hn2]; exact ht),hcong]
  ·have ih:=tP ht hi hi' hX k (by omega) (fun j h1 h2=>hc j h1 (by omega))
   rw[ax,ax,hX k e]
   by_cases hk:X k=true
   ·rw[if_pos hk,if_pos hk,kl _ _ _ _ (by rw[hn2]; exact ht),kl _ _ _ _ (by rw[hn1]; exact ht),ih]
    by_cases hd:gI ops k=some t
    ·rw[if_pos hd,if_pos hd]
     by_cases hdi:gI ops i=some t
     ·have:=hc k (by omega) (zD9 _) hd hdi
      rw[hk]at this; cases this
     ·rw[if_neg hdi]
    ·rw[if_neg hd,if_neg hd]
   ·rw[if_neg hk,if_neg hk]; exact ih
end
theorem QQ (ρ ρ1:Ren) (p:Prop) [Decidable p] (n:Nat):RR (if p then ρ1.op n else ρ.op n)=true:=by
 split
 ·exact ρ1.op1 n
 ·exact ρ.op1 n
def Ren.mix (ρ ρ1:Ren) (lo hi:Nat):Ren :=
 ⟨fun n=>if lo<=n/\n<hi then ρ1.blk n else ρ.blk n,fun n=>if lo<=n/\n<hi then ρ1.sh n else ρ.sh n,fun n=>if lo<=n/\n<hi then ρ1.ex n else ρ.ex n,fun n=>if lo<=n/\n<hi then ρ1.op n else ρ.op n,fun n=>(QQ ρ ρ1 _ n)⟩
theorem Oo (ρ ρ1:Ren) {lo hi n:Nat} (h:¬(lo<=n/\n<hi)):my ρ (ρ.mix ρ1 lo hi) n:=by simp only[my,Ren.mix,if_neg h,and_self]
theorem PJ (ρ ρ1:Ren) {lo hi n:Nat} (he:Ext lo ρ ρ1) (h:n<hi):my ρ1 (ρ.mix ρ1 lo hi) n:=by
 by_cases h1:lo<=n
 ·simp only[my,Ren.mix,if_pos (zA0 h1 h),and_self]
 ·have:¬(lo<=n/\n<hi):=fun h=>h1 h.1
  simp only[my,Ren.mix,if_neg this,he.blk n (by omega),he.sh n (by omega),he.ex n (by omega),he.op n (by omega),and_self]
theorem Is (p q:Nat->Bool):∀ (l:List Nat),(∀ j∈l,q j=true->p j=true)->∀ i∈l,p i=true->q i=false->(l.filter q).length<(l.filter p).length
 |[],_,i,hi,_,_=>by cases hi
 |x::l,h,i,hi,hp,hq=>by
  have hle:∀ l:List Nat,(∀ j∈l,q j=true->p j=true)->(l.filter q).length<=(l.filter p).length:=by
   intro l
   induction l with
   |nil=>intro _; simp
   |cons y l ih =>
    intro h
    have:=ih (fun j hj=>h j (zC7 _ hj))
    by_cases hy:q y=true
    ·have hpy:=h y (zE5 ..) hy
     simp[hy,hpy,this]
    ·by_cases hpy:p y=true
     ·simp[hy,hpy]; omega
     ·simp[hy,hpy]; omega
  rcases zA7.1 hi with rfl|hi
  ·have:=hle l (fun j hj=>h j (zC7 _ hj))
   simp only[List.filter_cons,hp,hq,if_true,zC4,if_false,zB0]
   omega
  ·have ih:=Is p q l (fun j hj=>h j (zC7 _ hj)) i hi hp hq
   by_cases hy:q x=true
   ·have hpy:=h x (zE5 ..) hy
    simp[hy,hpy,ih]
   ·by_cases hpy:p x=true
    ·simp[hy,hpy]; omega
    ·simp[hy,hpy]; omega
theorem zz {a b:List Nat} (h:Od a b=true) {n:Nat} (hn:n∈a):n∉b:=fun hb=>by
 have:=zC6.1 h n hn
 rw[wI.2 hb]at this
 cases this
theorem uv {lo hi:Nat} {l:List Nat} (h:B6 lo hi l=true) {n:Nat} (hn:n∈l):n<lo\/hi<=n:=by
 have:=zC6.1 h n hn
 simp only[Bool.or_eq_true]at this
 exact this.imp bN iq
theorem pK {anc:Nat} {F:List Nat} {v:Value} {g:aa} {next:Nat} {r:Fp} (h:tC anc F v g next r=true) (ha:anc.testBit r.i=false) :
  (∀ n∈r.W,n∉F)/\(∀ n∈r.F,n∉g.dirty)/\(r.lo<r.hi->(∀ n∈F,n<r.lo\/r.hi<=n)/\∀ n∈fZ v g next,n<r.lo\/r.hi<=n):=by
 simp only[tC,ha,Bool.false_or,zA4]at h
 obtain⟨⟨h1,h2⟩,h3⟩:=h
 refine⟨fun n hn=>zz h1 hn,fun n hn=>zz h2 hn,fun hlt=>?_⟩
 simp only[Bool.or_eq_true,zA4]at h3
 rcases h3 with h3|h3
 ·have:=iq h3; omega
 ·exact⟨fun n hn=>uv h3.1 hn,fun n hn=>uv h3.2 hn⟩
theorem qf {n:Nat}:∀ (k a:Nat),a<=n->n<a+k->n∈da a k
 |0,a,h1,h2=>by omega
 |k+1,a,h1,h2=>by
  rw[da,zA7]
  by_cases e:n=a
  ·exact .inl e
  ·exact .inr (qf k (a+1) (by omega) (by omega))
structure kL (P:Program) (ops:Array Oper) (D:Nat->tN) (A:Nat->ag) (HH:Nat->aa) (ρ0:Ren) (w0:World):Prop where
 rel:Rel P ρ0 (HH 0) w0
 sc:ic (HH 0).next (A 0)
 fact:∀ i,i<ops.size->j5 P ops D A HH i
 pair:∀ i j,i<j->j<ops.size->(D i).on=true->cN (gS ops) D HH j (pW D HH i)
 stat:∀ j oj,ops[j]?=some oj->(∀ i oi,i<j->ops[i]?=some oi->((gS ops).getD j 0).testBit i=true\/oi.apart ops oj=true)/\∀ e∈oj.after,Region.binds .any e=true->e.on<j
 ex:∀ i,i<=ops.size->∃ ρi wi,St P ρ0 (HH 0) w0 ρi (HH i) wi/\ic (HH i).next (A i)
section
variable {P : Program} {ops : Array Oper} {D : Nat -> tN} {A : Nat -> ag} {HH : Nat -> aa} {ρ0 : Ren} {w0 : World}
structure Loc (P:Program) (D:Nat->tN) (HH:Nat->aa) (i:Nat):Prop where
 F:∀ n∈(D i).F,(HH i).get n≠none
 W:∀ n∈(D i).g.dirty,n∈(D i).F
 merge:HH (i+1)=(HH i).merge (D i).g
 le:(HH i).next<=(D i).g.next
 lt:∀ n,(HH i).get n≠none->n<(HH i).next
 dom:∀ n o,(D i).g.get n=some o->n<(D i).g.next/\ki (D i).g.next o
 domH:∀ n o,(HH i).get n=some o->n<(HH i).next/\ki (HH i).next o
 keep:∀ n,n∈(D i).F->n∉(D i).g.dirty->(D i).g.get n=(HH i).get n
 gone:∀ n,n<(HH i).next->n∉(D i).F->(D i).g.get n=none
 v:aS (D i).g.next (D i).v=true
 glob:P.globals.size<=(HH i).next
theorem kL.loc (T:kL P ops D A HH ρ0 w0) {i:Nat} (hi:i<ops.size) (hon:(D i).on=true):Loc P D HH i:=by
 obtain⟨o,h1,h2,h3,h4,_⟩:=T.fact i hi
 obtain⟨x1,x2,x3,x4⟩:=h4 hon
 obtain⟨ρi,wi,hst,hsa⟩:=T.ex i (by omega)
 obtain⟨ρ1,w1,s,hsc⟩:=L5 (rl hst.rel (D i).F) (by rw[(aL _ _).1]; exact hsa) x1
 obtain⟨k1,k2,k3⟩:=aL (HH i) (D i).F
 refine⟨x2,x3,x4,by have:=s.le.next; rw[k1]at this; exact this,fun n hn=>hst.rel.lt hn,s.rel.dom,hst.rel.dom,fun n hn hd=>?_,fun n hn hf=>?_,hsc,hst.rel.glob.1⟩
 ·rw[s.le.keep n (by rw[k2]; exact hst.rel.lt (x2 n hn)) hd,aU,if_pos hn]
 ·exact s.le.gone n (by rw[k1]; exact hn) (by rw[aU,if_neg hf])
theorem kL.step (T:kL P ops D A HH ρ0 w0) {i:Nat} (hi:i<ops.size) :
  (HH i).next<=(HH (i+1)).next/\((D i).on=true->(HH (i+1)).next=(D i).g.next)/\((D i).on=false->HH (i+1)=HH i)/\(HH (i+1)).base=(HH i).base/\(∀ n,n∈(HH i).dirty->n∈(HH (i+1)).dirty) /\
   ((D i).on=true->∀ n∈(D i).g.dirty,n<(HH i).base->n∈(HH (i+1)).dirty):=by
 obtain⟨o,h1,h2,h3,h4,h5⟩:=T.fact i hi
 cases hon:(D i).on with
 |true =>
  have L:=T.loc hi hon
  obtain⟨m1,m2,m3,m4⟩:=jT (HH i) (D i).g
  rw[L.merge]
  exact⟨by rw[m1]; exact L.le,fun _=>m1,(fun h=>by cases h),m2,m3,fun _=>m4⟩
 |false =>
  obtain⟨x1,x2⟩:=h5 hon
  rw[x2]
  exact⟨zA8 _,(fun h=>by cases h),fun _=>rfl,rfl,fun _ h=>h,(fun h=>by cases h)⟩
theorem kL.mono (T:kL P ops D A HH ρ0 w0) {i:Nat}:∀ {j:Nat},i<=j->j<=ops.size->(HH i).next<=(HH j).next/\(HH j).base=(HH i).base/\∀ n,n∈(HH i).dirty->n∈(HH j).dirty
 |0,h,_=>by
  have:i=0:=by omega
  subst this; exact⟨zA8 _,rfl,fun _ h=>h⟩
 |j+1,h,hj=>by
  by_cases e:i=j+1
  ·subst e; exact⟨zA8 _,rfl,fun _ h=>h⟩
  ·obtain⟨h1,h2,h3⟩:=kL.mono T (i:=i) (j:=j) (by omega) (by omega)
   obtain⟨s1,_,_,s4,s5,_⟩:=T.step (i:=j) (by omega)
   exact⟨zC3 h1 s1,s4.trans h2,fun n hn=>s5 n (h3 n hn)⟩
theorem kL.Gi (T:kL P ops D A HH ρ0 w0) {n:Nat}:∀ k,k<=ops.size->hx D HH (fun _=>true) k n=(HH k).get n
 |0,_=>rfl
 |k+1,hk=>by
  rw[hx,kL.Gi T k (by omega)]
  cases hon:(D k).on with
  |true =>
   have L:=T.loc (i:=k) (by omega) hon
   rw[L.merge,sU _ _ L.le]
   by_cases hw:G8 (HH k) (D k).g n
   ·rw[if_pos ⟨rfl,hon,hw⟩,if_pos hw]
   ·rw[if_neg (fun h=>hw h.2.2),if_neg hw]
  |false =>
   rw[if_neg (fun h=>by have:=h.2.1; rw[hon]at this; cases this),(T.step (i:=k) (by omega)).2.2.1 hon]
theorem kL.te (T:kL P ops D A HH ρ0 w0):∀ k,k<=ops.size->ax ops D (A 0) (fun _=>true) k=A k
 |0,_=>rfl
 |k+1,hk=>by
  obtain⟨o,h1,h2,_⟩:=T.fact k (by omega)
  rw[ax,if_pos rfl,kL.te T k (by omega),h2,gI,h1]
  rfl
theorem kL.GS (T:kL P ops D A HH ρ0 w0) {k:Nat} (hk:k<=ops.size):(A k).env.n=(A 0).env.n/\(A k).defers=(A 0).defers:=by
 rw[<-T.te k hk]; exact p6 k
def xC (ops:Array Oper) (X:Nat->Bool):Prop:=∀ j oj,ops[j]?=some oj->X j=true->∀ e∈oj.after,Region.binds .any e=true->X e.on=true
theorem kL.anc (T:kL P ops D A HH ρ0 w0) {X:Nat->Bool} (hc:xC ops X) {k:Nat}:∀ (j:Nat),j<ops.size->X j=true->((gS ops).getD j 0).testBit k=true->X k=true:=by
 intro j
 induction j using Nat.strongRecOn with
 |_ j ih =>
  intro hj hX h
  obtain⟨oj,hoj⟩:∃ o,ops[j]?=some o:=⟨ops[j],by simp[hj]⟩
  obtain⟨e,he,hb,hk⟩:=Ag hoj h
  have hlt:=(T.stat j oj hoj).2 e he hb
  have hXe:=hc j oj hoj hX e he hb
  rcases hk with rfl|hk
  ·exact hXe
  ·exact ih e.on hlt (by omega) hXe hk
theorem kL.mc (T:kL P ops D A HH ρ0 w0) {X:Nat->Bool} (hc:xC ops X) {i k:Nat} {o:Oper} (ho:ops[i]?=some o) (hr:∀ e∈o.after,Region.binds .any e=true->X e.on=true) (hi:i<ops.size)
  (h:((gS ops).getD i 0).testBit k=true):X k=true:=by
 obtain⟨e,he,hb,hk⟩:=Ag ho h
 have hlt:=(T.stat i o ho).2 e he hb
 rcases hk with rfl|hk
 ·exact hr e he hb
 ·exact T.anc hc e.on (by omega) (hr e he hb) hk
def qe (ops:Array Oper) (HH:Nat->aa) (X:Nat->Bool) (n:Nat):Prop:=n<(HH 0).next\/∃ k,k<ops.size/\X k=true/\(HH k).next<=n/\n<(HH (k+1)).next
theorem kL.part (T:kL P ops D A HH ρ0 w0) {n:Nat}:∀ k,k<=ops.size->n<(HH k).next->n<(HH 0).next\/∃ j,j<k/\(HH j).next<=n/\n<(HH (j+1)).next
 |0,_,h=>.inl h
 |k+1,hk,h=>by
  rcases zC2 n (HH k).next with h1|h1
  ·rcases kL.part T k (by omega) h1 with h2|⟨j,h2,h3⟩
   ·exact .inl h2
   ·exact .inr ⟨j,by omega,h3⟩
  ·exact .inr ⟨k,zD9 _,h1,h⟩
structure ec (ops:Array Oper) (X X':Nat->Bool) (i:Nat) (o:Oper):Prop where
 lt:i<ops.size
 at_:ops[i]?=some o
 not:X i=false
 now:X' i=true
 rest:∀ j,j≠i->X' j=X j
 edges:∀ e∈o.after,Region.binds .any e=true->X e.on=true
 closed:xC ops X
theorem ec.after (T:kL P ops D A HH ρ0 w0) {X X':Nat->Bool} {i:Nat} {o:Oper} (r:ec ops X X' i o) {j:Nat} (hj:j<ops.size) (hX:X j=true):((gS ops).getD j 0).testBit i=false:=by
 cases h:((gS ops).getD j 0).testBit i with
 |false=>rfl
 |true =>
  have:=T.anc r.closed j hj hX h
  rw[r.not]at this; cases this
theorem ec.y6 (T:kL P ops D A HH ρ0 w0) {X X':Nat->Bool} {i:Nat} {o:Oper} (r:ec ops X X' i o) (hon:(D i).on=true) {n:Nat} (hn:n∈(D i).F) {j:Nat} (hj:j<ops.size) (hw:qX D HH j n) :
  X j=decide (j<i):=by
 have L:=T.loc r.lt hon
 obtain⟨hj1,hw⟩:=hw
 rcases Nat.lt_trichotomy j i with h|h|h
 ·rw[decide_eq_true h]
  cases ha:((gS ops).getD i 0).testBit j with
  |true=>exact T.mc r.closed r.at_ r.edges r.lt ha
  |false =>
   obtain⟨p1,p2,p3⟩:=pK (T.pair j i h r.lt hj1 hon) ha
   rcases hw with hw|hw
   ·exact absurd hn (p1 n hw)
   ·have:=(p3 (by show (HH j).next<(D j).g.next; omega)).1 n hn
    simp only[pW]at this
    omega
 ·subst h; rw[r.not]; simp
 ·rw[decide_eq_false (by omega)]
  cases hX:X j with
  |false=>rfl
  |true =>
   obtain⟨p1,p2,p3⟩:=pK (T.pair i j h hj hon hj1) (r.after T hj hX)
   rcases hw with hw|hw
   ·exact absurd hw (p2 n hn)
   ·have h1:=L.lt n (L.F n hn)
    have h2:=(T.mono (i:=i) (j:=j) (by omega) (by omega)).1
    omega
theorem ec.ins (T:kL P ops D A HH ρ0 w0) {X X':Nat->Bool} {i:Nat} {o:Oper} (r:ec ops X X' i o) {n j:Nat} (hij:i<j) (hj:j<ops.size) (hw:qX D HH j n) (hwi:qX D HH i n):X j=false:=by
 obtain⟨hj1,hw⟩:=hw
 obtain⟨hon,hwi⟩:=hwi
 have L:=T.loc r.lt hon
 have Lj:=T.loc hj hj1
 have hm:=(T.mono (i:=i+1) (j:=j) (by omega) (by omega)).1
 have hs:=(T.step r.lt).2.1 hon
 cases hX:X j with
 |false=>rfl
 |true =>
  obtain⟨p1,p2,p3⟩:=pK (T.pair i j hij hj hon hj1) (r.after T hj hX)
  rcases hwi with hwi|hwi<;>rcases hw with hw|hw
  ·exact absurd (Lj.W n hw) (p1 n hwi)
  ·have:=L.lt n (L.F n (L.W n hwi)); have:=L.le; omega
  ·have:=(p3 (by show (HH i).next<(D i).g.next; omega)).1 n (Lj.W n hw)
   simp only[pW]at this
   omega
  ·omega
theorem ec.looks (T:kL P ops D A HH ρ0 w0) {X X':Nat->Bool} {i:Nat} {o:Oper} (r:ec ops X X' i o) {t:Nat} (ht:t∈o.looksAt ops) {j:Nat} (hj:j<ops.size) (hd:gI ops j=some t):X j=decide (j<i):=by
 obtain⟨oj,hoj⟩:∃ o,ops[j]?=some o:=⟨ops[j],by simp[hj]⟩
 have hdj:oj.dst=some t:=by simpa[gI,hoj]using hd
 rcases Nat.lt_trichotomy j i with h|h|h
 ·rw[decide_eq_true h]
  rcases (T.stat i o r.at_).1 j oj h hoj with ha|ha
  ·exact T.mc r.closed r.at_ r.edges r.lt ha
  ·exact absurd ht ((Oper.apart_spec ha).1 t hdj)
 ·subst h; rw[r.not]; simp
 ·rw[decide_eq_false (by omega)]
  cases hX:X j with
  |false=>rfl
  |true =>
   rcases (T.stat j oj hoj).1 i o h r.at_ with ha|ha
   ·rw[r.after T hj hX]at ha; cases ha
   ·exact absurd ht ((Oper.apart_spec ha).2.2 t hdj)
theorem ec.dst (T:kL P ops D A HH ρ0 w0) {X X':Nat->Bool} {i:Nat} {o:Oper} (r:ec ops X X' i o) {t j:Nat} (hij:i<j) (hj:j<ops.size) (hd:gI ops j=some t) (hdi:gI ops i=some t):X j=false:=by
 obtain⟨oj,hoj⟩:∃ o,ops[j]?=some o:=⟨ops[j],by simp[hj]⟩
 have hdj:oj.dst=some t:=by simpa[gI,hoj]using hd
 have hdi':o.dst=some t:=by simpa[gI,r.at_]using hdi
 cases hX:X j with
 |false=>rfl
 |true =>
  rcases (T.stat j oj hoj).1 i o hij r.at_ with ha|ha
  ·rw[r.after T hj hX]at ha; cases ha
  ·exact absurd hdj ((Oper.apart_spec ha).2.1 t hdi')
theorem ec.tmp (T:kL P ops D A HH ρ0 w0) {X X':Nat->Bool} {i:Nat} {o:Oper} (r:ec ops X X' i o) {t:Nat} (ht:t∈o.looksAt ops):(ax ops D (A 0) X ops.size).tmp t=(A i).tmp t:=by
 have hn1:=(p6 (ops:=ops) (D:=D) (a:=A 0) (X:=X) ops.size).1
 have hn2:=(T.GS (k:=i) (by have:=r.lt; omega)).1
 unfold ag.tmp
 rw[hn1,hn2]
 by_cases h:t<(A 0).env.n
 ·rw[a8 h]
  simp only[if_true]
  rw[kS (Y:=fun j=>decide (j<i)) h ops.size (fun j hj hd=>r.looks T ht hj hd),vH h ops.size (by have:=r.lt; omega),T.te i (by have:=r.lt; omega)]
 ·rw[mL h]; simp
theorem ec.want (T:kL P ops D A HH ρ0 w0) {X X':Nat->Bool} {i:Nat} {o:Oper} (r:ec ops X X' i o) (hb:(D i).bad=false) (ρ:Ren):Region.wanted o (yielded ops (ρ.act (ax ops D (A 0) X ops.size)).tmps)=(D i).on:=by
 obtain⟨o',h1,h2,h3,_⟩:=T.fact i r.lt
 rw[r.at_]at h1
 cases h1
 rw[<-fY ρ (h3 hb)]
 unfold Region.wanted
 cases hg:o.guard with
 |none=>rfl
 |some gw =>
  obtain⟨j,want⟩:=gw
  simp only[uN]
  cases hd:(ops[j]?).bind (·.dst) with
  |none=>rfl
  |some d=>simp only[r.tmp T (t:=d) (by simp[Oper.looksAt,hg,hd])]
theorem ec.QL (T:kL P ops D A HH ρ0 w0) {X X':Nat->Bool} {i:Nat} {o:Oper} (r:ec ops X X' i o) (ρ:Ren):∀ x∈o.op.operands,(ρ.act (ax ops D (A 0) X ops.size)).eval x=(ρ.act (A i)).eval x:=by
 intro x hx
 cases x with
 |tmp t =>
  show (ρ.act (ax ops D (A 0) X ops.size)).tmps.getD t undef=(ρ.act (A i)).tmps.getD t undef
  rw[rC,rC,r.tmp T (t:=t) (List.mem_append_left _ (List.mem_filterMap.2 ⟨.tmp t,by simpa using hx,rfl⟩))]
 |_=>rfl
end
section
variable {P : Program} {ops : Array Oper} {D : Nat -> tN} {A : Nat -> ag} {HH : Nat -> aa} {ρ0 : Ren} {w0 : World}
def Fc (ops:Array Oper) (HH:Nat->aa) (n:Nat):Prop:=(HH 0).base<=n\/n∈(HH ops.size).dirty
structure Inv (P:Program) (ops:Array Oper) (D:Nat->tN) (A:Nat->ag) (HH:Nat->aa) (ρ0:Ren) (w0:World) (X:Nat->Bool) (ρ:Ren) (w:World):Prop where
 glob:∀ g,g<P.globals.size->ρ.blk g=g/\ρ.sh g=0
 inj:∀ a b,hx D HH X ops.size a≠none->hx D HH X ops.size b≠none->ρ.blk a=ρ.blk b->a=b\/Fz (hx D HH X ops.size a)/\Fz (hx D HH X ops.size b)
 ro:∀ n,Fz ((HH 0).get n)->hx D HH X ops.size n=(HH 0).get n
 dom:∀ n o,hx D HH X ops.size n=some o->qe ops HH X n/\∀ k∈pZ o,qe ops HH X k
 obj:∀ n o,hx D HH X ops.size n=some o->∃ o',w.heap[ρ.blk n]?=some o'/\Fits P ρ n o o'
 env:∀ t,t<(A 0).env.n->∀ k∈ae ((ax ops D (A 0) X ops.size).env.get t),qe ops HH X k
 ext:Ext (HH 0).next ρ0 ρ
 os:w.os=w0.os
 tape:w.tape=w0.tape
 output:w.output=w0.output
 size:w0.heap.size<=w.heap.size
 fX:∀ b,b<w0.heap.size->(∀ n,n<(HH 0).next->Fc ops HH n->(HH 0).get n≠none->ρ0.blk n≠b)->w.heap[b]?=w0.heap[b]?
 fresh:∀ n,(HH 0).next<=n->hx D HH X ops.size n≠none->w0.heap.size<=ρ.blk n\/∃ k,k<(HH 0).next/\(HH 0).get k≠none/\Fc ops HH k/\ρ.blk n=ρ0.blk k
 gone:∀ n,n<(HH 0).next->(HH 0).get n=none->hx D HH X ops.size n=none
theorem qe.mono {X X':Nat->Bool} (h:∀ j,X j=true->X' j=true) {n:Nat} (hn:qe ops HH X n):qe ops HH X' n :=
 hn.imp id (fun⟨k,h1,h2,h3⟩=>⟨k,h1,h k h2,h3⟩)
theorem lf (ρ ρ':Ren) {a b:ag} (hn:a.env.n=b.env.n) (hd:a.defers.map ρ.rM=b.defers.map ρ'.rM) (hg:∀ t,t<b.env.n->ρ.val (a.env.get t)=ρ'.val (b.env.get t)):ρ.act a=ρ'.act b:=by
 unfold Ren.act
 rw[hd]
 congr 1
 apply Array.ext_getElem?
 intro i
 rw[jg,jg,hn]
 split
 ·rename_i h; rw[hg i h]
 ·rfl
theorem ec.up {X X':Nat->Bool} {i:Nat} {o:Oper} (r:ec ops X X' i o):∀ j,X j=true->X' j=true:=fun j h=>by
 by_cases e:j=i
 ·rw[e]; exact r.now
 ·rw[r.rest j e]; exact h
theorem I7 (T:kL P ops D A HH ρ0 w0) {ρ ρ':Ren} (h:Ext (HH 0).next ρ0 ρ) (h':Ext (HH 0).next ρ0 ρ'):(A 0).defers.map ρ'.rM=(A 0).defers.map ρ.rM:=by
 apply List.map_congr_left
 intro d hd
 rw[rJ h (T.sc.2 d hd),rJ h' (T.sc.2 d hd)]
theorem ec.off (T:kL P ops D A HH ρ0 w0) {X X':Nat->Bool} {i:Nat} {o:Oper} (r:ec ops X X' i o) (hoff:(D i).on=false) {ρ:Ren} {w:World} (I:Inv P ops D A HH ρ0 w0 X ρ w) :
  Inv P ops D A HH ρ0 w0 X' ρ w/\(ρ.act (ax ops D (A 0) X ops.size)).put o.dst undef=ρ.act (ax ops D (A 0) X' ops.size):=by
 have hh:∀ n,hx D HH X' ops.size n=hx D HH X ops.size n:=fun n=>mT _ (fun j _ hw=>r.rest j (fun e=>by rw[e]at hw; have:=hw.1; rw[hoff]at this; cases this))
 obtain⟨o',f1,f2,f3,f4,f5⟩:=T.fact i r.lt
 rw[r.at_]at f1
 cases f1
 have hv:=(f5 hoff).1
 have hdi:gI ops i=o.dst:=by simp[gI,r.at_]
 have he:∀ t,t<(A 0).env.n->(ax ops D (A 0) X' ops.size).env.get t=if o.dst=some t then undef else (ax ops D (A 0) X ops.size).env.get t:=fun t ht=>by
  rw[tP ht r.not r.now r.rest ops.size r.lt (fun j h1 h2 h3 h4=>r.dst T h1 h2 h3 h4),hdi,hv]
 refine⟨⟨I.glob,fun a b ha hb=>by rw[hh,hh]; exact I.inj a b (by rw[<-hh]; exact ha) (by rw[<-hh]; exact hb),fun n hn=>by rw[hh]; exact I.ro n hn,fun n o ho=>?_,fun n o ho=>I.obj n o (by rw[<-hh]; exact ho),fun t ht k hk=>?_,I.ext,I.os,I.tape,I.output,I.size,I.fX,fun n h1 h2=>I.fresh n h1 (by rw[<-hh]; exact h2),fun n h1 h2=>by rw[hh]; exact I.gone n h1 h2⟩,?_⟩
 ·have:=I.dom n o (by rw[<-hh]; exact ho)
  exact⟨this.1.mono r.up,fun k hk=>(this.2 k hk).mono r.up⟩
 ·rw[he t ht]at hk
  split at hk
  ·simp[undef,ae,rf,gk]at hk
  ·exact (I.env t ht k hk).mono r.up
 ·have hp:=jy ρ (ax ops D (A 0) X ops.size) o.dst undef
  rw[Ren.val_undef]at hp
  rw[hp]
  obtain⟨p1,p2⟩:=Mp (ax ops D (A 0) X ops.size) o.dst undef
  obtain⟨q1,q2⟩:=p6 (ops:=ops) (D:=D) (a:=A 0) (X:=X) ops.size
  obtain⟨s1,s2⟩:=p6 (ops:=ops) (D:=D) (a:=A 0) (X:=X') ops.size
  refine lf ρ ρ (by rw[p1,q1,s1]) (by rw[p2,q2,s2]) (fun t ht=>?_)
  rw[s1]at ht
  rw[kl _ _ _ _ (by rw[q1]; exact ht),he t ht]
theorem ec.same (T:kL P ops D A HH ρ0 w0) {X X':Nat->Bool} {i:Nat} {o:Oper} (r:ec ops X X' i o) (hon:(D i).on=true) {n:Nat} (hn:n∈(D i).F):hx D HH X ops.size n=(HH i).get n:=by
 have hi:=r.lt
 rw[mT (Y:=fun j=>decide (j<i)) ops.size (fun j hj hw=>r.y6 T hon hn hj hw),Hy ops.size (by omega),T.Gi i (by omega)]
theorem ec.rel (T:kL P ops D A HH ρ0 w0) {X X':Nat->Bool} {i:Nat} {o:Oper} (r:ec ops X X' i o) (hon:(D i).on=true) {ρ:Ren} {w:World} (I:Inv P ops D A HH ρ0 w0 X ρ w) :
  Rel P ρ ((HH i).restrict (D i).F) w:=by
 have L:=T.loc r.lt hon
 obtain⟨k1,k2,k3⟩:=aL (HH i) (D i).F
 have hF:∀ n x,((HH i).restrict (D i).F).get n=some x->n∈(D i).F/\(HH i).get n=some x:=fun n x h=>by
  rw[aU]at h
  split at h
  ·rename_i hn; exact⟨hn,h⟩
  ·cases h
 have hF':∀ n,((HH i).restrict (D i).F).get n≠none->hx D HH X ops.size n≠none:=fun n h=>by
  obtain⟨x,hx'⟩:=Option.ne_none_iff_exists'.1 h
  obtain⟨h1,h2⟩:=hF n x hx'
  rw[r.same T hon h1,h2]; simp
 refine⟨by rw[k1,k2]; exact zA8 _,by rw[k1]; exact⟨L.glob,I.glob⟩,fun a b ha hb he=>by
  obtain⟨xa,hxa⟩:=Option.ne_none_iff_exists'.1 ha
  obtain⟨xb,hxb⟩:=Option.ne_none_iff_exists'.1 hb
  obtain⟨a1,a2⟩:=hF a xa hxa
  obtain⟨b1,b2⟩:=hF b xb hxb
  have:=I.inj a b (hF' a ha) (hF' b hb) he
  rw[r.same T hon a1,r.same T hon b1,a2,b2]at this
  rw[hxa,hxb]; exact this,fun n x hx'=>?_,fun n x hx'=>?_⟩
 ·rw[k1]; exact L.domH n x (hF n x hx').2
 ·obtain⟨h1,h2⟩:=hF n x hx'
  exact I.obj n x (by rw[r.same T hon h1]; exact h2)
theorem ec.out (T:kL P ops D A HH ρ0 w0) {X X':Nat->Bool} {i:Nat} {o:Oper} (r:ec ops X X' i o) (hon:(D i).on=true) {n:Nat} (hn:n∈fZ (D i).v (D i).g (HH i).next):qe ops HH X' n:=by
 have L:=T.loc r.lt hon
 have hi:=r.lt
 have hs:=(T.step r.lt).2.1 hon
 have hlt:n<(D i).g.next:=by
  rw[fZ,zB2]at hn
  rcases hn with hn|hn
  ·exact fD _ L.v n hn
  ·obtain⟨x,_,hx⟩:=zE2.1 hn
   unfold fk at hx
   split at hx
   ·rename_i ob hob; exact qD (L.dom x ob hob).2 n hx
   ·cases hx
 rcases T.part (i+1) (by omega) (by rw[hs]; exact hlt) with h|⟨j,h1,h2,h3⟩
 ·exact .inl h
 ·by_cases e:j=i
  ·subst e; exact .inr ⟨j,r.lt,r.now,h2,h3⟩
  ·have hj:j<i:=by omega
   refine .inr ⟨j,by omega,?_,h2,h3⟩
   rw[r.rest j e]
   cases ha:((gS ops).getD i 0).testBit j with
   |true=>exact T.mc r.closed r.at_ r.edges r.lt ha
   |false =>
    have hjo:(D j).on=true:=by
     cases hjo:(D j).on with
     |true=>rfl
     |false =>
      have:=(T.step (i:=j) (by omega)).2.2.1 hjo
      rw[this]at h3; omega
    have hsj:=(T.step (i:=j) (by omega)).2.1 hjo
    obtain⟨p1,p2,p3⟩:=pK (T.pair j i hj r.lt hjo hon) ha
    have:=(p3 (by show (HH j).next<(D j).g.next; omega)).2 n hn
    simp only[pW]at this
    omega
theorem ec.Qr (T:kL P ops D A HH ρ0 w0) {X X':Nat->Bool} {i:Nat} {o:Oper} (r:ec ops X X' i o) (hon:(D i).on=true) {n:Nat} (hn:qe ops HH X n):¬((HH i).next<=n/\n<(D i).g.next):=by
 have hi:=r.lt
 have hs:=(T.step r.lt).2.1 hon
 rcases hn with h|⟨k,h1,h2,h3,h4⟩
 ·have:=(T.mono (i:=0) (j:=i) (by omega) (by omega)).1; omega
 ·rcases Nat.lt_trichotomy k i with h|h|h
  ·have:=(T.mono (i:=k+1) (j:=i) (by omega) (by omega)).1; omega
  ·subst h; rw[r.not]at h2; cases h2
  ·have:=(T.mono (i:=i+1) (j:=k) (by omega) (by omega)).1; omega
theorem kL.own (T:kL P ops D A HH ρ0 w0) {i:Nat} (hi:i<ops.size) (hon:(D i).on=true) {n:Nat} (hn:n∈(D i).g.dirty):Fc ops HH n:=by
 have hb:=(T.mono (i:=0) (j:=i) (by omega) (by omega)).2.1
 rcases zC2 n (HH 0).base with h|h
 ·right
  have:=(T.step hi).2.2.2.2.2 hon n hn (by rw[hb]; exact h)
  exact (T.mono (i:=i+1) (j:=ops.size) (by omega) (by omega)).2.2 n this
 ·exact .inl h
theorem ec.on (T:kL P ops D A HH ρ0 w0) {X X':Nat->Bool} {i:Nat} {o:Oper} (r:ec ops X X' i o) (hon:(D i).on=true) {ρ:Ren} {w:World} (I:Inv P ops D A HH ρ0 w0 X ρ w)
  {ρ1:Ren} {w1:World} (s:St P ρ ((HH i).restrict (D i).F) w ρ1 (D i).g w1) :
  Inv P ops D A HH ρ0 w0 X' (ρ.mix ρ1 (HH i).next (D i).g.next) w1/\(ρ.act (ax ops D (A 0) X ops.size)).put o.dst (ρ1.val (D i).v)=(ρ.mix ρ1 (HH i).next (D i).g.next).act (ax ops D (A 0) X' ops.size):=by
 have L:=T.loc r.lt hon
 have hi:=r.lt
 have hs:=(T.step r.lt).2.1 hon
 have hlo:=(T.mono (i:=0) (j:=i) (by omega) (by omega)).1
 obtain⟨k1,k2,k3⟩:=aL (HH i) (D i).F
 have hext:Ext (HH i).next ρ ρ1:=by have:=s.ext; rw[k1]at this; exact this
 obtain⟨o',f1,f2,f3,f4,f5⟩:=T.fact i r.lt
 rw[r.at_]at f1
 cases f1
 have hdi:gI ops i=o.dst:=by simp[gI,r.at_]
 have hLF:∀ m,((HH i).restrict (D i).F).get m≠none->m∈(D i).F:=fun m h=>by
  rw[aU]at h
  split at h
  ·rename_i hm; exact hm
  ·exact absurd rfl h
 have hXF:∀ n∈(D i).F,hx D HH X ops.size n≠none:=fun n hn=>by rw[r.same T hon hn]; exact L.F n hn
 -- memory behind the operation
 have hh:∀ n,hx D HH X' ops.size n=if qX D HH i n then (D i).g.get n else hx D HH X ops.size n:=fun n =>
  zm r.not r.now r.rest ops.size r.lt (fun j h1 h2 h3 h4=>r.ins T h1 h2 h3 h4)
 have hfrom:∀ n x,hx D HH X' ops.size n=some x->((D i).g.get n=some x/\(n∈(D i).F\/(HH i).next<=n))\/(n∉(D i).F/\hx D HH X ops.size n=some x):=fun n x hx'=>by
  rw[hh]at hx'
  split at hx'
  ·rename_i hw
   refine .inl ⟨hx',?_⟩
   rcases hw.2 with h|h
   ·exact .inl (L.W n h)
   ·exact .inr h.1
  ·rename_i hw
   by_cases hf:n∈(D i).F
   ·refine .inl ⟨?_,.inl hf⟩
    rw[L.keep n hf (fun h=>hw ⟨hon,.inl h⟩),<-r.same T hon hf]; exact hx'
   ·exact .inr ⟨hf,hx'⟩
 -- how the renamings agree
 have g1:∀ n,n<(D i).g.next->my ρ1 (ρ.mix ρ1 (HH i).next (D i).g.next) n:=fun n hn=>PJ ρ ρ1 hext hn
 have g2:∀ n,qe ops HH X n->my ρ (ρ.mix ρ1 (HH i).next (D i).g.next) n:=fun n hn=>Oo ρ ρ1 (r.Qr T hon hn)
 have hblk:∀ n,hx D HH X ops.size n≠none->ρ.blk n<w.heap.size:=fun n hn=>by
  obtain⟨x,hx'⟩:=Option.ne_none_iff_exists'.1 hn
  obtain⟨y,hy,_⟩:=I.obj n x hx'
  rcases zC2 (ρ.blk n) w.heap.size with h|h
  ·exact h
  ·simp[Array.getElem?_eq_none h]at hy
 have hFL:∀ m∈(D i).F,((HH i).restrict (D i).F).get m=(HH i).get m:=fun m h=>by rw[aU,if_pos h]
 have hro:∀ m∈(D i).F,Fz (hx D HH X ops.size m)->m∉(D i).g.dirty/\(D i).g.get m=hx D HH X ops.size m:=fun m h hz=>by
  rw[r.same T hon h]at hz ⊢
  obtain⟨a,b⟩:=s.ro m (by rw[hFL m h]; exact hz)
  rw[k3]at a
  exact⟨fun h=>(by cases a h),by rw[b,hFL m h]⟩
 -- the blocks that the operation has written or made anew, by where they came from
 have hnew:∀ n x,(D i).g.get n=some x->(HH i).next<=n->w.heap.size<=ρ1.blk n\/∃ m,m∈(D i).F/\m∈(D i).g.dirty/\m<(HH i).next/\ρ1.blk n=ρ.blk m:=fun n x hx' hn=>by
  rcases s.fresh n (by rw[k1]; exact hn) (bD hx') with h|⟨m,h1,h2,h3,h4⟩
  ·exact .inl h
  ·refine .inr ⟨m,hLF m h2,?_,by rw[k1]at h1; exact h1,h4⟩
   rcases h3 with h3|h3
   ·rw[k2]at h3; rw[k1]at h1; omega
   ·exact h3
 have he:∀ t,t<(A 0).env.n->(ax ops D (A 0) X' ops.size).env.get t=if o.dst=some t then (D i).v else (ax ops D (A 0) X ops.size).env.get t:=fun t ht=>by
  rw[tP ht r.not r.now r.rest ops.size r.lt (fun j h1 h2 h3 h4=>r.dst T h1 h2 h3 h4),hdi]
 have hvout:∀ k∈ae (D i).v,qe ops HH X' k:=fun k hk=>r.out T hon (by rw[fZ]; exact List.mem_append_left _ hk)
 have hext':Ext (HH 0).next ρ0 (ρ.mix ρ1 (HH i).next (D i).g.next):=by
  have ha:∀ n,n<(HH 0).next->my ρ (ρ.mix ρ1 (HH i).next (D i).g.next) n:=fun n hn=>g2 n (.inl hn)
  exact⟨fun n hn=>(ha n hn).1.trans (I.ext.blk n hn),fun n hn=>(ha n hn).2.1.trans (I.ext.sh n hn),fun n hn=>(ha n hn).2.2.1.trans (I.ext.ex n hn),fun n hn=>(ha n hn).2.2.2.trans (I.ext.op n hn)⟩
 have hglob:P.globals.size<=(HH 0).next:=T.rel.glob.1
 refine⟨⟨fun g hg=>?_,?_,fun n hz=>?_,?_,?_,?_,hext',s.os.trans I.os,s.tape.trans I.tape,s.output.trans I.output,zC3 I.size s.size,?_,?_,?_⟩,?_⟩
 ·have ha:=g2 g (.inl (by omega))
  rw[ha.1,ha.2.1]; exact I.glob g hg
 ·-- one to one
  intro a b ha hb heq
  obtain⟨xa,hxa⟩:=Option.ne_none_iff_exists'.1 ha
  obtain⟨xb,hxb⟩:=Option.ne_none_iff_exists'.1 hb
  have cross:∀ x y ox oy,(D i).g.get x=some ox->(x∈(D i).F\/(HH i).next<=x)->y∉(D i).F->hx D HH X ops.size y=some oy->(ρ.mix ρ1 (HH i).next (D i).g.next).blk x=(ρ.mix ρ1 (HH i).next (D i).g.next).blk y->Fz ((D i).g.get x)/\Fz (hx D HH X ops.size y):=by
   intro x y ox oy hox hxF hyF hoy heq
   rw[(g1 x (L.dom x ox hox).1).1,(g2 y (I.dom y oy hoy).1).1]at heq
   rcases zC2 x (HH i).next with hlt|hge
   ·have hxF:x∈(D i).F:=hxF.elim id (fun h=>by omega)
    rw[hext.blk x hlt]at heq
    rcases I.inj x y (hXF x hxF) (bD hoy) heq with e|⟨e1,e2⟩
    ·exact absurd (e▸hxF) hyF
    ·exact⟨by rw[(hro x hxF e1).2]; exact e1,e2⟩
   ·rcases hnew x ox hox hge with h|⟨m,h1,h2,h3,h4⟩
    ·have:=hblk y (bD hoy); omega
    ·rw[h4]at heq
     exact (I.inj m y (hXF m h1) (bD hoy) heq).elim (fun e=>absurd (e▸h1) hyF) fun h=>absurd h2 (hro m h1 h.1).1
  rcases hfrom a xa hxa with⟨h1,h2⟩|⟨h1,h2⟩<;>rcases hfrom b xb hxb with⟨j1,j2⟩|⟨j1,j2⟩
  ·rw[(g1 a (L.dom a xa h1).1).1,(g1 b (L.dom b xb j1).1).1]at heq
   rw[hxa,hxb,<-h1,<-j1]
   exact s.rel.inj a b (bD h1) (bD j1) heq
  ·rw[hxa,hxb,<-h1,<-j2]
   exact .inr (cross a b xa xb h1 h2 j1 j2 heq)
  ·rw[hxa,hxb,<-h2,<-j1]
   exact .inr (cross b a xb xa j1 j2 h1 h2 heq.symm).symm
  ·rw[(g2 a (I.dom a xa h2).1).1,(g2 b (I.dom b xb j2).1).1]at heq
   rw[hxa,hxb,<-h2,<-j2]
   exact I.inj a b (bD h2) (bD j2) heq
 ·-- what is for reading only
  have h0:=I.ro n hz
  rw[hh]
  split
  ·rename_i hw
   have hz':Fz (hx D HH X ops.size n):=by rw[h0]; exact hz
   rcases hw.2 with h|h
   ·exact absurd h (hro n (L.W n h) hz').1
   ·have:=T.rel.lt hz.ne; omega
  ·exact h0
 ·-- what is named
  intro n x hx'
  have hx0:=hx'
  rw[hh]at hx'
  split at hx'
  ·rename_i hw
   have hd:=L.dom n x hx'
   refine⟨?_,fun k hk=>r.out T hon ?_⟩
   ·rcases hw.2 with h|h
    ·obtain⟨y,hy⟩:=Option.ne_none_iff_exists'.1 (hXF n (L.W n h))
     exact (I.dom n y hy).1.mono r.up
    ·exact .inr ⟨i,r.lt,r.now,h.1,by rw[hs]; exact h.2⟩
   ·rw[fZ]
    refine List.mem_append_right _ (zE2.2 ⟨n,?_,by simp only[fk,hx']; exact hk⟩)
    rcases hw.2 with h|h
    ·exact List.mem_append_left _ h
    ·exact List.mem_append_right _ (qf _ _ h.1 (by omega))
  ·have:=I.dom n x hx'
   exact⟨this.1.mono r.up,fun k hk=>(this.2 k hk).mono r.up⟩
 ·-- the objects
  intro n x hx'
  rcases hfrom n x hx' with⟨h1,_⟩|⟨h1,h2⟩
  ·obtain⟨y,hy,hf⟩:=s.rel.obj n x h1
   have hd:=L.dom n x h1
   refine⟨y,by rw[(g1 n hd.1).1]; exact hy,hf.agree (g1 n hd.1) (fun k hk=>g1 k (qD hd.2 k hk))⟩
  ·obtain⟨y,hy,hf⟩:=I.obj n x h2
   have hd:=I.dom n x h2
   refine⟨y,?_,hf.agree (g2 n hd.1) (fun k hk=>g2 k (hd.2 k hk))⟩
   rw[(g2 n hd.1).1,<-hy]
   refine s.fX _ (hblk n (bD h2)) fun m hm hdm hgm e=>?_
   have hmF:=hLF m hgm
   have hmd:m∈(D i).g.dirty:=hdm.elim (fun h=>by rw[k2]at h; rw[k1]at hm; omega) id
   exact (I.inj m n (hXF m hmF) (bD h2) e).elim (fun e=>h1 (e▸hmF)) fun h=>(hro m hmF h.1).1 hmd
 ·-- the temporaries
  intro t ht k hk
  rw[he t ht]at hk
  split at hk
  ·exact hvout k hk
  ·exact (I.env t ht k hk).mono r.up
 ·-- what was there before
  intro b hb hc
  rw[<-I.fX b hb hc]
  refine s.fX b (zD5 hb I.size) fun m hm hdm hgm=>?_
  have hmF:=hLF m hgm
  have hmd:m∈(D i).g.dirty:=by
   rcases hdm with h|h
   ·rw[k2]at h; rw[k1]at hm; omega
   ·exact h
  have hown:=T.own r.lt hon hmd
  rcases zC2 m (HH 0).next with h|h
  ·rw[I.ext.blk m h]
   exact hc m h hown (fun e=>hXF m hmF (I.gone m h e))
  ·rcases I.fresh m h (hXF m hmF) with h'|⟨q,h1,h2,h3,h4⟩
   ·omega
   ·rw[h4]; exact hc q h1 h3 h2
 ·-- what is new
  intro n hn cR
  obtain⟨x,hx'⟩:=Option.ne_none_iff_exists'.1 cR
  rcases hfrom n x hx' with⟨h1,h2⟩|⟨h1,h2⟩
  ·rw[(g1 n (L.dom n x h1).1).1]
   rcases zC2 n (HH i).next with hlt|hge
   ·have hnF:n∈(D i).F:=h2.elim id (fun h=>by omega)
    rw[hext.blk n hlt]
    exact I.fresh n hn (hXF n hnF)
   ·rcases hnew n x h1 hge with h|⟨m,m1,m2,m3,m4⟩
    ·exact .inl (zC3 I.size h)
    ·rw[m4]
     have hown:=T.own r.lt hon m2
     rcases zC2 m (HH 0).next with h|h
     ·exact .inr ⟨m,h,fun e=>hXF m m1 (I.gone m h e),hown,I.ext.blk m h⟩
     ·exact I.fresh m h (hXF m m1)
  ·rw[(g2 n (I.dom n x h2).1).1]
   exact I.fresh n hn (bD h2)
 ·-- what is gone
  intro n hn h0
  rw[hh]
  split
  ·rename_i hw
   rcases hw.2 with h|h
   ·exact absurd (I.gone n hn h0) (hXF n (L.W n h))
   ·omega
  ·exact I.gone n hn h0
 ·-- the frame
  have hval:ρ1.val (D i).v=(ρ.mix ρ1 (HH i).next (D i).g.next).val (D i).v:=(nD _ (fun k hk=>g1 k (fD _ L.v k hk))).symm
  have hmid:ρ.act (ax ops D (A 0) X ops.size)=(ρ.mix ρ1 (HH i).next (D i).g.next).act (ax ops D (A 0) X ops.size):=by
   obtain⟨q1,q2⟩:=p6 (ops:=ops) (D:=D) (a:=A 0) (X:=X) ops.size
   refine lf _ _ rfl ?_ (fun t ht=>?_)
   ·rw[q2]; exact I7 T hext' I.ext
   ·rw[q1]at ht
    exact (nD _ (fun k hk=>g2 k (I.env t ht k hk))).symm
  rw[hmid,hval,jy]
  obtain⟨p1,p2⟩:=Mp (ax ops D (A 0) X ops.size) o.dst (D i).v
  obtain⟨q1,q2⟩:=p6 (ops:=ops) (D:=D) (a:=A 0) (X:=X) ops.size
  obtain⟨s1,s2⟩:=p6 (ops:=ops) (D:=D) (a:=A 0) (X:=X') ops.size
  refine lf _ _ (by rw[p1,q1,s1]) (by rw[p2,q2,s2]) (fun t ht=>?_)
  rw[s1]at ht
  rw[kl _ _ _ _ (by rw[q1]; exact ht),he t ht]
end
section
variable {P : Program} {ops : Array Oper} {D : Nat -> tN} {A : Nat -> ag} {HH : Nat -> aa} {ρ0 : Ren} {w0 : World}
def bI (l:Array Bool) (j:Nat):Bool:=l.getD j false
def left (m:Nat) (X:Nat->Bool):Nat:=((List.range m).filter fun i=>!X i).length
theorem qC {listed:Array Bool} {i:Nat} (hsz:listed.size=ops.size) (h:i∈Region.ready .any ops listed):i<ops.size/\bI listed i=false/\∃ o,ops[i]?=some o/\∀ e∈o.after,Region.binds .any e=true->bI listed e.on=true:=by
 obtain⟨h1,o,h2,h3⟩:=mem_ready.1 h
 have hlt:i<ops.size:=by
  rcases zC2 i ops.size with h|h
  ·exact h
  ·simp[Array.getElem?_eq_none h]at h2
 refine⟨hlt,?_,o,h2,fun e he hb=>h3 e he hb⟩
 have hl:i<listed.size:=by omega
 simp only[bI,Array.getD_eq_getD_getElem?,Array.getElem?_eq_getElem hl,Option.getD_some]at h1 ⊢
 exact h1
theorem LY {listed:Array Bool} {i:Nat} {o:Oper} (hsz:listed.size=ops.size) (hi:i<ops.size) (h1:bI listed i=false) (ho:ops[i]?=some o) (he:∀ e∈o.after,Region.binds .any e=true->bI listed e.on=true):i∈Region.ready .any ops listed:=by
 refine mem_ready.2 ⟨?_,o,ho,fun e h hb=>he e h hb⟩
 have hl:i<listed.size:=by omega
 simp only[bI,Array.getD_eq_getD_getElem?,Array.getElem?_eq_getElem hl,Option.getD_some]at h1 ⊢
 exact h1
theorem Ij (T:kL P ops D A HH ρ0 w0) {listed:Array Bool} (hsz:listed.size=ops.size) (h:Region.ready .any ops listed=[]):∀ i,i<ops.size->bI listed i=true:=by
 intro i
 induction i using Nat.strongRecOn with
 |_ i ih =>
  intro hi
  cases hX:bI listed i with
  |true=>rfl
  |false =>
   obtain⟨o,ho⟩:∃ o,ops[i]?=some o:=⟨ops[i],by simp[hi]⟩
   have:i∈Region.ready .any ops listed:=LY hsz hi hX ho (fun e he hb=>by
    have hlt:=(T.stat i o ho).2 e he hb
    exact ih e.on hlt (by omega))
   rw[h]at this; cases this
theorem Bs (T:kL P ops D A HH ρ0 w0) {X:Nat->Bool} (hX:∀ i,i<ops.size->X i=true) {ρ:Ren} {w:World} (I:Inv P ops D A HH ρ0 w0 X ρ w) :
  St P ρ0 (HH 0) w0 ρ (HH ops.size) w/\ρ.act (ax ops D (A 0) X ops.size)=ρ.act (A ops.size):=by
 have hh:∀ n,hx D HH X ops.size n=(HH ops.size).get n:=fun n=>by
  rw[mT (Y:=fun _=>true) ops.size (fun j hj _=>hX j hj),T.Gi ops.size (zA8 _)]
 obtain⟨ρm,wm,hst,hsa⟩:=T.ex ops.size (zA8 _)
 refine⟨⟨I.ext,hst.le,⟨hst.rel.base,⟨hst.rel.glob.1,I.glob⟩,fun a b ha hb=>by rw[<-hh,<-hh]; exact I.inj a b (by rw[hh]; exact ha) (by rw[hh]; exact hb),hst.rel.dom,fun n o ho=>I.obj n o (by rw[hh]; exact ho)⟩,I.os,I.tape,I.output,I.size,
  fun b hb hc=>I.fX b hb hc,fun n hn hg=>?_,hst.ro⟩,?_⟩
 ·rcases I.fresh n hn (by rw[hh]; exact hg) with h|⟨k,h1,h2,h3,h4⟩
  ·exact .inl h
  ·exact .inr ⟨k,h1,h2,h3,h4⟩
 ·obtain⟨q1,q2⟩:=p6 (ops:=ops) (D:=D) (a:=A 0) (X:=X) ops.size
  obtain⟨e1,e2⟩:=T.GS (k:=ops.size) (zA8 _)
  refine lf _ _ (by rw[q1,e1]) (by rw[q2,e2]) (fun t ht=>?_)
  rw[e1]at ht
  rw[kS (Y:=fun _=>true) ht ops.size (fun j hj _=>hX j hj),T.te ops.size (zA8 _)]
theorem pJ (T:kL P ops D A HH ρ0 w0) {X:Nat->Bool} (hX:∀ i,X i=false) {w:World} (h1:w.heap=w0.heap) (h2:w.os=w0.os) (h3:w.tape=w0.tape) (h4:w.output=w0.output) :
  Inv P ops D A HH ρ0 w0 X ρ0 w/\ax ops D (A 0) X ops.size=A 0:=by
 have hh:∀ k n,hx D HH X k n=(HH 0).get n:=fun k n=>by
  induction k with
  |zero=>rfl
  |succ k ih=>rw[hx,if_neg (fun h=>by rw[hX]at h; cases h.1),ih]
 have ha:∀ k,ax ops D (A 0) X k=A 0:=fun k=>by
  induction k with
  |zero=>rfl
  |succ k ih=>rw[ax,if_neg (by rw[hX]; simp),ih]
 refine⟨⟨T.rel.glob.2,fun a b ha' hb=>by rw[hh ops.size,hh ops.size]; exact T.rel.inj a b (by rw[<-hh ops.size]; exact ha') (by rw[<-hh ops.size]; exact hb),fun n _=>hh ops.size n,fun n o ho=>?_,fun n o ho=>by rw[h1]; exact T.rel.obj n o (by rw[<-hh ops.size]; exact ho),fun t ht k hk=>?_,Ext.refl _ _,h2,h3,h4,
  by rw[h1]; exact zA8 _,fun b _ _=>by rw[h1],fun n hn cR=>?_,fun n _ h0=>by rw[hh]; exact h0⟩,ha ops.size⟩
 ·have:=T.rel.dom n o (by rw[<-hh ops.size]; exact ho)
  exact⟨.inl this.1,fun k hk=>.inl (qD this.2 k hk)⟩
 ·rw[ha]at hk
  exact .inl (fD _ (T.sc.1 t ht) k hk)
 ·rw[hh]at cR
  exact absurd (T.rel.lt cR) (by omega)
theorem RF {listed:Array Bool} {i:Nat} (hi:i<listed.size) (j:Nat):bI (listed.setIfInBounds i true) j=if j=i then true else bI listed j:=by
 unfold bI
 rw[Array.getD_eq_getD_getElem?,Array.getD_eq_getD_getElem?,Array.getElem?_setIfInBounds]
 by_cases e:i=j
 ·subst e; simp[hi]
 ·rw[if_neg e,if_neg (fun h=>e h.symm)]
theorem vG (T:kL P ops D A HH ρ0 w0) {F:Fence} {n:Nat} (hF:cZ F) {Q:Exit->Act->World->Prop}
  (hA:∀ i,i<ops.size->(D i).bad=true->∀ j,j<ops.size->j≠i->((gS ops).getD i 0).testBit j=true)
  (hB:∀ i o,ops[i]?=some o->(D i).bad=true->∀ (X X':Nat->Bool) (ρ:Ren) (w:World),(∀ j,j<ops.size->j≠i->X j=true)->ec ops X X' i o->Inv P ops D A HH ρ0 w0 X ρ w ->
   Region.wanted o (yielded ops (ρ.act (ax ops D (A 0) X ops.size)).tmps)=true/\∀ K:Act->World->Prop,(∀ act w',Q .normal act w'->K act w')->o.wpIn F n P (ρ.act (ax ops D (A 0) X ops.size)) w K Q)
  (hQ:(∀ i,i<ops.size->(D i).bad=false)->∀ ρ1 w1,St P ρ0 (HH 0) w0 ρ1 (HH ops.size) w1->Q .normal (ρ1.act (A ops.size)) w1) :
  ∀ (fuel:Nat) (listed:Array Bool) (ρ:Ren) (w:World),listed.size=ops.size->left ops.size (bI listed)<=fuel->xC ops (bI listed)->(∀ i,bI listed i=true->(D i).bad=false)->Inv P ops D A HH ρ0 w0 (bI listed) ρ w ->
   wpAnyIn F n P .any ops Q fuel listed (ρ.act (ax ops D (A 0) (bI listed) ops.size)) w:=by
 have hend:∀ (listed:Array Bool) (ρ:Ren) (w:World),listed.size=ops.size->(∀ i,bI listed i=true->(D i).bad=false)->Inv P ops D A HH ρ0 w0 (bI listed) ρ w->Region.ready .any ops listed=[]->Q .normal (ρ.act (ax ops D (A 0) (bI listed) ops.size)) w:=by
  intro listed ρ w hsz hb I hr
  obtain⟨h1,h2⟩:=Bs T (Ij T hsz hr) I
  rw[h2]; exact hQ (fun i hi=>hb i (Ij T hsz hr i hi)) ρ w h1
 intro fuel
 induction fuel with
 |zero =>
  intro listed ρ w hsz hl hc hb I
  have hr:Region.ready .any ops listed=[]:=by
   cases e:Region.ready .any ops listed with
   |nil=>rfl
   |cons i l =>
    obtain⟨hi,hX,_⟩:=qC hsz (i:=i) (by rw[e]; exact zE5 ..)
    have:i∈(List.range ops.size).filter fun i=>!bI listed i:=List.mem_filter.2 ⟨zG0.2 hi,by rw[hX]; rfl⟩
    have h0:(List.range ops.size).filter (fun i=>!bI listed i)=[]:=zE9 (by unfold left at hl; omega)
    rw[h0]at this; cases this
  exact⟨hr,hend listed ρ w hsz hb I hr⟩
 |succ fuel ih =>
  intro listed ρ w hsz hl hc hb I
  refine⟨fun hr=>hend listed ρ w hsz hb I hr,fun i hi=>?_⟩
  obtain⟨hlt,hX,o,ho,hedge⟩:=qC hsz hi
  have hset:=RF (listed:=listed) (i:=i) (by omega)
  have r:ec ops (bI listed) (bI (listed.setIfInBounds i true)) i o :=
   ⟨hlt,ho,hX,by rw[hset]; simp,fun j hj=>by rw[hset,if_neg hj],hedge,hc⟩
  have hsz':(listed.setIfInBounds i true).size=ops.size:=by simp[hsz]
  have hl':left ops.size (bI (listed.setIfInBounds i true))<=fuel:=by
   have:=Is (fun j=>!bI listed j) (fun j=>!bI (listed.setIfInBounds i true) j) (List.range ops.size) (fun j _ h=>by
    simp only[Bool.not_eq_true']at h ⊢
    cases e:bI listed j with
    |false=>rfl
    |true=>have:=r.up j e; rw[h]at this; cases this) i (zG0.2 hlt) (by simp[hX]) (by simp[r.now])
   unfold left at hl ⊢
   omega
  have hc':xC ops (bI (listed.setIfInBounds i true)):=by
   intro j oj hoj hXj e he hb
   by_cases hji:j=i
   ·subst hji
    rw[ho]at hoj
    cases hoj
    exact r.up _ (hedge e he hb)
   ·rw[r.rest j hji]at hXj
    exact r.up _ (hc j oj hoj hXj e he hb)
  unfold wpOpIn
  simp only[ho]
  cases hbi:(D i).bad with
  |true =>
   obtain⟨hw,hk⟩:=hB i o ho hbi _ _ ρ w (fun j hj cR=>T.mc r.closed r.at_ r.edges r.lt (hA i hlt hbi j hj cR)) r I
   rw[hw]
   simp only[if_true]
   have hall:∀ j,j<ops.size->bI (listed.setIfInBounds i true) j=true:=fun j hj=>by
    by_cases e:j=i
    ·rw[e]; exact r.now
    ·rw[r.rest j e]; exact T.mc r.closed r.at_ r.edges r.lt (hA i hlt hbi j hj e)
   have hr0:Region.ready .any ops (listed.setIfInBounds i true)=[]:=by
    cases e:Region.ready .any ops (listed.setIfInBounds i true) with
    |nil=>rfl
    |cons j l =>
     obtain⟨hj,hX,_⟩:=qC hsz' (i:=j) (by rw[e]; exact zE5 ..)
     rw[hall j hj]at hX; cases hX
   refine hk _ (fun act w' hq=>?_)
   cases fuel with
   |zero=>exact⟨hr0,hq⟩
   |succ fuel=>exact⟨fun _=>hq,fun i hi=>by rw[hr0]at hi; cases hi⟩
  |false =>
  have hb':∀ j,bI (listed.setIfInBounds i true) j=true->(D j).bad=false:=fun j hj=>by
   by_cases e:j=i
   ·rw[e]; exact hbi
   ·rw[r.rest j e]at hj; exact hb j hj
  rw[r.want T hbi ρ]
  cases hon:(D i).on with
  |false =>
   simp only[zC4,if_false]
   obtain⟨I',ha⟩:=r.off T hon I
   exact⟨fun f _=>hF.fn f,by rw[ha]; exact ih _ ρ w hsz' hl' hc' hb' I'⟩
  |true =>
   simp only[if_true]
   obtain⟨o',f1,f2,f3,f4,f5⟩:=T.fact i hlt
   rw[ho]at f1
   cases f1
   obtain⟨_,_,_,hsa⟩:=T.ex i (by omega)
   refine (f4 hon).1 _ _ (r.rel T hon I) (by rw[(aL _ _).1]; exact hsa) _ (r.QL T ρ) _ _ _ _ hF ?_
   intro ρ1 w1 s _
   obtain⟨I',ha⟩:=r.on T hon I s
   rw[ha]
   exact ih _ _ w1 hsz' hl' hc' hb' I'
end
section
variable {P : Program} {ρ : Ren} {H : aa} {w : World}
theorem Dk {rec:Rec} (hmix:P.follows .mixedOrders=true) (hrec:Sound P rec) {ops:Array Oper} {id:Nat} (hst:gj ops=true) {a a1:ag} {H1:aa} (h:km P rec ops (gS ops) ops.toList 0 [] a H=some (a1,H1)) (r:Rel P ρ H w) (hs:ic H.next a)
  {F:Fence} {n:Nat} {Q:Exit->Act->World->Prop} (hF:cZ F) (hQ:∀ ρ1 w1,St P ρ H w ρ1 H1 w1->ic H1.next a1->Q .normal (ρ1.act a1) w1):(Code.region id ops true).wpIn F n P Q (ρ.act a) w:=by
 obtain⟨D,A,HH,e1,e2,e3,e4,f1,f2,_,hnb⟩:=nN hrec ops.toList 0 [] a H a1 H1 ⟨[],by simp⟩ h
 simp only[zB8,Array.length_toList]at e3 e4 f1 f2
 have hfact:∀ i,i<ops.size->j5 P ops D A HH i:=fun i hi=>f1 i (zB7 _) hi
 have hex:=vR r (ops:=ops) (D:=D) (A:=A) (HH:=HH) (m:=ops.size) e2 (by rw[e1]; exact hs) hfact
 have T:kL P ops D A HH ρ w:=by
  refine⟨by rw[e2]; exact r,by rw[e2,e1]; exact hs,hfact,fun i j hij hj hi=>f2 i j (zB7 _) hij hj hi,fun j oj hoj=>jI ops.toList 0 (by simp) hst j oj (zB7 _) hoj,?_⟩
  rw[e2]; exact hex
 obtain⟨ρm,wm,hstm,hsa⟩:=hex ops.size (zA8 _)
 rw[e3,e4]at hsa
 refine wpIn_region_any hmix ?_
 have hX0:∀ j,bI (Array.replicate ops.size false) j=false:=fun j=>by
  unfold bI
  rw[Array.getD_eq_getD_getElem?,Array.getElem?_replicate]
  split<;>rfl
 obtain⟨I,ha⟩:=pJ (w:={w with drawn:=w.drawn+1}) T hX0 rfl rfl rfl rfl
 have:=vG T (n:=n) hF (Q:=Q) (fun i hi h=>by rw[hnb]at h; cases h) (fun i o hi h=>by rw[hnb]at h; cases h) (fun _ ρ1 w1 h1=>by
  rw[e2,e4]at h1
  rw[e3]
  exact hQ ρ1 w1 h1 hsa) ops.size (Array.replicate ops.size false) ρ _ (by simp) (by unfold left; exact zC3 (List.length_filter_le _ _) (by simp)) (fun j oj _ hX=>by rw[hX0]at hX; cases hX) (fun j _=>hnb j) I
 rw[ha,e1]at this
 exact this
theorem wP (hmix:P.follows .mixedOrders=true) {ops:Array Oper} {id:Nat} (hst:gj ops=true) {a a2:ag} {ch:List PanicEntry} {H2 H3:aa} {l:List Oper} {o:Oper} (hsplit:ops.toList=l++[o])
  (hanc:(List.range (ops.size-1)).all (fun j=>((gS ops).getD (ops.size-1) 0).testBit j)=true) {D0:Nat->tN} {A0:Nat->ag} {HH0:Nat->aa} (e1:A0 0=a) (e2:HH0 0=H) (e3:A0 (0+l.length)=a2) (e4:HH0 (0+l.length)=H2)
  (f1:∀ i,0<=i->i<0+l.length->j5 P ops D0 A0 HH0 i) (f2:∀ i j,0<=i->i<j->j<0+l.length->(D0 i).on=true->cN (gS ops) D0 HH0 j (pW D0 HH0 i)) (hnb:∀ i,(D0 i).bad=false)
  (hwant:cw ops a2 o=some true) (hop:ET P a2 H2 o (.error ch) H3) (r:Rel P ρ H w) (hs:ic H.next a)
  {F:Fence} {n:Nat} {Q:Exit->Act->World->Prop} (hF:cZ F) (hQ:∀ ρ1 w1,St P ρ H w ρ1 H3 w1->ic H3.next a2->L8 H3.next (.panic ch)->Q (ρ1.exit (.panic ch)) (ρ1.act a2) w1):(Code.region id ops true).wpIn F n P Q (ρ.act a) w:=by
 have hsz:ops.size=l.length+1:=by
  rw[<-Array.length_toList]
  conv=>lhs; rw[hsplit]
  simp
 obtain⟨m,hm⟩:=Go.Ax.bP l.length
 rw[hm]at hsz e3 e4 f1 f2
 simp only[zB8]at e3 e4 f1 f2
 have hom:ops[m]?=some o:=by
  rw[<-Array.getElem?_toList,hsplit,List.getElem?_append_right (by omega),hm]
  simp
 have hD:∀ i,i≠m->(fun i=>if i=m then (⟨false,undef,[],H2,true⟩:tN) else D0 i) i=D0 i:=fun i h=>if_neg h
 obtain⟨D,hDe⟩:∃ D:Nat->tN,D=fun i=>if i=m then⟨false,undef,[],H2,true⟩ else D0 i:=⟨_,rfl⟩
 obtain⟨A,hAe⟩:∃ A:Nat->ag,A=fun i=>if i=m+1 then a2.put o.dst undef else A0 i:=⟨_,rfl⟩
 obtain⟨HH,hHe⟩:∃ HH:Nat->aa,HH=fun i=>if i=m+1 then H2 else HH0 i:=⟨_,rfl⟩
 have dm:D m=⟨false,undef,[],H2,true⟩:=by rw[hDe]; simp
 have dn:∀ i,i≠m->D i=D0 i:=fun i h=>by rw[hDe]; simp[h]
 have am:A (m+1)=a2.put o.dst undef:=by rw[hAe]; simp
 have an:∀ i,i≠m+1->A i=A0 i:=fun i h=>by rw[hAe]; simp[h]
 have xm:HH (m+1)=H2:=by rw[hHe]; simp
 have xn:∀ i,i≠m+1->HH i=HH0 i:=fun i h=>by rw[hHe]; simp[h]
 clear hD hDe hAe hHe
 have am0:A m=a2:=by rw[an m (by omega)]; exact e3
 have xm0:HH m=H2:=by rw[xn m (by omega)]; exact e4
 have a00:A 0=a:=by rw[an 0 (by omega)]; exact e1
 have x00:HH 0=H:=by rw[xn 0 (by omega)]; exact e2
 have hfact:∀ i,i<ops.size->j5 P ops D A HH i:=fun i hi=>by
  by_cases e:i=m
  ·subst e
   exact⟨o,hom,by rw[am,am0,dm],fun h=>(by rw[dm]at h; cases h),fun h=>(by rw[dm]at h; cases h),fun _=>⟨by rw[dm],by rw[xm,xm0]⟩⟩
  ·obtain⟨o',g1,g2,g3,g4,g5⟩:=f1 i (zB7 _) (by omega)
   refine⟨o',g1,?_,?_,?_,?_⟩
   ·rw[an _ (by omega),an _ (by omega),dn i e]; exact g2
   ·rw[an _ (by omega),dn i e]; exact g3
   ·rw[an _ (by omega),dn i e,xn _ (by omega),xn _ (by omega)]; exact g4
   ·rw[dn i e,xn _ (by omega),xn _ (by omega)]; exact g5
 have hex:=vR r (ops:=ops) (D:=D) (A:=A) (HH:=HH) (m:=ops.size) x00 (by rw[a00]; exact hs) hfact
 have T:kL P ops D A HH ρ w:=by
  refine⟨by rw[x00]; exact r,by rw[x00,a00]; exact hs,hfact,fun i j hij hj hi=>?_,fun j oj hoj=>jI ops.toList 0 (by simp) hst j oj (zB7 _) hoj,?_⟩
  ·by_cases e:j=m
   ·intro h; rw[e,dm]at h; cases h
   ·have:=f2 i j (zB7 _) hij (by omega) (by rw[<-dn i (by omega)]; exact hi)
    simp only[cN,pW,dn j e,dn i (by omega),xn i (by omega),xn j (by omega)]at this ⊢
    exact this
  ·rw[x00]; exact hex
 obtain⟨ρm,wm,hstm,hsa⟩:=hex m (by omega)
 rw[am0,xm0]at hsa
 have hsx:HH ops.size=H2:=by rw[hsz,xm]
 refine wpIn_region_any hmix ?_
 have hX0:∀ j,bI (Array.replicate ops.size false) j=false:=fun j=>by
  unfold bI
  rw[Array.getD_eq_getD_getElem?,Array.getElem?_replicate]
  split<;>rfl
 obtain⟨I,ha⟩:=pJ (w:={w with drawn:=w.drawn+1}) T hX0 rfl rfl rfl rfl
 have hbm:∀ i,(D i).bad=true->i=m:=fun i h=>by
  by_cases e:i=m
  ·exact e
  ·rw[dn i e,hnb]at h; cases h
 have:=vG T (n:=n) hF (Q:=Q) (fun i hi h j hj cR=>?_) (fun i o' ho' h X X' ρ1 w1 hX r' I=>?_) (fun hall=>by have:=hall m (by omega); rw[dm]at this; cases this) ops.size (Array.replicate ops.size false) ρ _ (by simp) (by unfold left; exact zC3 (List.length_filter_le _ _) (by simp)) (fun j oj _ hX=>by rw[hX0]at hX; cases hX) (fun j hj=>by rw[hX0]at hj; cases hj) I
 ·rw[ha,a00]at this
  exact this
 ·obtain rfl:=hbm i h
  have:=zC6.1 hanc j (zG0.2 (by omega))
  rw[show ops.size-1=i by omega]at this
  exact this
 ·obtain rfl:=hbm i h
  rw[hom]at ho'
  obtain rfl:=Option.some.inj ho'
  obtain⟨I',_⟩:=r'.off T (by rw[dm]) I
  obtain⟨hst1,_⟩:=Bs T (fun j hj=>by
   by_cases e:j=i
   ·rw[e]; exact r'.now
   ·rw[r'.rest j e]; exact hX j hj e) I'
  rw[x00,hsx]at hst1
  have hact:ρ1.act (ax ops D (A 0) X ops.size)=ρ1.act a2:=by
   rw[<-am0]
   obtain⟨q1,q2⟩:=p6 (ops:=ops) (D:=D) (a:=A 0) (X:=X) ops.size
   obtain⟨z1,z2⟩:=T.GS (k:=i) (by omega)
   refine lf _ _ (by rw[q1,z1]) (by rw[q2,z2]) (fun t ht=>?_)
   rw[z1]at ht
   rw[kS (Y:=fun j=>decide (j<i)) ht ops.size (fun j hj _=>?_),vH ht ops.size (by omega),T.te i (by omega)]
   by_cases e:j=i
   ·rw[e,r'.not]; simp
   ·rw[hX j hj e]; exact (decide_eq_true (by omega)).symm
  rw[hact]
  refine⟨fY ρ1 hwant,fun K _=>hop ρ1 w1 hst1.rel hsa (ρ1.act a2) (fun _ _=>rfl) F n K Q hF (fun ρ2 w2 hst2 hp=>?_)⟩
  have:=hQ ρ2 w2 (hst1.trans hst2) (hsa.mono hst2.le.next) hp
  rw[fS hst2.ext hsa]at this
  exact this
theorem J2 (hmix:P.follows .mixedOrders=true) {ops:Array Oper} {id:Nat} (hst:gj ops=true) {a a2:ag} {v:Value} {H2 H3:aa} {l:List Oper} {o:Oper} (hsplit:ops.toList=l++[o])
  (hanc:(List.range (ops.size-1)).all (fun j=>((gS ops).getD (ops.size-1) 0).testBit j)=true) {D0:Nat->tN} {A0:Nat->ag} {HH0:Nat->aa} (e1:A0 0=a) (e2:HH0 0=H) (e3:A0 (0+l.length)=a2) (e4:HH0 (0+l.length)=H2)
  (f1:∀ i,0<=i->i<0+l.length->j5 P ops D0 A0 HH0 i) (f2:∀ i j,0<=i->i<j->j<0+l.length->(D0 i).on=true->cN (gS ops) D0 HH0 j (pW D0 HH0 i)) (hnb:∀ i,(D0 i).bad=false)
  (hwant:cw ops a2 o=some true) (hop:ET P a2 H2 o (.ok v) H3) (r:Rel P ρ H w) (hs:ic H.next a)
  {F:Fence} {n:Nat} {Q:Exit->Act->World->Prop} (hF:cZ F) (hQ:∀ ρ1 w1,St P ρ H w ρ1 H3 w1->ic H3.next (a2.put o.dst v)->Q .normal (ρ1.act (a2.put o.dst v)) w1):(Code.region id ops true).wpIn F n P Q (ρ.act a) w:=by
 have hsz:ops.size=l.length+1:=by
  rw[<-Array.length_toList]
  conv=>lhs; rw[hsplit]
  simp
 obtain⟨m,hm⟩:=Go.Ax.bP l.length
 rw[hm]at hsz e3 e4 f1 f2
 simp only[zB8]at e3 e4 f1 f2
 have hom:ops[m]?=some o:=by
  rw[<-Array.getElem?_toList,hsplit,List.getElem?_append_right (by omega),hm]
  simp
 have hD:∀ i,i≠m->(fun i=>if i=m then (⟨false,undef,[],H2,true⟩:tN) else D0 i) i=D0 i:=fun i h=>if_neg h
 obtain⟨D,hDe⟩:∃ D:Nat->tN,D=fun i=>if i=m then⟨false,undef,[],H2,true⟩ else D0 i:=⟨_,rfl⟩
 obtain⟨A,hAe⟩:∃ A:Nat->ag,A=fun i=>if i=m+1 then a2.put o.dst undef else A0 i:=⟨_,rfl⟩
 obtain⟨HH,hHe⟩:∃ HH:Nat->aa,HH=fun i=>if i=m+1 then H2 else HH0 i:=⟨_,rfl⟩
 have dm:D m=⟨false,undef,[],H2,true⟩:=by rw[hDe]; simp
 have dn:∀ i,i≠m->D i=D0 i:=fun i h=>by rw[hDe]; simp[h]
 have am:A (m+1)=a2.put o.dst undef:=by rw[hAe]; simp
 have an:∀ i,i≠m+1->A i=A0 i:=fun i h=>by rw[hAe]; simp[h]
 have xm:HH (m+1)=H2:=by rw[hHe]; simp
 have xn:∀ i,i≠m+1->HH i=HH0 i:=fun i h=>by rw[hHe]; simp[h]
 clear hD hDe hAe hHe
 have am0:A m=a2:=by rw[an m (by omega)]; exact e3
 have xm0:HH m=H2:=by rw[xn m (by omega)]; exact e4
 have a00:A 0=a:=by rw[an 0 (by omega)]; exact e1
 have x00:HH 0=H:=by rw[xn 0 (by omega)]; exact e2
 have hfact:∀ i,i<ops.size->j5 P ops D A HH i:=fun i hi=>by
  by_cases e:i=m
  ·subst e
   exact⟨o,hom,by rw[am,am0,dm],fun h=>(by rw[dm]at h; cases h),fun h=>(by rw[dm]at h; cases h),fun _=>⟨by rw[dm],by rw[xm,xm0]⟩⟩
  ·obtain⟨o',g1,g2,g3,g4,g5⟩:=f1 i (zB7 _) (by omega)
   refine⟨o',g1,?_,?_,?_,?_⟩
   ·rw[an _ (by omega),an _ (by omega),dn i e]; exact g2
   ·rw[an _ (by omega),dn i e]; exact g3
   ·rw[an _ (by omega),dn i e,xn _ (by omega),xn _ (by omega)]; exact g4
   ·rw[dn i e,xn _ (by omega),xn _ (by omega)]; exact g5
 have hex:=vR r (ops:=ops) (D:=D) (A:=A) (HH:=HH) (m:=ops.size) x00 (by rw[a00]; exact hs) hfact
 have T:kL P ops D A HH ρ w:=by
  refine⟨by rw[x00]; exact r,by rw[x00,a00]; exact hs,hfact,fun i j hij hj hi=>?_,fun j oj hoj=>jI ops.toList 0 (by simp) hst j oj (zB7 _) hoj,?_⟩
  ·by_cases e:j=m
   ·intro h; rw[e,dm]at h; cases h
   ·have:=f2 i j (zB7 _) hij (by omega) (by rw[<-dn i (by omega)]; exact hi)
    simp only[cN,pW,dn j e,dn i (by omega),xn i (by omega),xn j (by omega)]at this ⊢
    exact this
  ·rw[x00]; exact hex
 obtain⟨ρm,wm,hstm,hsa⟩:=hex m (by omega)
 rw[am0,xm0]at hsa
 have hsx:HH ops.size=H2:=by rw[hsz,xm]
 refine wpIn_region_any hmix ?_
 have hX0:∀ j,bI (Array.replicate ops.size false) j=false:=fun j=>by
  unfold bI
  rw[Array.getD_eq_getD_getElem?,Array.getElem?_replicate]
  split<;>rfl
 obtain⟨I,ha⟩:=pJ (w:={w with drawn:=w.drawn+1}) T hX0 rfl rfl rfl rfl
 have hbm:∀ i,(D i).bad=true->i=m:=fun i h=>by
  by_cases e:i=m
  ·exact e
  ·rw[dn i e,hnb]at h; cases h
 have:=vG T (n:=n) hF (Q:=Q) (fun i hi h j hj cR=>?_) (fun i o' ho' h X X' ρ1 w1 hX r' I=>?_) (fun hall=>by have:=hall m (by omega); rw[dm]at this; cases this) ops.size (Array.replicate ops.size false) ρ _ (by simp) (by unfold left; exact zC3 (List.length_filter_le _ _) (by simp)) (fun j oj _ hX=>by rw[hX0]at hX; cases hX) (fun j hj=>by rw[hX0]at hj; cases hj) I
 ·rw[ha,a00]at this
  exact this
 ·obtain rfl:=hbm i h
  have:=zC6.1 hanc j (zG0.2 (by omega))
  rw[show ops.size-1=i by omega]at this
  exact this
 ·obtain rfl:=hbm i h
  rw[hom]at ho'
  obtain rfl:=Option.some.inj ho'
  obtain⟨I',_⟩:=r'.off T (by rw[dm]) I
  obtain⟨hst1,_⟩:=Bs T (fun j hj=>by
   by_cases e:j=i
   ·rw[e]; exact r'.now
   ·rw[r'.rest j e]; exact hX j hj e) I'
  rw[x00,hsx]at hst1
  have hact:ρ1.act (ax ops D (A 0) X ops.size)=ρ1.act a2:=by
   rw[<-am0]
   obtain⟨q1,q2⟩:=p6 (ops:=ops) (D:=D) (a:=A 0) (X:=X) ops.size
   obtain⟨z1,z2⟩:=T.GS (k:=i) (by omega)
   refine lf _ _ (by rw[q1,z1]) (by rw[q2,z2]) (fun t ht=>?_)
   rw[z1]at ht
   rw[kS (Y:=fun j=>decide (j<i)) ht ops.size (fun j hj _=>?_),vH ht ops.size (by omega),T.te i (by omega)]
   by_cases e:j=i
   ·rw[e,r'.not]; simp
   ·rw[hX j hj e]; exact (decide_eq_true (by omega)).symm
  rw[hact]
  refine⟨fY ρ1 hwant,fun K hK=>hop ρ1 w1 hst1.rel hsa (ρ1.act a2) (fun _ _=>rfl) F n K Q hF (fun ρ2 w2 hst2 hp=>?_)⟩
  rw[<-fS hst2.ext hsa,jy]
  exact hK _ _ (hQ ρ2 w2 (hst1.trans hst2) ((hsa.mono hst2.le.next).put _ hp))
theorem zk {rec:Rec} (hmix:P.follows .mixedOrders=true) (hrec:Sound P rec) {ops:Array Oper} {id:Nat} (hst:gj ops=true) {a a1:ag} {e:Exit} {H1:aa} (h:tO P rec ops a H=some (e,a1,H1)) (r:Rel P ρ H w) (hs:ic H.next a)
  {F:Fence} {n:Nat} {Q:Exit->Act->World->Prop} (hF:cZ F) (hQ:∀ ρ1 w1,St P ρ H w ρ1 H1 w1->ic H1.next a1->L8 H1.next e->Q (ρ1.exit e) (ρ1.act a1) w1):(Code.region id ops true).wpIn F n P Q (ρ.act a) w:=by
 unfold tO at h
 split at h
 ·rename_i o a2 H2 hlast hrun
  split at h
  ·rename_i hanc
   split at h
   ·rename_i ch H3 hwant hop
    simp only[Option.some.injEq,Prod.mk.injEq]at h
    obtain⟨rfl,rfl,rfl⟩:=h
    have hsplit:ops.toList=ops.toList.dropLast++[o]:=by
     obtain⟨ys,hys⟩:=List.getLast?_eq_some_iff.1 hlast
     rw[hys,List.dropLast_concat]
    obtain⟨D0,A0,HH0,e1,e2,e3,e4,f1,f2,_,hnb⟩:=nN hrec ops.toList.dropLast 0 [] a H a2 H2 ⟨[o],by simpa using hsplit⟩ hrun
    exact wP hmix hst hsplit hanc e1 e2 e3 e4 f1 f2 hnb hwant (GF hrec hop) r hs hF hQ
   ·cases h
  ·cases h
 ·cases h
theorem E8 {rec:Rec} (hrec:Sound P rec) {ro:Option Nat} {g:Operand} {fv:Value} {ps:Array Tmp} {assign body:Code} {a a1:ag} {e:Exit} {H1:aa} (hg:aK P a g=some fv)
  (h:F1 P rec ro fv ps assign body a H=some (e,a1,H1)) (r:Rel P ρ H w) (hs:ic H.next a) (hro:∀ l,ro=some l->l<H.next)
  {F:Fence} {n:Nat} {Q:Exit->Act->World->Prop} (hF:cZ F) (hFr:F.round=ro.map ρ.blk) (hQ:∀ ρ1 w1,St P ρ H w ρ1 H1 w1->ic H1.next a1->L8 H1.next e->Q (ρ1.exit e) (ρ1.act a1) w1) :
  (Code.rangeFunc g ps assign body).wpIn F n P Q (ρ.act a) w:=by
 unfold F1 at h
 split at h
 ·rename_i fn first captured
  simp only[zA1,zA2]at h
  obtain⟨⟨l,mark,H2⟩,hen,res,hres,h⟩:=h
  simp only at hres h
  split at h
  ·rename_i f args
   simp only[zA2]at h
   obtain⟨⟨out,H3⟩,hcall,haft⟩:=h
   refine wpIn_rangeFunc (fun fnid _=>?_)
   obtain⟨ρ1,w1,s1,hrun,hl,hmk⟩:=qi r hro hs.1 hen fnid
   obtain⟨ρ2,w2,s2,hinv⟩:=lD s1.rel hres
   have hfsc:=cI r.glob.1 hs hg
   have hf2:=Bf (cM s1.le.next _ hfsc)
   have hsargs:aO H2.next args=true:=nt s1.rel.FX hf2.1 (cB hf2.2.1 (by simp only[aO,aS,fb,Bool.and_true]; exact a8 hl)) hf2.2.2 hres
   have hfv:(ρ.act a).eval g=ρ1.val (.func fn first captured):=by rw[aI r hg,gE s1.ext _ hfsc]
   have e1:ρ1.val (.func fn first captured)=.func (ρ1.fn fn) (first.map ρ1.val) (captured.map ρ1.val):=by rw[Ren.val,Ren.dJ,Ren.dJ]
   have e2:first.map ρ1.val++#[(.func (.yield (ρ1.blk l)) #[] #[]:Value)]=((first.toList++[(.func (.yield l) #[] #[]:Value)]).map ρ1.val).toArray:=by
    apply Array.ext'
    simp[Ren.val,Ren.fn,Ren.ez,Ren.gM]
   have e3:captured.map ρ1.val=(captured.toList.map ρ1.val).toArray:=by apply Array.ext'; simp
   simp only[gz]at hinv
   have hs1:ic H2.next a:=hs.mono s1.le.next
   have hs2:ic H2.next {a with defers:=mark++a.defers}:=⟨hs1.1,fun d hd=>by
    rcases zB2.1 hd with hd|hd
    ·exact hmk d hd
    ·exact hs1.2 d hd⟩
   have hsame:({ρ.act a with defers:=mark.map ρ1.rM++(ρ.act a).defers}:Act)=ρ1.act {a with defers:=mark++a.defers}:=by
    have h1:=fS s1.ext hs
    have h2:(ρ.act a).tmps=ρ1.tmps a.env:=by rw[<-h1]; rfl
    have h3:(ρ.act a).defers=a.defers.map ρ1.rM:=by rw[<-h1]; rfl
    show (⟨(ρ.act a).tmps,mark.map ρ1.rM++(ρ.act a).defers⟩:Act)=⟨ρ1.tmps a.env,(mark++a.defers).map ρ1.rM⟩
    rw[h2,h3,List.map_append]
   refine⟨ρ1.blk l,mark.map ρ1.rM,w1,{target:=.fn (ρ1.fn fn) (captured.map ρ1.val),args:=first.map ρ1.val++#[(.func (.yield (ρ1.blk l)) #[] #[]:Value)]},w1,f,_,w2,?_,?_,fun f' _=>hF.fn f',?_,hF.deep,AP hrec s2.rel hcall hsargs hF ?_⟩
   ·rw[hFr]; exact hrun
   ·simp only[resolve,hfv,e1]
    simp[Act.eval,Deferred.ofValue]
   ·simp only[e2,e3]; exact hinv
   ·intro ρ3 w3 s3
    have hn2:H2.next<=H3.next:=(s2.trans s3).le.next
    have hlb:ρ3.blk l=ρ1.blk l:=((s2.trans s3).ext.blk l hl)
    have hs3:ic H3.next {a with defers:=mark++a.defers}:=hs2.mono hn2
    have hact3:ρ3.act {a with defers:=mark++a.defers}=ρ1.act {a with defers:=mark++a.defers}:=fS (s2.trans s3).ext hs2
    have stot:=(s1.trans s2).trans s3
    cases out with
    |ok v =>
     simp only[qK,zA1,zA2]at haft
     obtain⟨⟨lp,le⟩,hlp,haft⟩:=haft
     simp only at haft
     have hnb:lp.state≠.busy:=by intro hb; rw[hb]at haft; cases haft
     obtain⟨fn3,hgl,w4,hset,s4⟩:=lJ s3.rel (lp':={lp with state:=.exhausted}) hlp rfl
     rw[hlb]at hgl hset
     have hn4:(eM H3 l {lp with state:=.exhausted} le).next=H3.next:=rfl
     have hendl:(Instr.endLoop (ρ1.blk l)).run P w3=.ok lp.pending w4:=by
      have hb:(lp.state == .busy)=false:=by simpa using hnb
      simp only[Instr.endLoop,Sem.run_bind,hgl,Result.andThen_ok,hb,zC4,if_false]
      rw[show ({({lp with fn:=fn3,tmps:=ρ3.tmps le,defers:=ρ3.blk lp.defers}:Loop) with state:=.exhausted}:Loop) =
       {({lp with state:=.exhausted}:Loop) with fn:=fn3,tmps:=ρ3.tmps le,defers:=ρ3.blk lp.defers} from rfl,hset]
      simp
     intro _
     refine⟨lp.pending,w4,hendl,?_⟩
     rw[hsame,<-hact3]
     have hcase:(match lp.pending with
       |none=>some (Exit.normal,({a with defers:=mark++a.defers}:ag),eM H3 l {lp with state:=.exhausted} le)
       |some c=>rec.run ro c {a with defers:=mark++a.defers} (eM H3 l {lp with state:=.exhausted} le))=some (e,a1,H1):=by
      cases hst:lp.state with
      |busy=>exact absurd hst hnb
      |ready=>rw[hst]at haft; exact haft
      |done=>rw[hst]at haft; exact haft
      |exhausted=>rw[hst]at haft; exact haft
     generalize eM H3 l {lp with state:=.exhausted} le=H4 at s4 hn4 hcase
     split
     ·rename_i hp
      rw[hp]at hcase
      simp only[Option.some.injEq,Prod.mk.injEq]at hcase
      obtain⟨rfl,rfl,rfl⟩:=hcase
      exact hQ ρ3 w4 (stot.trans s4) (hs3.mono (Nat.le_of_eq hn4.symm)) trivial
     ·rename_i c hp
      rw[hp]at hcase
      have hro4:∀ l0,ro=some l0->l0<H4.next:=fun l0 h0=>by
       rw[hn4]; exact zD5 (hro l0 h0) stot.le.next
      have hFr4:F.round=ro.map ρ3.blk:=by
       rw[hFr]
       cases ro with
       |none=>rfl
       |some l0=>simp only[zA9]; rw[stot.ext.blk l0 (hro l0 rfl)]
      refine hrec.run ro c _ _ e a1 H1 hcase ρ3 w4 F n Q hF hFr4 hro4 s4.rel (hs3.mono (Nat.le_of_eq hn4.symm)) ?_
      intro ρ5 w5 s5 h1 h2
      exact hQ ρ5 w5 ((stot.trans s4).trans s5) h1 h2
    |error ch =>
     intro hch
     simp only[qK,Option.some.injEq,Prod.mk.injEq]at haft
     obtain⟨rfl,rfl,rfl⟩:=haft
     show Q (.panic (ch.map ρ3.pe)) _ w3
     rw[hsame,<-hact3]
     exact hQ ρ3 w3 stot hs3 hch
  ·cases h
 ·cases h
theorem iy {b:Frame} {a:Act} {k:List Item} {cs:List Frame} {c:Code}:Go.step P (lone (b.atR a (.code (.scope c)::k)) cs w)=.next (lone (b.atR a (.code c::.inScope c::k)) cs w) :=
 step_lone_go (by simp[stepG,stepG.exec,Frame.atR])
theorem y8 {b:Frame} {a:Act} {k:List Item} {cs:List Frame} {c:Code}:Go.step P (lone (b.atR a (.inScope c::k)) cs w)=.next (lone (b.atR a k) cs w) :=
 step_lone_go (by simp[stepG,stepG.exec,Frame.atR])
theorem wJ {F:Fence} {n:Nat} {Q:Exit->Act->World->Prop} {a:Act} {c:Code} (h:c.wpIn F n P (Exit.noGoto Q) a w):(Code.scope c).wpIn F n P Q a w:=by
 intro b k cs hro hb hr
 have h0:(lone (b.atR a (.code (.scope c)::k)) cs w).fenced P F:=fenced_calm hb hr rfl
 obtain⟨e,a₁,w₁,hq,harr⟩:=h b (.inScope c::k) cs hro hb hr
 cases e with
 |normal=>exact⟨.normal,a₁,w₁,hq,.head h0 iy (StepsIn.trans harr (.one (fenced_calm hb hr rfl) y8))⟩
 |exit id =>
  have hx:exitTo id (.inScope c::k)=exitTo id k:=by simp[exitTo]
  exact⟨.exit id,a₁,w₁,hq,fun k' hk=>.head h0 iy (harr.1 k' (by rw[hx]; exact hk)),
    fun hr' hk=>let ⟨k₁,h1,h2⟩:=harr.2 hr' (by rw[hx]; exact hk); ⟨k₁,h1,.head h0 iy h2⟩⟩
 |goto l=>exact hq.elim
 |ret=>exact⟨_,a₁,w₁,hq,.of_steps (.one h0 iy) harr⟩
 |panic ch=>exact⟨_,a₁,w₁,hq,.of_steps (.one h0 iy) harr⟩
 |outgrown=>exact⟨_,a₁,w₁,hq,.of_steps (.one h0 iy) harr⟩
def me (P:Program) (rec:Rec) (m:Nat):Prop :=
 ∀ (ro:Option Nat) (b:Code) (a:ag) (H:aa) (e:Exit) (a1:ag) (H1:aa),rec.run ro (.loop b) a H=some (e,a1,H1) ->
  ∀ (ρ:Ren) (w:World) (F:Fence) (n:Nat) (Q:Exit->Act->World->Prop),cZ F->F.round=ro.map ρ.blk->(∀ l,ro=some l->l<H.next)->Rel P ρ H w->ic H.next a ->
   (∀ ρ1 w1,St P ρ H w ρ1 H1 w1->ic H1.next a1->L8 H1.next e->Q (ρ1.exit e) (ρ1.act a1) w1)->Code.roundsIn F n P b Q m (ρ.act a) w
theorem wH {rec:Rec} (hrec:Sound P rec) {m:Nat} (hl:me P rec m):me P ⟨fun ro c a H=>step c P rec ro a H,rec.know⟩ (m+1):=by
 intro ro b a H e a1 H1 h ρ w F n Q hF hFr hro r hs hQ
 simp only[step,Lc]at h
 rw[roundsIn_succ]
 split at h
 ·rename_i a2 H2 hx
  refine hrec.run ro b a H .normal a2 H2 hx ρ w F n _ hF hFr hro r hs ?_
  intro ρ1 w1 s1 h1 _
  have hFr1:F.round=ro.map ρ1.blk:=by
   rw[hFr]
   cases ro with
   |none=>rfl
   |some l0=>simp only[zA9]; rw[s1.ext.blk l0 (hro l0 rfl)]
  refine hl ro b a2 H2 e a1 H1 h ρ1 w1 F n Q hF hFr1 (fun l hl=>zD5 (hro l hl) s1.le.next) s1.rel h1 ?_
  intro ρ2 w2 s2 h2 h3
  exact hQ ρ2 w2 (s1.trans s2) h2 h3
 ·rename_i cR
  refine hrec.run ro b a H e a1 H1 h ρ w F n _ hF hFr hro r hs ?_
  intro ρ1 w1 s1 h1 h2
  have:=hQ ρ1 w1 s1 h1 h2
  cases e with
  |normal=>exact absurd h (cR a1 H1)
  |_=>exact this
theorem FZ (hmix:P.follows .mixedOrders=true) {rec:Rec} (hrec:Sound P rec) {m:Nat} (hl:me P rec m):Sound P ⟨fun ro c a H=>step c P rec ro a H,rec.know⟩:=by
 refine⟨?_,hrec.know⟩
 intro ro c a H e a1 H1 h ρ w F n Q hF hFr hro r hs hQ
 simp only at h
 cases c with
 |skip =>
  simp only[step,qo,Option.some.injEq,Prod.mk.injEq]at h
  obtain⟨rfl,rfl,rfl⟩:=h
  exact wpIn_skip (hQ ρ w (St.refl r) hs trivial)
 |label l =>
  simp only[step,qo,Option.some.injEq,Prod.mk.injEq]at h
  obtain⟨rfl,rfl,rfl⟩:=h
  exact wpIn_label (hQ ρ w (St.refl r) hs trivial)
 |exit id =>
  simp only[step,qo,Option.some.injEq,Prod.mk.injEq]at h
  obtain⟨rfl,rfl,rfl⟩:=h
  exact wpIn_exit (hQ ρ w (St.refl r) hs trivial)
 |goto l =>
  simp only[step,qo,Option.some.injEq,Prod.mk.injEq]at h
  obtain⟨rfl,rfl,rfl⟩:=h
  exact wpIn_goto (hQ ρ w (St.refl r) hs trivial)
 |ret =>
  simp only[step,qo,Option.some.injEq,Prod.mk.injEq]at h
  obtain⟨rfl,rfl,rfl⟩:=h
  exact wpIn_ret (hQ ρ w (St.refl r) hs trivial)
 |seq x y =>
  simp only[step,Pj]at h
  refine wpIn_seq ?_
  split at h
  ·rename_i a2 H2 hx
   refine hrec.run ro x a H .normal a2 H2 hx ρ w F n _ hF hFr hro r hs ?_
   intro ρ1 w1 s1 h1 _
   have hFr1:F.round=ro.map ρ1.blk:=by
    rw[hFr]
    cases ro with
    |none=>rfl
    |some l0=>simp only[zA9]; rw[s1.ext.blk l0 (hro l0 rfl)]
   refine hrec.run ro y a2 H2 e a1 H1 h ρ1 w1 F n Q hF hFr1 (fun l hl=>zD5 (hro l hl) s1.le.next) s1.rel h1 ?_
   intro ρ2 w2 s2 h2 h3
   exact hQ ρ2 w2 (s1.trans s2) h2 h3
  ·rename_i cR
   refine hrec.run ro x a H e a1 H1 h ρ w F n _ hF hFr hro r hs ?_
   intro ρ1 w1 s1 h1 h2
   have:=hQ ρ1 w1 s1 h1 h2
   cases e with
   |normal=>exact absurd h (cR a1 H1)
   |_=>exact this
 |cond c x y =>
  simp only[step,Mq]at h
  split at h
  ·rename_i hc
   refine wpIn_cond_true (by rw[aI r hc]; simp[Ren.val]) ?_
   exact hrec.run ro x a H e a1 H1 h ρ w F n Q hF hFr hro r hs hQ
  ·rename_i hc
   refine wpIn_cond_false (by rw[aI r hc]; simp[Ren.val]) ?_
   exact hrec.run ro y a H e a1 H1 h ρ w F n Q hF hFr hro r hs hQ
  ·cases h
 |block id b =>
  simp only[step,Hg]at h
  refine wpIn_block ?_
  split at h
  ·rename_i k a2 H2 hb
   refine hrec.run ro b a H (.exit k) a2 H2 hb ρ w F n _ hF hFr hro r hs ?_
   intro ρ1 w1 s1 h1 _
   simp only[Ren.exit,Exit.inBlock]
   split at h
   ·rename_i hk
    simp only[Option.some.injEq,Prod.mk.injEq]at h
    obtain⟨rfl,rfl,rfl⟩:=h
    rw[if_pos hk]; exact hQ ρ1 w1 s1 h1 trivial
   ·rename_i hk
    simp only[Option.some.injEq,Prod.mk.injEq]at h
    obtain⟨rfl,rfl,rfl⟩:=h
    rw[if_neg hk]; exact hQ ρ1 w1 s1 h1 trivial
  ·rename_i cR
   refine hrec.run ro b a H e a1 H1 h ρ w F n _ hF hFr hro r hs ?_
   intro ρ1 w1 s1 h1 h2
   have:=hQ ρ1 w1 s1 h1 h2
   cases e with
   |exit k=>exact absurd h (cR k a1 H1)
   |_=>exact this
 |loop b =>
  exact wpIn_loop_rounds (m+1) (wH hrec hl ro b a H e a1 H1 h ρ w F n Q hF hFr hro r hs hQ)
 |region id ops draw =>
  simp only[step,EA]at h
  cases draw with
  |true =>
   simp only at h
   split at h
   ·rename_i hst
    split at h
    ·rename_i q hrun
     simp only[Option.some.injEq,Prod.mk.injEq]at h
     obtain⟨rfl,rfl,rfl⟩:=h
     exact Dk hmix hrec hst hrun r hs hF (fun ρ1 w1 s1 h1=>hQ ρ1 w1 s1 h1 trivial)
    ·exact zk hmix hrec hst h r hs hF hQ
   ·cases h
  |false =>
   simp only at h
   refine wpIn_region ?_
   rw[List.range_eq_range']
   have:=nQ hrec (n:=n) (Q:=Q) hF (fun ht=>by rw[hFr]; cases ro with|none=>rfl|some l=>cases ht) ops.toList 0 ρ H w a e a1 H1 (by simp) h r hs hQ
   simpa using this
 |rangeFunc f ps assign body =>
  simp only[step,HY,zA1,zA2]at h
  obtain⟨fv,hfv,h⟩:=h
  exact E8 hrec hfv h r hs hro hF hFr hQ
 |scope b =>
  simp only[step,IL]at h
  refine wJ ?_
  split at h
  ·cases h
  ·rename_i cR
   refine hrec.run ro b a H e a1 H1 h ρ w F n _ hF hFr hro r hs ?_
   intro ρ1 w1 s1 h1 h2
   have:=hQ ρ1 w1 s1 h1 h2
   cases e with
   |goto k=>exact absurd h (cR k a1 H1)
   |_=>exact this
 |refuse s=>simp[step,K3]at h
def KK (P:Program) (K:FuncId->List Value->aa->Option (Value × aa)):Prop :=
 ∀ (f:FuncId) (args:List Value) (v:Value) (H H1:aa),K f args H=some (v,H1)->br P f args H (.ok v) H1
def yr (P:Program) (K:FuncId->List Value->aa->Option Value):Prop :=
 ∀ (f:FuncId) (args:List Value) (v:Value) (H:aa),K f args H=some v->af v=true /\
  ∀ (ρ:Ren) (F:Fence) (n:Nat) (w:World),Rel P ρ H w->aO H.next args=true->cZ F->CallsIn F n P f (args.map ρ.val).toArray w (fun e w'=>e=.returned v/\RowKit.Below w.heap.size w w')
theorem yr.lift {K:FuncId->List Value->aa->Option Value} (hK:yr P K):KK P (LC K):=by
 intro f args v H H1 h ρ w r hsc F n R hF hR
 unfold LC at h
 split at h
 ·rename_i v' hk
  simp only[Option.some.injEq,Prod.mk.injEq]at h
  obtain⟨rfl,rfl⟩:=h
  obtain⟨h2,h3⟩:=hK f args v' _ hk
  refine (h3 ρ F n w r hsc hF).mono ?_
  rintro e w1 ⟨rfl,hb⟩
  have:=hR ρ w1 (St.below r hb)
  simp only[df ρ v' h2]at this
  exact this (fK _ h2)
 ·cases h
theorem uh (hmix:P.follows .mixedOrders=true) {K:FuncId->List Value->aa->Option (Value × aa)} (hK:KK P K):∀ fuel,Sound P (yu P K fuel)/\me P (yu P K fuel) fuel
 |0=>⟨⟨fun ro c a H e a1 H1 h=>by simp[yu]at h,hK⟩,fun ro b a H e a1 H1 h=>by simp[yu]at h⟩
 |n+1=>by
  obtain⟨i1,i2⟩:=uh hmix hK n
  have hk:(yu P K n).know=K:=by cases n<;>rfl
  have h1:=FZ hmix i1 i2
  have h2:=wH i1 i2
  rw[hk]at h1 h2
  exact⟨h1,h2⟩
theorem xA (hmix:P.follows .mixedOrders=true) {K:FuncId->List Value->aa->Option Value} (hK:yr P K) (fuel:Nat):Sound P (exec P K fuel)/\me P (exec P K fuel) fuel:=uh hmix hK.lift fuel
end
section
variable {P : Program} {ro : Option Nat} {a a1 a2 : ag} {H H1 H2 : aa} {e : Exit}
theorem de.skip:de P ro .skip a H .normal a H:=fun ρ w _ _ _ _ _ _ r hs hQ=>wpIn_skip (hQ ρ w (St.refl r) hs trivial)
theorem de.label {l:Nat}:de P ro (.label l) a H .normal a H:=fun ρ w _ _ _ _ _ _ r hs hQ=>wpIn_label (hQ ρ w (St.refl r) hs trivial)
theorem de.exit {id:Nat}:de P ro (.exit id) a H (.exit id) a H:=fun ρ w _ _ _ _ _ _ r hs hQ=>wpIn_exit (hQ ρ w (St.refl r) hs trivial)
theorem de.goto {l:Nat}:de P ro (.goto l) a H (.goto l) a H:=fun ρ w _ _ _ _ _ _ r hs hQ=>wpIn_goto (hQ ρ w (St.refl r) hs trivial)
theorem de.ret:de P ro .ret a H .ret a H:=fun ρ w _ _ _ _ _ _ r hs hQ=>wpIn_ret (hQ ρ w (St.refl r) hs trivial)
theorem pT {F:Fence} {ρ ρ1:Ren} {w w1:World} (hFr:F.round=ro.map ρ.blk) (hro:∀ l,ro=some l->l<H.next) (s:St P ρ H w ρ1 H1 w1):F.round=ro.map ρ1.blk:=by
 rw[hFr]
 cases ro with
 |none=>rfl
 |some l0=>simp only[zA9]; rw[s.ext.blk l0 (hro l0 rfl)]
theorem de.seq {x y:Code} (h1:de P ro x a H .normal a2 H2) (h2:de P ro y a2 H2 e a1 H1):de P ro (.seq x y) a H e a1 H1:=by
 intro ρ w F n Q hF hFr hro r hs hQ
 refine wpIn_seq (h1 ρ w F n _ hF hFr hro r hs ?_)
 intro ρ1 w1 s1 k1 _
 refine h2 ρ1 w1 F n Q hF (pT hFr hro s1) (fun l hl=>zD5 (hro l hl) s1.le.next) s1.rel k1 ?_
 intro ρ2 w2 s2 k2 k3
 exact hQ ρ2 w2 (s1.trans s2) k2 k3
theorem de.rV {x y:Code} (h1:de P ro x a H e a1 H1) (cR:e≠.normal):de P ro (.seq x y) a H e a1 H1:=by
 intro ρ w F n Q hF hFr hro r hs hQ
 refine wpIn_seq (h1 ρ w F n _ hF hFr hro r hs ?_)
 intro ρ1 w1 s1 k1 k2
 have:=hQ ρ1 w1 s1 k1 k2
 cases e with
 |normal=>exact absurd rfl cR
 |_=>exact this
theorem de.cond {c:Operand} {x y:Code} {b:Bool} (hc:aK P a c=some (.bool b)) (h:de P ro (if b then x else y) a H e a1 H1):de P ro (.cond c x y) a H e a1 H1:=by
 intro ρ w F n Q hF hFr hro r hs hQ
 cases b with
 |true=>exact wpIn_cond_true (by rw[aI r hc]; simp[Ren.val]) (h ρ w F n Q hF hFr hro r hs hQ)
 |false=>exact wpIn_cond_false (by rw[aI r hc]; simp[Ren.val]) (h ρ w F n Q hF hFr hro r hs hQ)
def Ct (id:Nat):Exit->Exit
 |.exit k=>if k=id then .normal else .exit k
 |e=>e
theorem de.block {id:Nat} {b:Code} (h:de P ro b a H e a1 H1):de P ro (.block id b) a H (Ct id e) a1 H1:=by
 intro ρ w F n Q hF hFr hro r hs hQ
 refine wpIn_block (h ρ w F n _ hF hFr hro r hs ?_)
 intro ρ1 w1 s1 k1 k2
 cases e with
 |exit k =>
  simp only[Ren.exit,Exit.inBlock]
  by_cases hk:k=id
  ·rw[if_pos hk]
   have:=hQ ρ1 w1 s1 k1 (by simp[Ct,hk,L8])
   simpa[Ct,hk,Ren.exit]using this
  ·rw[if_neg hk]
   have:=hQ ρ1 w1 s1 k1 (by simp[Ct,hk,L8])
   simpa[Ct,hk,Ren.exit]using this
 |_=>exact hQ ρ1 w1 s1 k1 k2
theorem de.scope {b:Code} (h:de P ro b a H e a1 H1) (cR:∀ l,e≠.goto l):de P ro (.scope b) a H e a1 H1:=by
 intro ρ w F n Q hF hFr hro r hs hQ
 refine wJ (h ρ w F n _ hF hFr hro r hs ?_)
 intro ρ1 w1 s1 k1 k2
 have:=hQ ρ1 w1 s1 k1 k2
 cases e with
 |goto l=>exact absurd rfl (cR l)
 |_=>exact this
def gV (P:Program) (ro:Option Nat) (b:Code) (m:Nat) (a:ag) (H:aa) (e:Exit) (a1:ag) (H1:aa):Prop :=
 ∀ (ρ:Ren) (w:World) (F:Fence) (n:Nat) (Q:Exit->Act->World->Prop),cZ F->F.round=ro.map ρ.blk->(∀ l,ro=some l->l<H.next)->Rel P ρ H w->ic H.next a ->
  (∀ ρ1 w1,St P ρ H w ρ1 H1 w1->ic H1.next a1->L8 H1.next e->Q (ρ1.exit e) (ρ1.act a1) w1)->Code.roundsIn F n P b Q m (ρ.act a) w
theorem gV.next {b:Code} {m:Nat} (h1:de P ro b a H .normal a2 H2) (h2:gV P ro b m a2 H2 e a1 H1):gV P ro b (m+1) a H e a1 H1:=by
 intro ρ w F n Q hF hFr hro r hs hQ
 rw[roundsIn_succ]
 refine h1 ρ w F n _ hF hFr hro r hs ?_
 intro ρ1 w1 s1 k1 _
 refine h2 ρ1 w1 F n Q hF (pT hFr hro s1) (fun l hl=>zD5 (hro l hl) s1.le.next) s1.rel k1 ?_
 intro ρ2 w2 s2 k2 k3
 exact hQ ρ2 w2 (s1.trans s2) k2 k3
theorem gV.last {b:Code} {m:Nat} (h1:de P ro b a H e a1 H1) (cR:e≠.normal):gV P ro b (m+1) a H e a1 H1:=by
 intro ρ w F n Q hF hFr hro r hs hQ
 rw[roundsIn_succ]
 refine h1 ρ w F n _ hF hFr hro r hs ?_
 intro ρ1 w1 s1 k1 k2
 have:=hQ ρ1 w1 s1 k1 k2
 cases e with
 |normal=>exact absurd rfl cR
 |_=>exact this
theorem de.loop {b:Code} {m:Nat} (h:gV P ro b m a H e a1 H1):de P ro (.loop b) a H e a1 H1 :=
 fun ρ w F n Q hF hFr hro r hs hQ=>wpIn_loop_rounds m (h ρ w F n Q hF hFr hro r hs hQ)
def QZ (P:Program) (x:cP) (H:aa) (out:Out) (H1:aa):Prop :=
 match x with
 |.value v=>out=.ok v/\H1=H
 |.skip=>out=.ok undef/\H1=H
 |.enter f args=>br P f args H out H1
 |.round r=>BB P r H out H1
 |.panic v=>out=.error [{v,recovered:=false}]/\H1=H
theorem fP {o:Oper} {x:cP} {g:aa} {out:Out} (hx:ck o.op P a H=some (x,g)) (h:QZ P x g out H1):ET P a H o out H1:=by
 intro ρ w r hs ca hca F n K Q hF hR
 have hsn:=A2 r.glob.1 r.FX hs hx
 obtain⟨⟨ρ1,w1,hst,hrun⟩,hnd⟩:=sg r hx
 refine⟨fun f _=>hF.fn f,?_⟩
 have hsel:∀ cs b,o.op≠.select cs b:=fun cs b e=>by rw[e]at hx; simp[ck,EL]at hx
 rw[Oper.semAt_eq _ _ _ hnd,execOp_congr o hsel hca]
 cases x with
 |value v =>
  obtain⟨rfl,rfl⟩:=h
  simp only[gz]at hrun
  rw[hrun,Oper.uponIn_value]
  exact hR ρ1 w1 hst hsn
 |skip =>
  obtain⟨rfl,rfl⟩:=h
  simp only[gz]at hrun
  rw[hrun,Oper.uponIn_skip]
  have:=hR ρ1 w1 hst (eG _)
  simpa using this
 |enter f args =>
  simp only[gz]at hrun
  rw[hrun,Oper.uponIn_enter]
  refine⟨hF.deep,h ρ1 w1 hst.rel hsn F (n-1) _ hF ?_⟩
  intro ρ2 w2 hst2
  cases out with
  |ok v=>exact hR ρ2 w2 (hst.trans hst2)
  |error ch=>exact hR ρ2 w2 (hst.trans hst2)
 |round rd =>
  simp only[gz]at hrun
  obtain⟨fn,hrun⟩:=hrun
  rw[hrun,Oper.uponIn_round]
  refine⟨hF.deep,h ρ1 w1 hst.rel hsn.1 hsn.2 F (n-1) fn _ hF ?_⟩
  intro ρ2 w2 hst2
  cases out with
  |ok v=>exact hR ρ2 w2 (hst.trans hst2)
  |error ch=>exact hR ρ2 w2 (hst.trans hst2)
 |panic v =>
  obtain⟨rfl,rfl⟩:=h
  simp only[gz]at hrun
  rw[hrun,Oper.uponIn_panic]
  exact hR ρ1 w1 hst (fun p hp=>by simp at hp; subst hp; exact hsn)
def bF (P:Program) (f:FuncId) (args:List Value) (H:aa) (R:Out->aa->Prop):Prop:=∃ out H1,br P f args H out H1/\R out H1
def M3 (P:Program) (r:Round) (H:aa) (R:Out->aa->Prop):Prop:=∃ out H1,BB P r H out H1/\R out H1
def mn (P:Program) (x:cP) (H:aa) (R:Out->aa->Prop):Prop :=
 match x with
 |.value v=>R (.ok v) H
 |.skip=>R (.ok undef) H
 |.enter f args=>bF P f args H R
 |.round r=>M3 P r H R
 |.panic v=>R (.error [{v,recovered:=false}]) H
def zi (P:Program) (op:Op) (a:ag) (H:aa) (R:Out->aa->Prop):Prop :=
 match ck op P a H with
 |some (x,g)=>mn P x g R
 |none=>False
theorem AD {o:Oper} {R:Out->aa->Prop} (h:zi P o.op a H R):∃ out H1,ET P a H o out H1/\R out H1:=by
 unfold zi at h
 split at h
 ·rename_i x g hx
  cases x with
  |value v=>exact⟨_,_,fP hx ⟨rfl,rfl⟩,h⟩
  |skip=>exact⟨_,_,fP hx ⟨rfl,rfl⟩,h⟩
  |enter f args=>obtain⟨out,H1,h2,h4⟩:=h; exact⟨out,H1,fP hx h2,h4⟩
  |round r=>obtain⟨out,H1,h2,h4⟩:=h; exact⟨out,H1,fP hx h2,h4⟩
  |panic v=>exact⟨_,_,fP hx ⟨rfl,rfl⟩,h⟩
 ·exact h.elim
def wpOps (P:Program) (ro:Option Nat) (ops:Array Oper):List Oper->ag->aa->(Exit->ag->aa->Prop)->Prop
 |[],a,H,Q=>Q .normal a H
 |o::rest,a,H,Q =>
  match cw ops a o with
  |some true =>
   (match ro,px P a o.op with
   |none,some d=>wpOps P ro ops rest (ag.put ⟨a.env,d::a.defers⟩ o.dst undef) H Q
   |_,_=>zi P o.op a H fun out H1=>match out with
    |.ok v=>wpOps P ro ops rest (a.put o.dst v) H1 Q
    |.error ch=>Q (.panic ch) a H1)
  |some false=>wpOps P ro ops rest (a.put o.dst undef) H Q
  |none=>False
def R4 (P:Program) (ro:Option Nat) (ops:Array Oper) (k m:Nat) (a:ag) (H:aa) (e:Exit) (a1:ag) (H1:aa):Prop :=
 ∀ (ρ:Ren) (w:World) (F:Fence) (n:Nat) (Q:Exit->Act->World->Prop),cZ F->F.round=ro.map ρ.blk->(∀ l,ro=some l->l<H.next)->Rel P ρ H w->ic H.next a ->
  (∀ ρ1 w1,St P ρ H w ρ1 H1 w1->ic H1.next a1->L8 H1.next e->Q (ρ1.exit e) (ρ1.act a1) w1)->wpOpsIn F n P ops Q (List.range' k m) (ρ.act a) w
theorem lL {P:Program} {ro:Option Nat} {ops:Array Oper} {Q:Exit->ag->aa->Prop}:∀ (rest:List Oper) (k:Nat) (a:ag) (H:aa),ops.toList.drop k=rest->wpOps P ro ops rest a H Q ->
  ∃ e a1 H1,R4 P ro ops k rest.length a H e a1 H1/\Q e a1 H1
 |[],k,a,H,_,h=>⟨.normal,a,H,fun ρ w F n Q _ _ _ r hs hQ=>hQ ρ w (St.refl r) hs trivial,h⟩
 |o::rest,k,a,H,hd,h=>by
  have hk:ops[k]?=some o:=by
   have:=congrArg (·[0]?) hd
   simpa using this
  have hd':ops.toList.drop (k+1)=rest:=by
   have:=congrArg List.tail hd
   simpa using this
  simp only[wpOps]at h
  split at h
  ·rename_i hw
   split at h
   ·rename_i d hdf
    obtain⟨e,a1,H1,hr,hq⟩:=lL rest (k+1) _ H hd' h
    refine⟨e,a1,H1,?_,hq⟩
    intro ρ w F n Q hF hFr hro r hs hQ
    simp only[zB0,List.range'_succ,wpOpsIn,hk]
    rw[fY ρ hw,if_pos rfl]
    obtain⟨hrun,hsd⟩:=yk r hs hdf
    refine⟨fun f _=>hF.fn f,?_⟩
    rw[hFr]
    simp only[Option.map_none]
    rw[Oper.semAt_none,hrun]
    have hp:=jy ρ ⟨a.env,d::a.defers⟩ o.dst undef
    rw[Ren.val_undef]at hp
    have hs':ic H.next ⟨a.env,d::a.defers⟩:=⟨hs.1,fun d' hd'=>by
     rcases zA7.1 hd' with rfl|hd'
     ·exact hsd
     ·exact hs.2 d' hd'⟩
    have:=hr ρ w F n Q hF hFr hro r (hs'.put _ (eG _)) hQ
    rw[<-hp]at this
    exact this
   ·obtain⟨out,H2,hop,hk2⟩:=AD (o:=o) h
    cases out with
    |ok v =>
     simp only at hk2
     obtain⟨e,a1,H1,hr,hq⟩:=lL rest (k+1) _ H2 hd' hk2
     refine⟨e,a1,H1,?_,hq⟩
     intro ρ w F n Q hF hFr hro r hs hQ
     simp only[zB0,List.range'_succ,wpOpsIn,hk]
     rw[fY ρ hw,if_pos rfl]
     refine hop ρ w r hs _ (fun _ _=>rfl) F n _ _ hF ?_
     intro ρ1 w1 hst hsc
     rw[<-fS hst.ext hs,jy]
     refine hr ρ1 w1 F n Q hF (pT hFr hro hst) (fun l hl=>zD5 (hro l hl) hst.le.next) hst.rel ((hs.mono hst.le.next).put _ hsc) ?_
     intro ρ2 w2 hst2 h1 h2
     exact hQ ρ2 w2 (hst.trans hst2) h1 h2
    |error ch =>
     refine⟨.panic ch,a,H2,?_,hk2⟩
     intro ρ w F n Q hF hFr hro r hs hQ
     simp only[zB0,List.range'_succ,wpOpsIn,hk]
     rw[fY ρ hw,if_pos rfl]
     refine hop ρ w r hs _ (fun _ _=>rfl) F n _ _ hF ?_
     intro ρ1 w1 hst hsc
     have:=hQ ρ1 w1 hst (hs.mono hst.le.next) hsc
     rw[fS hst.ext hs]at this
     exact this
  ·rename_i hw
   obtain⟨e,a1,H1,hr,hq⟩:=lL rest (k+1) _ H hd' h
   refine⟨e,a1,H1,?_,hq⟩
   intro ρ w F n Q hF hFr hro r hs hQ
   simp only[zB0,List.range'_succ,wpOpsIn,hk]
   rw[fY ρ hw]
   simp only[zC4,if_false]
   refine⟨fun f _=>hF.fn f,?_⟩
   have hp:=jy ρ a o.dst undef
   rw[Ren.val_undef]at hp
   rw[hp]
   exact hr ρ w F n Q hF hFr hro r (hs.put _ (eG _)) hQ
  ·exact h.elim
def ct (P:Program) (ops:Array Oper) (anc:List Nat):List Oper->Nat->List Fp->ag->aa->(ag->aa->Prop)->Prop
 |[],_,_,a,H,Q=>Q a H
 |o::rest,i,fps,a,H,Q =>
  match cw ops a o with
  |some true=>∃ F v g,ET P a (H.restrict F) o (.ok v) g/\(∀ n∈F,H.get n≠none)/\(∀ n∈g.dirty,n∈F)/\(∀ r∈fps,tC (anc.getD i 0) F v g H.next r=true) /\
    ct P ops anc rest (i+1) (⟨i,F,g.dirty,H.next,g.next⟩::fps) (a.put o.dst v) (H.merge g) Q
  |some false=>ct P ops anc rest (i+1) fps (a.put o.dst undef) H Q
  |none=>False
theorem o5 {ops:Array Oper} {anc:List Nat} {Q:ag->aa->Prop}:∀ (rest:List Oper) (k:Nat) (fps:List Fp) (a:ag) (H:aa),
  (∃ ys,ops.toList.drop k=rest++ys)->ct P ops anc rest k fps a H Q ->
  ∃ (D:Nat->tN) (A:Nat->ag) (HH:Nat->aa),A k=a/\HH k=H/\Q (A (k+rest.length)) (HH (k+rest.length)) /\
   (∀ i,k<=i->i<k+rest.length->j5 P ops D A HH i) /\
   (∀ i j,k<=i->i<j->j<k+rest.length->(D i).on=true->cN anc D HH j (pW D HH i)) /\
   (∀ r∈fps,∀ j,k<=j->j<k+rest.length->cN anc D HH j r)/\(∀ i,(D i).bad=false)
 |[],k,fps,a,H,_,h=>by
  refine⟨fun _=>⟨false,undef,[],H,false⟩,fun _=>a,fun _=>H,rfl,rfl,h,?_,?_,?_,fun _=>rfl⟩
  ·intro i h1 h2; simp at h2; omega
  ·intro i j h1 h2 h3; simp at h3; omega
  ·intro r _ j h1 h2; simp at h2; omega
 |o::rest,k,fps,a,H,hd,h=>by
  obtain⟨ys,hd⟩:=hd
  have hk:ops[k]?=some o:=by
   have:=congrArg (·[0]?) hd
   simpa using this
  have hd':∃ ys,ops.toList.drop (k+1)=rest++ys:=⟨ys,by
   have:=congrArg List.tail hd
   simpa using this⟩
  have build:∀ (d:tN) (fps':List Fp) (H2:aa),(∀ r∈fps,r∈fps')->ct P ops anc rest (k+1) fps' (a.put o.dst d.v) H2 Q ->
    cw ops a o=some d.on->d.bad=false ->
    (d.on=true->ET P a (H.restrict d.F) o (.ok d.v) d.g/\(∀ n∈d.F,H.get n≠none)/\(∀ n∈d.g.dirty,n∈d.F)/\H2=H.merge d.g/\(⟨k,d.F,d.g.dirty,H.next,d.g.next⟩:Fp)∈fps' /\
     ∀ r∈fps,tC (anc.getD k 0) d.F d.v d.g H.next r=true) ->
    (d.on=false->d.v=undef/\H2=H) ->
    ∃ (D:Nat->tN) (A:Nat->ag) (HH:Nat->aa),A k=a/\HH k=H/\Q (A (k+(o::rest).length)) (HH (k+(o::rest).length)) /\
     (∀ i,k<=i->i<k+(o::rest).length->j5 P ops D A HH i) /\
     (∀ i j,k<=i->i<j->j<k+(o::rest).length->(D i).on=true->cN anc D HH j (pW D HH i)) /\
     (∀ r∈fps,∀ j,k<=j->j<k+(o::rest).length->cN anc D HH j r)/\(∀ i,(D i).bad=false):=by
   intro d fps' H2 hsub hrun hwant hbad hon hoff
   obtain⟨D,A,HH,e1,e2,e3,f1,f2,f3,f4⟩:=o5 rest (k+1) fps' _ H2 hd' hrun
   have hlen:k+(o::rest).length=k+1+rest.length:=by simp only[zB0]; omega
   refine⟨fun i=>if i=k then d else D i,fun i=>if i=k then a else A i,fun i=>if i=k then H else HH i,by simp,by simp,?_,?_,?_,?_,fun i=>by by_cases e:i=k<;>simp[e,hbad,f4]⟩
   ·rw[hlen]; show Q (if k+1+rest.length=k then a else A (k+1+rest.length)) (if k+1+rest.length=k then H else HH (k+1+rest.length))
    rw[if_neg (by omega),if_neg (by omega)]; exact e3
   ·intro i h1 h2
    rw[hlen]at h2
    by_cases e:i=k
    ·subst e
     refine⟨o,hk,?_,?_,?_,?_⟩
     ·simp only[if_pos,if_neg (show ¬i+1=i by omega)]; rw[e1]
     ·simp only[if_pos]; exact fun _=>hwant
     ·simp only[if_pos,if_neg (show ¬i+1=i by omega)]
      intro h; obtain⟨x1,x2,x3,x4,_⟩:=hon h
      exact⟨x1,x2,x3,by rw[e2]; exact x4⟩
     ·simp only[if_pos,if_neg (show ¬i+1=i by omega)]
      intro h; obtain⟨x1,x2⟩:=hoff h
      exact⟨x1,by rw[e2]; exact x2⟩
    ·obtain⟨o',y1,y2,y3,y4,y5⟩:=f1 i (by omega) h2
     refine⟨o',y1,?_,?_,?_,?_⟩
     ·simp only[if_neg e,if_neg (show ¬i+1=k by omega)]; exact y2
     ·simp only[if_neg e]; exact y3
     ·simp only[if_neg e,if_neg (show ¬i+1=k by omega)]; exact y4
     ·simp only[if_neg e,if_neg (show ¬i+1=k by omega)]; exact y5
   ·intro i j h1 h2 h3 h4
    rw[hlen]at h3
    have hj:¬j=k:=by omega
    by_cases e:i=k
    ·subst e
     simp only[if_pos]at h4
     obtain⟨_,_,_,_,x5,_⟩:=hon h4
     have:=f3 _ x5 j (by omega) h3
     simp only[cN,pW,if_neg hj,if_pos]at this ⊢
     exact this
    ·simp only[if_neg e]at h4
     have:=f2 i j (by omega) h2 h3 h4
     simp only[cN,pW,if_neg hj,if_neg e]at this ⊢
     exact this
   ·intro r hr j h1 h2
    rw[hlen]at h2
    by_cases e:j=k
    ·subst e
     simp only[cN,if_pos]
     intro h
     exact (hon h).2.2.2.2.2 r hr
    ·have:=f3 r (hsub r hr) j (by omega) h2
     simp only[cN,if_neg e]at this ⊢
     exact this
  simp only[ct]at h
  split at h
  ·rename_i hw
   obtain⟨F,v,g,x1,x2,x3,x4,h⟩:=h
   exact build ⟨true,v,F,g,false⟩ _ _ (fun r hr=>zC7 _ hr) h hw rfl (fun _=>⟨x1,x2,x3,rfl,zE5 ..,x4⟩) (fun h=>by cases h)
  ·rename_i hw
   exact build ⟨false,undef,[],H,false⟩ fps H (fun r hr=>hr) h hw rfl (fun h=>by cases h) (fun _=>⟨rfl,rfl⟩)
  ·exact h.elim
theorem Bw (hmix:P.follows .mixedOrders=true) {ops:Array Oper} {id:Nat} (hst:gj ops=true) {Q:ag->aa->Prop} (h:ct P ops (gS ops) ops.toList 0 [] a H Q) :
  ∃ a1 H1,de P ro (.region id ops true) a H .normal a1 H1/\Q a1 H1:=by
 obtain⟨D,A,HH,e1,e2,e3,f1,f2,_,hnb⟩:=o5 ops.toList 0 [] a H ⟨[],by simp⟩ h
 simp only[zB8,Array.length_toList]at e3 f1 f2
 refine⟨_,_,?_,e3⟩
 intro ρ w F n Q hF hFr hro r hs hQ
 have hfact:∀ i,i<ops.size->j5 P ops D A HH i:=fun i hi=>f1 i (zB7 _) hi
 have hex:=vR r (ops:=ops) (D:=D) (A:=A) (HH:=HH) (m:=ops.size) e2 (by rw[e1]; exact hs) hfact
 have T:kL P ops D A HH ρ w:=by
  refine⟨by rw[e2]; exact r,by rw[e2,e1]; exact hs,hfact,fun i j hij hj hi=>f2 i j (zB7 _) hij hj hi,fun j oj hoj=>jI ops.toList 0 (by simp) hst j oj (zB7 _) hoj,?_⟩
  rw[e2]; exact hex
 obtain⟨ρm,wm,hstm,hsa⟩:=hex ops.size (zA8 _)
 refine wpIn_region_any hmix ?_
 have hX0:∀ j,bI (Array.replicate ops.size false) j=false:=fun j=>by
  unfold bI
  rw[Array.getD_eq_getD_getElem?,Array.getElem?_replicate]
  split<;>rfl
 obtain⟨I,ha⟩:=pJ (w:={w with drawn:=w.drawn+1}) T hX0 rfl rfl rfl rfl
 have:=vG T (n:=n) hF (Q:=Q) (fun i hi h=>by rw[hnb]at h; cases h) (fun i o hi h=>by rw[hnb]at h; cases h) (fun _ ρ1 w1 h1=>by
  rw[e2]at h1
  exact hQ ρ1 w1 h1 hsa trivial) ops.size (Array.replicate ops.size false) ρ _ (by simp) (by unfold left; exact zC3 (List.length_filter_le _ _) (by simp)) (fun j oj _ hX=>by rw[hX0]at hX; cases hX) (fun j _=>hnb j) I
 rw[ha,e1]at this
 exact this
def vk:Op->Bool
 |.defer _=>true
 |_=>false
theorem zd (hmix:P.follows .mixedOrders=true) {ops:Array Oper} {id:Nat} (hst:gj ops=true) {l:List Oper} {o:Oper} (hsplit:ops.toList=l++[o])
  (hanc:(List.range (ops.size-1)).all (fun j=>((gS ops).getD (ops.size-1) 0).testBit j)=true) (hdf:vk o.op=false) {Q:Exit->ag->aa->Prop} (h:ct P ops (gS ops) l 0 [] a H fun a1 H1=>cw ops a1 o=some true/\wpOps P ro ops [o] a1 H1 Q) :
  ∃ e a1 H1,de P ro (.region id ops true) a H e a1 H1/\Q e a1 H1:=by
 obtain⟨D,A,HH,e1,e2,⟨hw,e3⟩,f1,f2,_,hnb⟩:=o5 l 0 [] a H ⟨[o],by simpa using hsplit⟩ h
 obtain⟨a2,ha2⟩:=Go.Ax.bP (A (0+l.length))
 obtain⟨H2,hH2⟩:=Go.Ax.bP (HH (0+l.length))
 rw[ha2,hH2]at e3
 rw[ha2]at hw
 have key:zi P o.op a2 H2 (fun out H1=>match out with
   |.ok v=>wpOps P ro ops [] (a2.put o.dst v) H1 Q
   |.error ch=>Q (.panic ch) a2 H1)->∃ e a1 H1,de P ro (.region id ops true) a H e a1 H1/\Q e a1 H1:=by
  intro ho
  obtain⟨out,H3,hop,hq⟩:=AD (o:=o) ho
  cases out with
  |ok v =>
   refine⟨.normal,a2.put o.dst v,H3,?_,hq⟩
   intro ρ w F n Q' hF hFr hro r hs hQ
   exact J2 hmix hst hsplit hanc e1 e2 ha2 hH2 f1 f2 hnb hw hop r hs hF (fun ρ1 w1 h1 h2=>hQ ρ1 w1 h1 h2 trivial)
  |error ch =>
   refine⟨.panic ch,a2,H3,?_,hq⟩
   intro ρ w F n Q' hF hFr hro r hs hQ
   exact wP hmix hst hsplit hanc e1 e2 ha2 hH2 f1 f2 hnb hw hop r hs hF hQ
 simp only[wpOps,hw]at e3
 have hnd:px P a2 o.op=none:=by
  cases ho:o.op with
  |defer c=>rw[ho]at hdf; cases hdf
  |_=>rfl
 rw[hnd]at e3
 cases ro with
 |none=>exact key e3
 |some r=>exact key e3
def CG:Option Code->Option Exit
 |none=>some .normal
 |some .ret=>some .ret
 |some (.exit id)=>some (.exit id)
 |some (.goto l)=>some (.goto l)
 |_=>none
def tT (P:Program) (ro:Option Nat) (fv:Value) (ps:Array Tmp) (assign body:Code) (a:ag) (H:aa) (Q:Exit->ag->aa->Prop):Prop :=
 match fv with
 |.func fn first captured =>
  (match enterLoop ro a ps assign body H with
  |some (l,mark,H1) =>
   (match fq P H1 fn (first.toList++[.func (.yield l) #[] #[]]) captured.toList with
   |some (.enter g args)=>bF P g args H1 fun out H2=>match out with
    |.ok _=>∃ lp le e,getLoop H2 l=some (lp,le)/\lp.state≠.busy/\CG lp.pending=some e/\Q e ⟨a.env,mark++a.defers⟩ (eM H2 l {lp with state:=.exhausted} le)
    |.error ch=>Q (.panic ch) ⟨a.env,mark++a.defers⟩ H2
   |_=>False)
  |none=>False)
 |_=>False
theorem de.R2 {c:Code} {e:Exit} (h:CG (some c)=some e):de P ro c a H e a H:=by
 unfold CG at h
 split at h
 ·rename_i hc; cases hc
 ·rename_i hc; cases hc; simp only[Option.some.injEq]at h; subst h; exact de.ret
 ·rename_i hc; cases hc; simp only[Option.some.injEq]at h; subst h; exact de.exit
 ·rename_i hc; cases hc; simp only[Option.some.injEq]at h; subst h; exact de.goto
 ·cases h
theorem By {g:Operand} {fv:Value} {ps:Array Tmp} {assign body:Code} {Q:Exit->ag->aa->Prop} (hg:aK P a g=some fv) (h:tT P ro fv ps assign body a H Q) :
  ∃ e a1 H1,de P ro (.rangeFunc g ps assign body) a H e a1 H1/\Q e a1 H1:=by
 unfold tT at h
 split at h
 ·rename_i fn first captured
  split at h
  ·rename_i l mark H2 hen
   split at h
   ·rename_i f args hres
    obtain⟨out,H3,hcall,h⟩:=h
    have key:∀ (e:Exit) (H1:aa),(match out with
      |.ok _=>∃ lp le,getLoop H3 l=some (lp,le)/\lp.state≠.busy/\CG lp.pending=some e/\H1=eM H3 l {lp with state:=.exhausted} le
      |.error ch=>e=.panic ch/\H1=H3)->de P ro (.rangeFunc g ps assign body) a H e ⟨a.env,mark++a.defers⟩ H1:=by
     intro e H1 hout ρ w F n Q hF hFr hro r hs hQ
     refine wpIn_rangeFunc (fun fnid _=>?_)
     obtain⟨ρ1,w1,s1,hrun,hl,hmk⟩:=qi r hro hs.1 hen fnid
     obtain⟨ρ2,w2,s2,hinv⟩:=lD s1.rel hres
     have hfsc:=cI r.glob.1 hs hg
     have hf2:=Bf (cM s1.le.next _ hfsc)
     have hsa0:aO H2.next args=true:=nt s1.rel.FX hf2.1 (cB hf2.2.1 (by simp only[aO,aS,fb,Bool.and_true]; exact a8 hl)) hf2.2.2 hres
     have hfv:(ρ.act a).eval g=ρ1.val (.func fn first captured):=by rw[aI r hg,gE s1.ext _ hfsc]
     have e1:ρ1.val (.func fn first captured)=.func (ρ1.fn fn) (first.map ρ1.val) (captured.map ρ1.val):=by rw[Ren.val,Ren.dJ,Ren.dJ]
     have e2:first.map ρ1.val++#[(.func (.yield (ρ1.blk l)) #[] #[]:Value)]=((first.toList++[(.func (.yield l) #[] #[]:Value)]).map ρ1.val).toArray:=by
      apply Array.ext'
      simp[Ren.val,Ren.fn,Ren.ez,Ren.gM]
     have e3:captured.map ρ1.val=(captured.toList.map ρ1.val).toArray:=by apply Array.ext'; simp
     simp only[gz]at hinv
     have hs1:ic H2.next a:=hs.mono s1.le.next
     have hs2:ic H2.next {a with defers:=mark++a.defers}:=⟨hs1.1,fun d hd=>by
      rcases zB2.1 hd with hd|hd
      ·exact hmk d hd
      ·exact hs1.2 d hd⟩
     have hsame:({ρ.act a with defers:=mark.map ρ1.rM++(ρ.act a).defers}:Act)=ρ1.act {a with defers:=mark++a.defers}:=by
      have h1:=fS s1.ext hs
      have h2:(ρ.act a).tmps=ρ1.tmps a.env:=by rw[<-h1]; rfl
      have h3:(ρ.act a).defers=a.defers.map ρ1.rM:=by rw[<-h1]; rfl
      show (⟨(ρ.act a).tmps,mark.map ρ1.rM++(ρ.act a).defers⟩:Act)=⟨ρ1.tmps a.env,(mark++a.defers).map ρ1.rM⟩
      rw[h2,h3,List.map_append]
     refine⟨ρ1.blk l,mark.map ρ1.rM,w1,{target:=.fn (ρ1.fn fn) (captured.map ρ1.val),args:=first.map ρ1.val++#[(.func (.yield (ρ1.blk l)) #[] #[]:Value)]},w1,f,_,w2,?_,?_,fun f' _=>hF.fn f',?_,hF.deep,hcall ρ2 w2 s2.rel hsa0 F _ _ hF ?_⟩
     ·rw[hFr]; exact hrun
     ·simp only[resolve,hfv,e1]
      simp[Act.eval,Deferred.ofValue]
     ·simp only[e2,e3]; exact hinv
     ·intro ρ3 w3 s3
      have hn2:H2.next<=H3.next:=(s2.trans s3).le.next
      have hl3:l<H3.next:=by omega
      have hlb:ρ3.blk l=ρ1.blk l:=((s2.trans s3).ext.blk l hl)
      have hs3:ic H3.next {a with defers:=mark++a.defers}:=hs2.mono hn2
      have hact3:ρ3.act {a with defers:=mark++a.defers}=ρ1.act {a with defers:=mark++a.defers}:=fS (s2.trans s3).ext hs2
      have stot:=(s1.trans s2).trans s3
      cases out with
      |ok v =>
       obtain⟨lp,le,hlp,hnb,hpe,rfl⟩:=hout
       obtain⟨fn3,hgl,w4,hset,s4⟩:=lJ s3.rel (lp':={lp with state:=.exhausted}) hlp rfl
       rw[hlb]at hgl hset
       have hn4:(eM H3 l {lp with state:=.exhausted} le).next=H3.next:=rfl
       have hendl:(Instr.endLoop (ρ1.blk l)).run P w3=.ok lp.pending w4:=by
        have hb:(lp.state == .busy)=false:=by simpa using hnb
        simp only[Instr.endLoop,Sem.run_bind,hgl,Result.andThen_ok,hb,zC4,if_false]
        rw[show ({({lp with fn:=fn3,tmps:=ρ3.tmps le,defers:=ρ3.blk lp.defers}:Loop) with state:=.exhausted}:Loop) =
         {({lp with state:=.exhausted}:Loop) with fn:=fn3,tmps:=ρ3.tmps le,defers:=ρ3.blk lp.defers} from rfl,hset]
        simp
       intro _
       refine⟨lp.pending,w4,hendl,?_⟩
       rw[hsame,<-hact3]
       have hro4:∀ l0,ro=some l0->l0<(eM H3 l {lp with state:=.exhausted} le).next:=fun l0 h0=>by
        rw[hn4]; exact zD5 (hro l0 h0) stot.le.next
       have hFr4:F.round=ro.map ρ3.blk:=pT hFr hro stot
       generalize eM H3 l {lp with state:=.exhausted} le=H4 at s4 hn4 hro4 hQ
       split
       ·rename_i hpn
        rw[hpn]at hpe
        simp only[CG,Option.some.injEq]at hpe
        subst hpe
        exact hQ ρ3 w4 (stot.trans s4) (hs3.mono (Nat.le_of_eq hn4.symm)) trivial
       ·rename_i c hpc
        rw[hpc]at hpe
        refine de.R2 (P:=P) (ro:=ro) hpe ρ3 w4 F n Q hF hFr4 hro4 s4.rel (hs3.mono (Nat.le_of_eq hn4.symm)) ?_
        intro ρ5 w5 s5 h1 h2
        exact hQ ρ5 w5 ((stot.trans s4).trans s5) h1 h2
      |error ch =>
       intro hch
       obtain⟨rfl,rfl⟩:=hout
       show Q (.panic (ch.map ρ3.pe)) _ w3
       rw[hsame,<-hact3]
       exact hQ ρ3 w3 stot hs3 hch
    cases out with
    |ok v =>
     obtain⟨lp,le,e,h1,h2,h3,h4⟩:=h
     exact⟨e,_,_,key e _ ⟨lp,le,h1,h2,h3,rfl⟩,h4⟩
    |error ch=>exact⟨_,_,_,key _ _ ⟨rfl,rfl⟩,h⟩
   ·exact h.elim
  ·exact h.elim
 ·exact h.elim
def kk (W:(Exit->ag->aa->Prop)->ag->aa->Prop) (Q:Exit->ag->aa->Prop):Nat->ag->aa->Prop
 |0,_,_=>False
 |m+1,a,H=>W (fun e a1 H1=>match e with
  |.normal=>kk W Q m a1 H1
  |e=>Q e a1 H1) a H
def zf (W:ag->aa->Prop) (Q:Exit->ag->aa->Prop):Exit->ag->aa->Prop
 |.normal,a,H=>W a H
 |e,a,H=>Q e a H
def Qz (Q:Exit->ag->aa->Prop):Exit->ag->aa->Prop
 |.goto _,_,_=>False
 |e,a,H=>Q e a H
def IA (v:Option Value) (X Y:Prop):Prop :=
 match v with
 |some (.bool true)=>X
 |some (.bool false)=>Y
 |_=>False
def gO (P:Program) (ro:Option Nat):Code->(Exit->ag->aa->Prop)->ag->aa->Prop
 |.skip,Q,a,H=>Q .normal a H
 |.label _,Q,a,H=>Q .normal a H
 |.exit id,Q,a,H=>Q (.exit id) a H
 |.goto l,Q,a,H=>Q (.goto l) a H
 |.ret,Q,a,H=>Q .ret a H
 |.seq x y,Q,a,H=>gO P ro x (zf (fun a1 H1=>gO P ro y Q a1 H1) Q) a H
 |.cond c x y,Q,a,H=>IA (aK P a c) (gO P ro x Q a H) (gO P ro y Q a H)
 |.block id b,Q,a,H=>gO P ro b (fun e a1 H1=>Q (Ct id e) a1 H1) a H
 |.scope b,Q,a,H=>gO P ro b (Qz Q) a H
 |.loop b,Q,a,H=>∃ m,kk (fun Q' a' H'=>gO P ro b Q' a' H') Q m a H
 |.region _ ops draw,Q,a,H=>(match draw with
  |true=>gj ops=true/\(ct P ops (gS ops) ops.toList 0 [] a H (Q .normal)\/∃ l o,ops.toList=l++[o]/\(List.range (ops.size-1)).all (fun j=>((gS ops).getD (ops.size-1) 0).testBit j)=true/\vk o.op=false/\ct P ops (gS ops) l 0 [] a H fun a1 H1=>cw ops a1 o=some true/\wpOps P ro ops [o] a1 H1 Q)
  |false=>wpOps P ro ops ops.toList a H Q)
 |.rangeFunc f ps assign body,Q,a,H=>(match aK P a f with
  |some fv=>tT P ro fv ps assign body a H Q
  |none=>False)
 |.refuse _,_,_,_=>False
theorem IS (hmix:P.follows .mixedOrders=true):∀ (c:Code) (Q:Exit->ag->aa->Prop) (a:ag) (H:aa),gO P ro c Q a H->∃ e a1 H1,de P ro c a H e a1 H1/\Q e a1 H1:=by
 intro c
 induction c with
 |skip=>exact fun Q a H h=>⟨_,_,_,de.skip,h⟩
 |label l=>exact fun Q a H h=>⟨_,_,_,de.label,h⟩
 |exit id=>exact fun Q a H h=>⟨_,_,_,de.exit,h⟩
 |goto l=>exact fun Q a H h=>⟨_,_,_,de.goto,h⟩
 |ret=>exact fun Q a H h=>⟨_,_,_,de.ret,h⟩
 |seq x y ihx ihy =>
  intro Q a H h
  simp only[gO]at h
  obtain⟨e,a2,H2,hx,h2⟩:=ihx _ a H h
  cases e with
  |normal =>
   obtain⟨e,a1,H1,hy,h3⟩:=ihy Q a2 H2 h2
   exact⟨e,a1,H1,hx.seq hy,h3⟩
  |exit id=>exact⟨_,a2,H2,hx.rV (by simp),h2⟩
  |goto l=>exact⟨_,a2,H2,hx.rV (by simp),h2⟩
  |ret=>exact⟨_,a2,H2,hx.rV (by simp),h2⟩
  |panic ch=>exact⟨_,a2,H2,hx.rV (by simp),h2⟩
  |outgrown=>exact⟨_,a2,H2,hx.rV (by simp),h2⟩
 |cond c x y ihx ihy =>
  intro Q a H h
  simp only[gO,IA]at h
  split at h
  ·rename_i hc
   obtain⟨e,a1,H1,hx,h2⟩:=ihx Q a H h
   exact⟨e,a1,H1,de.cond hc hx,h2⟩
  ·rename_i hc
   obtain⟨e,a1,H1,hx,h2⟩:=ihy Q a H h
   exact⟨e,a1,H1,de.cond hc hx,h2⟩
  ·exact h.elim
 |block id b ih =>
  intro Q a H h
  simp only[gO]at h
  obtain⟨e,a1,H1,hx,h2⟩:=ih _ a H h
  exact⟨_,a1,H1,hx.block,h2⟩
 |scope b ih =>
  intro Q a H h
  simp only[gO]at h
  obtain⟨e,a1,H1,hx,h2⟩:=ih _ a H h
  cases e with
  |goto l=>exact h2.elim
  |normal=>exact⟨_,a1,H1,hx.scope (by simp),h2⟩
  |exit id=>exact⟨_,a1,H1,hx.scope (by simp),h2⟩
  |ret=>exact⟨_,a1,H1,hx.scope (by simp),h2⟩
  |panic ch=>exact⟨_,a1,H1,hx.scope (by simp),h2⟩
  |outgrown=>exact⟨_,a1,H1,hx.scope (by simp),h2⟩
 |loop b ih =>
  intro Q a H h
  simp only[gO]at h
  obtain⟨m,h⟩:=h
  have key:∀ (m:Nat) (a:ag) (H:aa),kk (fun Q' a' H'=>gO P ro b Q' a' H') Q m a H->∃ e a1 H1,gV P ro b m a H e a1 H1/\Q e a1 H1:=by
   intro m
   induction m with
   |zero=>exact fun a H h=>h.elim
   |succ m ihm =>
    intro a H h
    simp only[kk]at h
    obtain⟨e,a2,H2,hx,h2⟩:=ih _ a H h
    cases e with
    |normal =>
     obtain⟨e,a1,H1,hy,h3⟩:=ihm a2 H2 h2
     exact⟨e,a1,H1,hy.next hx,h3⟩
    |exit id=>exact⟨_,a2,H2,gV.last hx (by simp),h2⟩
    |goto l=>exact⟨_,a2,H2,gV.last hx (by simp),h2⟩
    |ret=>exact⟨_,a2,H2,gV.last hx (by simp),h2⟩
    |panic ch=>exact⟨_,a2,H2,gV.last hx (by simp),h2⟩
    |outgrown=>exact⟨_,a2,H2,gV.last hx (by simp),h2⟩
  obtain⟨e,a1,H1,hx,h2⟩:=key m a H h
  exact⟨e,a1,H1,de.loop hx,h2⟩
 |region id ops draw =>
  intro Q a H h
  simp only[gO]at h
  cases draw with
  |true =>
   obtain⟨hst,h|⟨l,o,hsp,hanc,hdf,h⟩⟩:=h
   ·obtain⟨a1,H1,hr,hq⟩:=Bw (ro:=ro) (id:=id) hmix hst h
    exact⟨_,a1,H1,hr,hq⟩
   ·exact zd hmix hst hsp hanc hdf h
  |false =>
   obtain⟨e,a1,H1,hr,hq⟩:=lL ops.toList 0 a H (by simp) h
   refine⟨e,a1,H1,?_,hq⟩
   intro ρ w F n Q' hF hFr hro r hs hQ
   refine wpIn_region ?_
   rw[List.range_eq_range']
   have:=hr ρ w F n Q' hF hFr hro r hs hQ
   simpa using this
 |rangeFunc f ps assign body _ _ =>
  intro Q a H h
  simp only[gO]at h
  split at h
  ·rename_i fv hfv
   exact By hfv h
  ·exact h.elim
 |refuse s=>exact fun Q a H h=>h.elim
def p7 (P:Program):Rec:=exec P (fun _ _ _=>none) 60
theorem Fq (hmix:P.follows .mixedOrders=true):Sound P (p7 P):=(xA hmix (fun _ _ _ _ h=>(by cases h)) 60).1
def fB (P:Program) (fn:Func) (a1:ag):List Deferred->FrameMode->aa->(Out->aa->Prop)->Prop
 |[],.returning,H,R=>∃ vs,cV P H a1 fn.results.toList=some vs/\R (.ok (Bv vs)) H
 |[],.panicking ch,H,R=>R (.error ch) H
 |⟨.collected r,_⟩::ds,.returning,H,R=>(∃ o v,H.get r=some ⟨.deferred (some []),o,v⟩)/\fB P fn a1 ds .returning (H.cE r (some ⟨.deferred none,false,⟨[],0⟩⟩)) R
 |⟨.collected r,_⟩::ds,.panicking ch,H,R=>(∃ o v,H.get r=some ⟨.deferred (some []),o,v⟩)/\fB P fn a1 ds (.panicking ch) (H.cE r (some ⟨.deferred none,false,⟨[],0⟩⟩)) R
 |⟨.fn (.func f) cap,as0⟩::ds,.returning,H,R=>aF P f=true/\∃ v u1 H1,lQ P (p7 P) f (as0.toList++cap.toList) .returning H=some (.ok v,u1,H1)/\fB P fn a1 ds (settle u1) H1 R
 |⟨.fn (.func f) cap,as0⟩::ds,.panicking ch,H,R=>aF P f=true/\∃ v u1 H1,lQ P (p7 P) f (as0.toList++cap.toList) (.panicking ch) H=some (.ok v,u1,H1)/\fB P fn a1 ds (settle u1) H1 R
 |_,_,_,_=>False
def Jk (P:Program) (fn:Func) (R:Out->aa->Prop):Exit->ag->aa->Prop
 |.normal,a1,H1=>fB P fn a1 a1.defers .returning H1 R
 |.ret,a1,H1=>fB P fn a1 a1.defers .returning H1 R
 |.panic ch,a1,H1=>fB P fn a1 a1.defers (.panicking ch) H1 R
 |_,_,_=>False
theorem iK {fn:Func} {R:Out->aa->Prop}:∀ (ds:List Deferred) (u:FrameMode) (H:aa),fB P fn a1 ds u H R->∃ out H1,dy P (p7 P) fn a1 ds u H=some (out,H1)/\R out H1
 |[],.returning,H,⟨vs,h1,h3⟩=>⟨_,_,by simp only[dy,h1,zA9]; exact⟨rfl,h3⟩⟩
 |[],.panicking ch,H,h=>⟨_,_,rfl,h⟩
 |[],.run,H,h=>h.elim
 |⟨.collected r,_⟩::ds,.returning,H,⟨⟨o,v,hg⟩,h⟩=>by
  obtain⟨out,H1,h1,h2⟩:=iK ds .returning _ h
  exact⟨out,H1,by simp only[dy,hg]; exact h1,h2⟩
 |⟨.collected r,_⟩::ds,.panicking ch,H,⟨⟨o,v,hg⟩,h⟩=>by
  obtain⟨out,H1,h1,h2⟩:=iK ds (.panicking ch) _ h
  exact⟨out,H1,by simp only[dy,hg]; exact h1,h2⟩
 |⟨.collected r,_⟩::ds,.run,H,h=>h.elim
 |⟨.fn (.func f) cap,as0⟩::ds,.returning,H,⟨hb,v,u1,H1,he,h⟩=>by
  obtain⟨out,H2,h1,h2⟩:=iK ds _ _ h
  exact⟨out,H2,by simp only[dy,hb,if_true,he]; exact h1,h2⟩
 |⟨.fn (.func f) cap,as0⟩::ds,.panicking ch,H,⟨hb,v,u1,H1,he,h⟩=>by
  obtain⟨out,H2,h1,h2⟩:=iK ds _ _ h
  exact⟨out,H2,by simp only[dy,hb,if_true,he]; exact h1,h2⟩
 |⟨.fn (.func f) cap,as0⟩::ds,.run,H,h=>h.elim
 |⟨.fn (.yield _) _,_⟩::_,u,H,h=>by cases u<;>exact h.elim
 |⟨.nil,_⟩::_,u,H,h=>by cases u<;>exact h.elim
 |⟨.builtin ..,_⟩::_,u,H,h=>by cases u<;>exact h.elim
 |⟨.coroexit ..,_⟩::_,u,H,h=>by cases u<;>exact h.elim
theorem bF.mono {f:FuncId} {args:List Value} {R R':Out->aa->Prop} (h:bF P f args H R) (hR:∀ out H1,R out H1->R' out H1):bF P f args H R' :=
 let ⟨out,H1,h1,h3⟩:=h; ⟨out,H1,h1,hR _ _ h3⟩
end
abbrev Env:=Nat->Value
def cE (E:Env) (d:Nat) (v:Value):Env:=fun t=>if t=d then v else E t
theorem yB (E:Env) (d:Nat) (v:Value):cE E d v d=v:=by simp[cE]
theorem wh (E:Env) {d t:Nat} (v:Value) (h:t≠d):cE E d v t=E t:=by simp[cE,h]
def Ow:Env:=fun _=>undef
def fO (E:Env) (k:Nat):List Value->Env
 |[]=>E
 |v::r=>fO (cE E k v) (k+1) r
def chunk (E:Env) (k m:Nat):List Value:=(List.range m).map fun i=>E (k+i)
def chunks (E:Env) (k:Nat):Nat->List (List Value)
 |0=>[]
 |m+1=>chunk E k 16::chunks E (k+16) m
def yx (N:Nat) (E:Env):RV:=⟨chunks (fun t=>if t<N then E t else undef) 0 (N / 16+1),N⟩
theorem qT (E:Env):∀ (m k i:Nat),i<m->(chunks E k m).getD i []=chunk E (k+16*i) 16
 |0,_,_,h=>by omega
 |m+1,k,0,_=>by simp[chunks]
 |m+1,k,i+1,h=>by
  have:=qT E m (k+16) i (by omega)
  simp only[chunks,List.getD_cons_succ,this]
  congr 1; omega
theorem Kb (E:Env) (k m i:Nat) (h:i<m):(chunk E k m).getD i undef=E (k+i):=by
 simp[chunk,List.getD,h]
theorem En (N:Nat) (E:Env) (t:Nat) (h:t<N):(yx N E).get t=E t:=by
 unfold yx RV.get
 simp only
 rw[qT _ _ _ _ (by have:=Nat.div_le_div_right (c:=16) (Nat.le_of_lt h); omega),Kb _ _ _ _ (Nat.mod_lt _ (by omega))]
 have:0+16*(t / 16)+t % 16=t:=by omega
 rw[this,if_pos h]
def bA (N:Nat) (E:Env) (ds:List Deferred):ag:=⟨yx N E,ds⟩
theorem K5 {α:Type} (d:α) (f:Nat->α) (v:α):∀ (m i:Nat),i<m->fV d ((List.range m).map f) i v=(List.range m).map fun j=>if j=i then v else f j:=by
 intro m i h
 apply List.ext_getElem?
 intro j
 have key:∀ (l:List α) (i:Nat),i<l.length->∀ j:Nat,(fV d l i v)[j]?=if j=i then some v else l[j]?:=by
  intro l
  induction l with
  |nil=>intro i h; simp at h
  |cons x l ih =>
   intro i h j
   cases i with
   |zero=>cases j<;>simp[fV]
   |succ i =>
    cases j with
    |zero=>simp[fV]
    |succ j=>simp only[fV,zG4]; rw[ih i (by simpa using h) j]; simp
 rw[key _ i (by simpa using h) j]
 by_cases e:j=i
 ·subst e; simp[h]
 ·rw[if_neg e]
  simp only[zF0]
  by_cases hj:j<m
  ·simp[hj,e]
  ·simp[hj]
theorem wN (E:Env) (d:Nat) (v:Value):∀ (m k i:Nat),i<m->(∀ t,k+16*i<=t->t<k+16*i+16->True)->k+16*i<=d->d<k+16*i+16 ->
  fV [] (chunks E k m) i (fV undef (chunk E (k+16*i) 16) (d-(k+16*i)) v)=chunks (cE E d v) k m
 |0,_,_,h,_,_,_=>by omega
 |m+1,k,0,_,_,h1,h2=>by
  simp only[chunks,fV,Nat.mul_zero,zE1]at *
  congr 1
  ·rw[chunk,K5 _ _ _ _ _ (by omega),chunk]
   apply List.map_congr_left
   intro j hj
   have hj:=zG0.1 hj
   simp only[cE]
   by_cases e:k+j=d
   ·rw[if_pos (by omega),if_pos e]
   ·rw[if_neg (by omega),if_neg e]
  ·have:∀ (m k:Nat),d<k->chunks E k m=chunks (cE E d v) k m:=by
    intro m
    induction m with
    |zero=>intro k _; rfl
    |succ m ih =>
     intro k hk
     rw[chunks,chunks,ih (k+16) (by omega)]
     congr 1
     unfold chunk
     apply List.map_congr_left
     intro j _
     rw[wh _ _ (by omega)]
   exact this m (k+16) (by omega)
 |m+1,k,i+1,h,h0,h1,h2=>by
  have:=wN E d v m (k+16) i (by omega) (fun _ _ _=>trivial) (by omega) (by omega)
  simp only[chunks,fV]
  rw[show k+16*(i+1)=k+16+16*i from by omega,this]
  congr 1
  unfold chunk
  apply List.map_congr_left
  intro j hj
  have hj:=zG0.1 hj
  rw[wh _ _ (by omega)]
theorem KS (N:Nat) (E:Env) (d:Nat) (v:Value) (h:d<N):(yx N E).set d v=yx N (cE E d v):=by
 have hq:d / 16<N / 16+1:=by have:=Nat.div_le_div_right (c:=16) (Nat.le_of_lt h); omega
 unfold yx RV.set
 simp only
 rw[qT _ _ _ _ hq]
 have:=wN (fun t=>if t<N then E t else undef) d v (N / 16+1) 0 (d / 16) hq (fun _ _ _=>trivial) (by omega) (by omega)
 rw[show d-(0+16*(d / 16))=d % 16 from by omega]at this
 rw[this]
 congr 2
 funext t
 simp only[cE]
 by_cases e:t=d
 ·subst e; simp[h]
 ·simp[e]
theorem dG (N:Nat) (E:Env) (ds:List Deferred) (d:Nat) (v:Value) (h:d<N):(bA N E ds).put (some d) v=bA N (cE E d v) ds:=by
 have hb:Nat.blt d (bA N E ds).env.n=true:=a8 h
 simp only[ag.put_eq,hb,if_true]
 show (⟨(yx N E).set d v,ds⟩:ag)=_
 rw[KS N E d v h]; rfl
theorem xi (a:ag) (v:Value):a.put none v=a:=rfl
theorem x7 (N:Nat) (E:Env) (ds:List Deferred) (t:Nat) (h:t<N):(bA N E ds).tmp t=E t:=by
 have hb:Nat.blt t (bA N E ds).env.n=true:=a8 h
 simp only[ag.tmp,hb,if_true]
 exact En N E t h
theorem zl {P:Program} (N:Nat) (E:Env) (ds:List Deferred) (t:Nat) (h:t<N):aK P (bA N E ds) (.tmp t)=some (E t):=by rw[aK,x7 N E ds t h]
theorem yo:∀ (l:List Value) (E:Env) (k t:Nat),fO E k l t=if k<=t/\t<k+l.length then l.getD (t-k) undef else E t
 |[],E,k,t=>by rw[fO,if_neg (by simp only[zB6]; omega)]
 |v::r,E,k,t=>by
  rw[fO,yo r]
  simp only[zB0]
  by_cases e:t=k
  ·subst e
   rw[if_neg (by omega),if_pos (by omega),yB,zG5]; rfl
  ·by_cases h:k+1<=t/\t<k+1+r.length
   ·rw[if_pos h,if_pos (by omega)]
    obtain⟨j,hj⟩:∃ j,t-k=j+1:=⟨t-k-1,by omega⟩
    rw[hj,List.getD_cons_succ,show t-(k+1)=j from by omega]
   ·rw[if_neg h,if_neg (by omega),wh _ _ e]
section
variable {P : Program} {ro : Option Nat} {H H1 : aa}
theorem de.congr {c:Code} {a a' a1:ag} {e:Exit} (h:de P ro c a' H e a1 H1) (ha:∀ ρ:Ren,ρ.act a=ρ.act a') (hs:∀ N,ic N a->ic N a'):de P ro c a H e a1 H1:=by
 intro ρ w F n Q hF hFr hro r hsa hQ
 rw[ha]
 exact h ρ w F n Q hF hFr hro r (hs _ hsa) hQ
theorem Cy (hmix:P.follows .mixedOrders=true) {f:FuncId} {args:List Value} {fn:Func} {c:Code} {N:Nat} {R:Out->aa->Prop} (hfn:P.funcs[f]?=some fn) (hc:fn.body=some c) (hN:fn.ntmps=N) (hle:args.length<=N)
  (h:gO P none c (Jk P fn R) (bA N (fO Ow 0 args) []) H):bF P f args H R:=by
 obtain⟨e,a1,H2,hr,hq⟩:=IS hmix c _ _ _ h
 have hg:∀ t,t<N->({RV.ofList args with n:=N}:RV).get t=(yx N (fO Ow 0 args)).get t:=by
  intro t ht
  rw[En _ _ _ ht,yo]
  have h1:({RV.ofList args with n:=N}:RV).get t=args.getD t undef:=RV.cb args t
  rw[h1]
  by_cases h2:t<args.length
  ·rw[if_pos (by omega)]; simp
  ·rw[if_neg (by omega),List.getD,zC5 (Nat.not_lt.1 h2)]; rfl
 have hr':de P none c ⟨{RV.ofList args with n:=fn.ntmps},[]⟩ H e a1 H2:=by
  rw[hN]
  refine hr.congr (fun ρ=>?_) (fun M hs=>?_)
  ·refine lf ρ ρ rfl rfl (fun t ht=>?_)
   have:=hg t ht
   simp only[bA]
   rw[this]
  ·refine⟨fun i hi=>?_,fun d hd=>by cases hd⟩
   have:=hs.1 i hi
   rw[hg i hi]at this
   exact this
 have key:∀ (u:FrameMode),fB P fn a1 a1.defers u H2 R->(∀ out H1,dy P (p7 P) fn a1 a1.defers u H2=some (out,H1)->JZ P (p7 P) fn (e,a1,H2)=some (out,H1))->bF P f args H R:=by
  intro u hl he
  obtain⟨out,H1,h1,h3⟩:=iK _ _ _ hl
  exact⟨out,H1,xx (Fq hmix) hfn hc (by omega) hr' (he out H1 h1),h3⟩
 cases e with
 |normal=>exact key .returning hq (fun _ _ h=>h)
 |ret=>exact key .returning hq (fun _ _ h=>h)
 |panic ch=>exact key (.panicking ch) hq (fun _ _ h=>h)
 |exit id=>exact hq.elim
 |goto l=>exact hq.elim
 |outgrown=>exact hq.elim
theorem Gh {x:cP} {R R':Out->aa->Prop} (hR:∀ out H1,R out H1->R' out H1) (h:mn P x H R):mn P x H R':=by
 cases x with
 |value v=>exact hR _ _ h
 |skip=>exact hR _ _ h
 |enter f args=>exact bF.mono h hR
 |round r=>obtain⟨out,H1,h2,h4⟩:=h; exact⟨out,H1,h2,hR _ _ h4⟩
 |panic v=>exact hR _ _ h
theorem Mn {op:Op} {a:ag} {R R':Out->aa->Prop} (hR:∀ out H1,R out H1->R' out H1) (h:zi P op a H R):zi P op a H R':=by
 unfold zi at *
 split at h
 ·rename_i hx; exact Gh hR h
 ·exact h.elim
theorem kQ {P:Program} {ro:Option Nat} {ops:Array Oper} {Q Q':Exit->ag->aa->Prop} (hQ:∀ e a H,Q e a H->Q' e a H):∀ (l:List Oper) (a:ag) (H:aa),wpOps P ro ops l a H Q->wpOps P ro ops l a H Q'
 |[],a,H,h=>hQ _ _ _ h
 |o::rest,a,H,h=>by
  simp only[wpOps]at *
  cases hw:cw ops a o with
  |none=>rw[hw]at h; exact h.elim
  |some b =>
   rw[hw]at h
   cases b with
   |false=>exact kQ hQ rest _ _ h
   |true =>
    simp only at h ⊢
    have key:∀ {H:aa},zi P o.op a H (fun out H1=>match out with
      |.ok v=>wpOps P ro ops rest (a.put o.dst v) H1 Q
      |.error ch=>Q (.panic ch) a H1)->zi P o.op a H (fun out H1=>match out with
      |.ok v=>wpOps P ro ops rest (a.put o.dst v) H1 Q'
      |.error ch=>Q' (.panic ch) a H1):=fun h=>Mn (fun out H1 h=>by
     cases out with
     |ok v=>exact kQ hQ rest _ _ h
     |error ch=>exact hQ _ _ _ h) h
    cases ro with
    |some l=>exact key h
    |none =>
     cases hd:px P a o.op with
     |none=>rw[hd]at h; exact key h
     |some d=>rw[hd]at h; exact kQ hQ rest _ _ h
theorem jN {ops:Array Oper} {anc:List Nat} {Q Q':ag->aa->Prop} (hQ:∀ a H,Q a H->Q' a H):∀ (l:List Oper) (i:Nat) (fps:List Fp) (a:ag) (H:aa),ct P ops anc l i fps a H Q->ct P ops anc l i fps a H Q'
 |[],_,_,a,H,h=>hQ _ _ h
 |o::rest,i,fps,a,H,h=>by
  simp only[ct]at *
  cases hw:cw ops a o with
  |none=>rw[hw]at h; exact h.elim
  |some b =>
   rw[hw]at h
   cases b with
   |false=>exact jN hQ rest _ _ _ _ h
   |true =>
    obtain⟨F,v,g,h1,h2,h3,h4,h5⟩:=h
    exact⟨F,v,g,h1,h2,h3,h4,jN hQ rest _ _ _ _ h5⟩
theorem DS {fv:Value} {ps:Array Tmp} {assign body:Code} {a:ag} {Q Q':Exit->ag->aa->Prop} (hQ:∀ e a H,Q e a H->Q' e a H) (h:tT P ro fv ps assign body a H Q):tT P ro fv ps assign body a H Q':=by
 unfold tT at *
 split at h
 ·split at h
  ·rename_i l mark H1 hen
   split at h
   ·rename_i g args hin
    refine bF.mono h fun out H2 h=>?_
    cases out with
    |ok v=>obtain⟨lp,le,e,h1,h2,h3,h4⟩:=h; exact⟨lp,le,e,h1,h2,h3,hQ _ _ _ h4⟩
    |error ch=>exact hQ _ _ _ h
   ·exact h.elim
  ·exact h.elim
 ·exact h.elim
theorem Kg {W W':ag->aa->Prop} {Q Q':Exit->ag->aa->Prop} (hW:∀ a H,W a H->W' a H) (hQ:∀ e a H,Q e a H->Q' e a H):∀ e a H,zf W Q e a H->zf W' Q' e a H:=by
 intro e a H h
 cases e with
 |normal=>exact hW _ _ h
 |_=>exact hQ _ _ _ h
theorem mI:∀ (c:Code) {Q Q':Exit->ag->aa->Prop} (a:ag) (H:aa),(∀ e a H,Q e a H->Q' e a H)->gO P ro c Q a H->gO P ro c Q' a H:=by
 intro c
 induction c with
 |skip=>exact fun a H hQ h=>hQ _ _ _ h
 |label l=>exact fun a H hQ h=>hQ _ _ _ h
 |exit id=>exact fun a H hQ h=>hQ _ _ _ h
 |goto l=>exact fun a H hQ h=>hQ _ _ _ h
 |ret=>exact fun a H hQ h=>hQ _ _ _ h
 |seq x y ihx ihy =>
  intro Q Q' a H hQ h
  simp only[gO]at *
  exact ihx a H (Kg (fun a H=>ihy a H hQ) hQ) h
 |cond c x y ihx ihy =>
  intro Q Q' a H hQ h
  simp only[gO,IA]at *
  split at h
  ·rename_i hc; exact ihx a H hQ h
  ·rename_i hc; exact ihy a H hQ h
  ·exact h.elim
 |block id b ih =>
  intro Q Q' a H hQ h
  simp only[gO]at *
  exact ih a H (fun e a H h=>hQ _ _ _ h) h
 |scope b ih =>
  intro Q Q' a H hQ h
  simp only[gO]at *
  refine ih a H (fun e a H h=>?_) h
  cases e with
  |goto l=>exact h
  |_=>exact hQ _ _ _ h
 |loop b ih =>
  intro Q Q' a H hQ h
  simp only[gO]at *
  obtain⟨m,h⟩:=h
  refine⟨m,?_⟩
  have key:∀ (m:Nat) (a:ag) (H:aa),kk (fun Q' a' H'=>gO P ro b Q' a' H') Q m a H->kk (fun Q' a' H'=>gO P ro b Q' a' H') Q' m a H:=by
   intro m
   induction m with
   |zero=>exact fun a H h=>h
   |succ m ihm =>
    intro a H h
    simp only[kk]at *
    refine ih a H (fun e a H h=>?_) h
    cases e with
    |normal=>exact ihm a H h
    |_=>exact hQ _ _ _ h
  exact key m a H h
 |region id ops draw =>
  intro Q Q' a H hQ h
  simp only[gO]at *
  cases draw with
  |true =>
   refine⟨h.1,?_⟩
   rcases h.2 with h|⟨l,o,h1,h2,h3,h4⟩
   ·exact .inl (jN (fun a H=>hQ _ a H) _ _ _ _ _ h)
   ·exact .inr ⟨l,o,h1,h2,h3,jN (fun a H h=>⟨h.1,kQ hQ _ _ _ h.2⟩) _ _ _ _ _ h4⟩
  |false=>exact kQ hQ _ _ _ h
 |rangeFunc f ps assign body _ _ =>
  intro Q Q' a H hQ h
  simp only[gO]at *
  split at h
  ·exact DS hQ h
  ·exact h.elim
 |refuse s=>exact fun a H hQ h=>h.elim
theorem K2 {b:Code} {Q:Exit->ag->aa->Prop} (I:Nat->ag->aa->Prop) {k:Nat} {a:ag} (h0:I k a H)
  (h:∀ k a H,I k a H->gO P ro b (zf (fun a1 H1=>∃ j,j<k/\I j a1 H1) Q) a H):gO P ro (.loop b) Q a H:=by
 have key:∀ m k a H,k<m->I k a H->kk (fun Q' a' H'=>gO P ro b Q' a' H') Q m a H:=by
  intro m
  induction m with
  |zero=>intro k a H hk; omega
  |succ m ih =>
   intro k a H hk hI
   simp only[kk]
   refine mI b a H (fun e a1 H1 h1=>?_) (h k a H hI)
   cases e with
   |normal =>
    obtain⟨j,hj,hI'⟩:=h1
    exact ih j a1 H1 (by omega) hI'
   |_=>exact h1
 exact⟨k+1,key (k+1) k a H (zD9 _) h0⟩
theorem nv (H:aa) (F:List Nat):H.merge (H.restrict F)=H:=by
 obtain⟨h1,h2,h3⟩:=aL H F
 unfold aa.merge
 rw[h3,h1,zG5]
 rfl
def ib:Op->Bool
 |.move _=>true
 |.assign _=>true
 |.pick _ _ _=>true
 |.build _ _=>true
 |.nilCheck _=>true
 |.unOp _ _ _=>true
 |.makeInterface _ _=>true
 |.makeFunc _ _ _=>true
 |.fieldAddr _ _ _=>true
 |.field _ _ _=>true
 |.indexAddr _ _ _=>true
 |.index _ _ _=>true
 |.typeAssert _ _ _ _=>true
 |.extract _ _=>true
 |_=>false
theorem CI {op:Op} (hp:ib op=true) (a:ag):∃ f:Option cP,∀ G:aa,ck op P a G=f.map fun x=>(x,G):=by
 cases op with
 |move x=>exact⟨(aK P a x).map .value,fun G=>by simp only[ck,qn,rv]; cases aK P a x<;>rfl⟩
 |assign x=>exact⟨(aK P a x).map .value,fun G=>by simp only[ck,qn,rv]; cases aK P a x<;>rfl⟩
 |pick c x y =>
  refine⟨(match aK P a c with
   |some (.bool true)=>(aK P a x).map .value
   |some (.bool false)=>(aK P a y).map .value
   |_=>none),fun G=>?_⟩
  simp only[ck,zK,rv,zA1]
  cases aK P a c with
  |none=>rfl
  |some v =>
   cases v with
   |bool b=>cases b<;>simp only[zA3]<;>(first|cases aK P a x<;>rfl|cases aK P a y<;>rfl)
   |_=>rfl
 |build t ps=>exact⟨((gH P a ps.toList).bind (er P t)).map .value,fun G=>by
   simp only[ck,tR,rv,zA1]
   cases gH P a ps.toList with
   |none=>rfl
   |some l=>simp only[zA3]; cases er P t l<;>rfl⟩
 |nilCheck x=>exact⟨(aK P a x).bind fun v=>(y9 P (aa.none 0) v).map (·.1),fun G=>by
   simp only[ck,JS,zA1]
   cases aK P a x with
   |none=>rfl
   |some v =>
    simp only[zA3]
    unfold y9
    split<;>rfl⟩
 |unOp op t x=>exact⟨(aK P a x).bind fun v=>(QD P (aa.none 0) op v).map (·.1),fun G=>by
   simp only[ck,QO,zA1]
   cases aK P a x with
   |none=>rfl
   |some v =>
    simp only[zA3]
    unfold QD
    split
    ·rfl
    ·rfl
    ·split
     ·simp only[Option.map_map]; cases jX P (Op.unary op v)<;>rfl
     ·rfl⟩
 |makeInterface t x=>exact⟨(aK P a x).bind fun v=>(sX P (aa.none 0) t v).map (·.1),fun G=>by
   simp only[ck,xk,zA1]
   cases aK P a x with
   |none=>rfl
   |some v=>simp only[zA3]; unfold sX; split<;>rfl⟩
 |makeFunc fn p q=>exact⟨(fc P a p.toList).bind fun u=>(fc P a q.toList).bind fun v=>(zQ (aa.none 0) fn u v).map (·.1),fun G=>by
   simp only[ck,Dw,zA1]
   cases fc P a p.toList with
   |none=>rfl
   |some u =>
    cases fc P a q.toList with
    |none=>rfl
    |some v=>simp only[zA3]; unfold zQ; split<;>rfl⟩
 |fieldAddr t x f=>exact⟨(aK P a x).bind fun v=>(aH P t v f).map .value,fun G=>by
   simp only[ck,jh,rv,zA1]
   cases aK P a x with
   |none=>rfl
   |some v=>simp only[zA3]; cases aH P t v f<;>rfl⟩
 |field t x f=>exact⟨(aK P a x).bind fun v=>(tm P t v f).map .value,fun G=>by
   simp only[ck,BZ,rv,zA1]
   cases aK P a x with
   |none=>rfl
   |some v=>simp only[zA3]; cases tm P t v f<;>rfl⟩
 |indexAddr t x i=>exact⟨(aK P a x).bind fun v=>(aK P a i).bind fun j=>(aP P t v j).map .value,fun G=>by
   simp only[ck,jq,rv,zA1]
   cases aK P a x with
   |none=>rfl
   |some v =>
    cases aK P a i with
    |none=>rfl
    |some j=>simp only[zA3]; cases aP P t v j<;>rfl⟩
 |index t x i=>exact⟨(aK P a x).bind fun v=>(aK P a i).bind fun j=>(tW P (aa.none 0) t v j).map (·.1),fun G=>by
   simp only[ck,Cn,zA1]
   cases aK P a x with
   |none=>rfl
   |some v =>
    cases aK P a i with
    |none=>rfl
    |some j =>
     simp only[zA3]
     unfold tW
     split
     ·rfl
     ·split
      ·simp only[Option.map_map]; cases jX P (Instr.index t v j)<;>rfl
      ·rfl⟩
 |typeAssert x t u ok=>exact⟨(aK P a x).bind fun v=>(gp P v u ok).map .value,fun G=>by
   simp only[ck,lC,rv,zA1]
   cases aK P a x with
   |none=>rfl
   |some v=>simp only[zA3]; cases gp P v u ok<;>rfl⟩
 |extract x i=>exact⟨(aK P a x).bind fun v=>(kR (aa.none 0) i v).map (·.1),fun G=>by
   simp only[ck,mN,zA1]
   cases aK P a x with
   |none=>rfl
   |some v =>
    simp only[zA3]
    unfold kR
    split
    ·rename_i vs; simp only[rv]; cases vs.toList[i]?<;>rfl
    ·rfl⟩
 |_=>cases hp
def cQ (anc:Nat) (F:List Nat) (W O:List Nat) (r:Fp):Prop :=
 anc.testBit r.i=true\/((∀ n∈r.W,n∉F)/\(∀ n∈r.F,n∉W)/\(r.lo<r.hi->(∀ n∈F,n<r.lo\/r.hi<=n)/\(∀ n∈O,n<r.lo\/r.hi<=n)))
theorem IF {a b:List Nat} (h:∀ n∈a,n∉b):Od a b=true:=by
 refine zC6.2 fun n hn=>?_
 cases hm:D2 n b with
 |false=>rfl
 |true=>exact absurd (wI.1 hm) (h n hn)
theorem AR {lo hi:Nat} {l:List Nat} (h:∀ n∈l,n<lo\/hi<=n):B6 lo hi l=true:=by
 refine zC6.2 fun n hn=>?_
 rcases h n hn with h|h
 ·rw[a8 h]; rfl
 ·rw[show Nat.ble hi n=true from zE6▸h]; simp
theorem iS {anc:Nat} {F:List Nat} {v:Value} {g:aa} {next:Nat} {r:Fp} (h:cQ anc F g.dirty (fZ v g next) r):tC anc F v g next r=true:=by
 rcases h with h|⟨h1,h2,h3⟩
 ·simp[tC,h]
 ·have e1:=IF h1
  have e2:=IF h2
  by_cases hlt:r.lo<r.hi
  ·obtain⟨h4,h5⟩:=h3 hlt
   simp[tC,e1,e2,AR h4,AR h5]
  ·have e3:Nat.ble r.hi r.lo=true:=zE6▸Nat.not_lt.1 hlt
   simp[tC,e1,e2,e3]
def QV (r:Fp):Prop:=r.F=[]/\r.W=[]/\r.hi<=r.lo
theorem Ob {anc:Nat} {F:List Nat} {v:Value} {g:aa} {next:Nat} {r:Fp} (h:QV r):tC anc F v g next r=true:=by
 refine iS (.inr ⟨?_,?_,fun hlt=>?_⟩)
 ·rw[h.2.1]; simp
 ·rw[h.1]; simp
 ·have:=h.2.2; omega
theorem lU {ops:Array Oper} {anc:List Nat} {Q:ag->aa->Prop}:∀ (rest:List Oper) (i:Nat) (fps fps':List Fp) (a:ag) (H:aa),(∀ r∈fps',r∈fps\/QV r)->ct P ops anc rest i fps a H Q->ct P ops anc rest i fps' a H Q
 |[],_,_,_,a,H,_,h=>h
 |o::rest,i,fps,fps',a,H,hf,h=>by
  simp only[ct]at *
  cases hw:cw ops a o with
  |none=>rw[hw]at h; exact h.elim
  |some b =>
   rw[hw]at h
   cases b with
   |false=>exact lU rest _ fps fps' _ _ hf h
   |true =>
    obtain⟨F,v,g,h1,h2,h3,h4,h5⟩:=h
    refine⟨F,v,g,h1,h2,h3,fun r hr=>?_,lU rest _ _ _ _ _ (fun r hr=>?_) h5⟩
    ·rcases hf r hr with h|h
     ·exact h4 r h
     ·exact Ob h
    ·rcases zA7.1 hr with rfl|hr
     ·exact .inl (zE5 ..)
     ·rcases hf r hr with h|h
      ·exact .inl (zC7 _ h)
      ·exact .inr h
def iD (anc:Nat) (fps:List Fp) (O:List Nat):Prop:=∀ r∈fps,r.lo<r.hi->anc.testBit r.i=true\/∀ n∈O,n<r.lo\/r.hi<=n
theorem qE {ops:Array Oper} {anc:List Nat} {o:Oper} {rest:List Oper} {i:Nat} {fps:List Fp} {a:ag} {Q:ag->aa->Prop} {v:Value} (hw:cw ops a o=some true)
  (hx:∀ G,ck o.op P a G=some (.value v,G)) (hids:iD (anc.getD i 0) fps (ae v))
  (h:ct P ops anc rest (i+1) fps (a.put o.dst v) H Q):ct P ops anc (o::rest) i fps a H Q:=by
 have hn:=aL H []
 simp only[ct,hw]
 refine⟨[],v,H.restrict [],fP (x:=.value v) (g:=H.restrict []) (hx _) ⟨rfl,rfl⟩,(by simp),(by rw[hn.2.2]; simp),?_,?_⟩
 ·intro r hr
  refine iS ?_
  by_cases hlt:r.lo<r.hi
  ·rcases hids r hr hlt with h|h
   ·exact .inl h
   ·refine .inr ⟨by simp,by rw[hn.2.2]; simp,fun _=>⟨by simp,fun n hn'=>h n ?_⟩⟩
    simp only[fZ,hn.2.2,hn.1,zG5,da,zD0,List.flatMap_nil]at hn'
    exact hn'
  ·exact .inr ⟨by simp,by rw[hn.2.2]; simp,fun h=>absurd h hlt⟩
 ·rw[nv]
  refine lU rest _ fps _ _ _ (fun r hr=>?_) h
  rcases zA7.1 hr with rfl|hr
  ·exact .inr ⟨rfl,hn.2.2,by simp[hn.1]⟩
  ·exact .inl hr
theorem EG {ops:Array Oper} {anc:List Nat} {o:Oper} {rest:List Oper} {i:Nat} {fps:List Fp} {a:ag} {Q:ag->aa->Prop} {v:Value} (hp:ib o.op=true) (hw:cw ops a o=some true)
  (hx:ck o.op P a H=some (.value v,H)) (hids:iD (anc.getD i 0) fps (ae v))
  (h:ct P ops anc rest (i+1) fps (a.put o.dst v) H Q):ct P ops anc (o::rest) i fps a H Q:=by
 obtain⟨f,hf⟩:=CI (P:=P) hp a
 refine qE hw (fun G=>?_) hids h
 have h1:=hf H
 rw[hx]at h1
 rw[hf]
 cases hfv:f with
 |none=>rw[hfv]at h1; cases h1
 |some y=>rw[hfv]at h1; simp only[zA9,Option.some.injEq,Prod.mk.injEq]at h1 ⊢; exact⟨h1.1.symm,trivial⟩
theorem BE {ops:Array Oper} {anc:List Nat} {o:Oper} {rest:List Oper} {i:Nat} {fps:List Fp} {a:ag} {Q:ag->aa->Prop} {v:Value} (F:List Nat) (hw:cw ops a o=some true)
  (hop:ET P a (H.restrict F) o (.ok v) (H.restrict F)) (hF:∀ n∈F,H.get n≠none) (hm:∀ r∈fps,cQ (anc.getD i 0) F [] (ae v) r)
  (h:ct P ops anc rest (i+1) (⟨i,F,[],H.next,H.next⟩::fps) (a.put o.dst v) H Q):ct P ops anc (o::rest) i fps a H Q:=by
 have hn:=aL H F
 simp only[ct,hw]
 refine⟨F,v,H.restrict F,hop,hF,(by rw[hn.2.2]; simp),fun r hr=>iS ?_,?_⟩
 ·simp only[fZ,hn.2.2,hn.1,zG5,da,zD0,List.flatMap_nil]
  exact hm r hr
 ·rw[nv,hn.2.2,hn.1]; exact h
theorem Du {ops:Array Oper} {anc:List Nat} {o:Oper} {rest:List Oper} {i:Nat} {fps:List Fp} {a:ag} {Q:ag->aa->Prop} {t:TypeId} {x:Operand} {v:Value} {n off:Nat} (ho:o.op=.load t x) (hw:cw ops a o=some true)
  (hx:aK P a x=some (.pointer (some ⟨n,off,none⟩))) (hl:ga P H t (.pointer (some ⟨n,off,none⟩))=some v) (hm:∀ r∈fps,cQ (anc.getD i 0) [n] [] (ae v) r)
  (h:ct P ops anc rest (i+1) (⟨i,[n],[],H.next,H.next⟩::fps) (a.put o.dst v) H Q):ct P ops anc (o::rest) i fps a H Q:=by
 have cR:H.get n≠none:=by
  intro hg
  simp[ga,aR,hg]at hl
 refine BE [n] hw ?_ (by simpa using cR) hm h
 have hg:(H.restrict [n]).get n=H.get n:=by rw[aU]; simp
 have hl':ga P (H.restrict [n]) t (.pointer (some ⟨n,off,none⟩))=some v:=by
  rw[<-hl]
  simp only[ga,aR,hg]
 refine fP (x:=.value v) (g:=H.restrict [n]) ?_ ⟨rfl,rfl⟩
 rw[ho]
 simp only[ck,Dq,hx,zA1,zA3,hl']
 rfl
end
section
variable {P : Program} {H : aa}
def QI (H:aa) (n:Nat) (e:TypeId) (o:Bool) (l:List Value):Prop:=∃ rv,bH H n=some (rv,e,o)/\rv.n=l.length/\∀ i,i<l.length->rv.get i=l.getD i undef
theorem QI.jK {rv:RV} {l:List Value} (h2:rv.n=l.length) (h3:∀ i,i<l.length->rv.get i=l.getD i undef) (off sz:Nat) (h:off+sz<=l.length):rv.jK off sz=(l.drop off).take sz:=by
 rw[RV.gA]
 apply List.ext_getElem?
 intro i
 by_cases hi:i<sz
 ·rw[zF0,List.getElem?_range hi,List.getElem?_take_of_lt hi,List.getElem?_drop]
  have:off+i<l.length:=by omega
  simp[h3 _ this,List.getD,this]
 ·rw[zC5 (by simpa using hi),zC5 (by simp; omega)]
def tE (l:List Value) (off:Nat) (vs:List Value):List Value:=l.take off++vs++l.drop (off+vs.length)
def nw (H:aa) (e:TypeId) (l:List Value) (o:Bool):aa:=H.new ⟨.cells #[] e,o,RV.ofList l⟩
theorem BW {e:TypeId} {l:List Value} {o:Bool} (h:aO H.next l=true):cF H e l o=some (nw H e l o):=by simp only[cF,h,if_true,nw]
theorem iW (e:TypeId) (l:List Value) (o:Bool):(nw H e l o).next=H.next+1:=rfl
theorem Ii (e:TypeId) (l:List Value) (o:Bool):(nw H e l o).base=H.base:=rfl
theorem Lw (e:TypeId) (l:List Value) (o:Bool):(nw H e l o).dirty=H.dirty:=rfl
theorem Mi (e:TypeId) (l:List Value) (o:Bool) {m:Nat} (h:m≠H.next):(nw H e l o).get m=H.get m:=by rw[nw,aa.fA,if_neg h]
end
end Go.Ax
