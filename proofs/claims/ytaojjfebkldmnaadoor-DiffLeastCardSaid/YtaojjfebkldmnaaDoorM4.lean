/- Parts of the proof, one behind the other. -/
import Derived.Test.YtaojjfebkldmnaaDoorM3
import GoSem.ClaimJoined
set_option linter.all false
set_option maxRecDepth 10000
set_option maxHeartbeats 16000000
open And renaming intro → zA0
open Option renaming bind_eq_bind → zA1, bind_eq_some_iff → zA2, bind_some → zA3, map_some → zA7, map_eq_some_iff → zB1
open Bool renaming and_eq_true → zA4, false_eq_true → zC2, not_true → zC8, and_self → zD1, not_false → zD6
open Nat renaming le_refl → zA5, le_of_ble_eq_true → zA9, zero_le → zB0, zero_add → zC1, lt_or_ge → zC4, lt_succ_self → zC6, add_zero → zC7, lt_of_lt_of_le → zC9, le_of_eq → zD2, le_trans → zD9, zero_mul → zE1, sub_self → zE9, eq_of_beq_eq_true → zF4
open List renaming getElem?_eq_getElem → zA6, mem_singleton → zA8, mem_cons → zB2, mem_cons_of_mem → zB3, mem_append → zB4, length_cons → zB5, length_append → zB6, map_cons → zB7, nil_append → zB8, mem_of_getElem? → zB9, all_eq_true → zC0, length_nil → zC3, eq_nil_of_length_eq_zero → zC5, append_nil → zD0, drop_zero → zD3, mem_append_left → zD4, mem_append_right → zD5, mem_cons_self → zD7, length_drop → zD8, getElem?_eq_none → zE0, getElem?_eq_some_iff → zE2, mem_flatMap → zE3, mem_of_mem_take → zE4, mem_of_mem_drop → zE5, take_of_length_le → zE6, drop_eq_nil_of_le → zE7, getD_eq_getElem?_getD → zE8, drop_eq_getElem_cons → zF0, mem_range → zF1, map_nil → zF2, cons_append → zF3, getElem?_cons_zero → zF5, length_take → zF6, take_length → zF7, flatMap_cons → zF8, getElem?_cons_succ → zF9

namespace Go.Ax
section
variable {P : Program} {K : Type} {enc : TypeId × Value → K} {w : World} {base : Nat} {spare : Nat → Bool} {held : Bool}
mutual
def dc:DataW K→List Value
 |.lit (.int k z)=>[.int k z]
 |.lit (.bool b)=>[.bool b]
 |.agg l=>dcL l
 |_=>[]
def dcL:List (DataW K)→List Value
 |[]=>[]
 |d::r=>dc d++dcL r
end
mutual
def dok:DataW K→Bool
 |.lit (.int _ _)=>true
 |.lit (.bool _)=>true
 |.agg l=>dokL l
 |_=>false
def dokL:List (DataW K)→Bool
 |[]=>true
 |d::r=>dok d&&dokL r
end
theorem mapM_cons_some {α β:Type} {g:α→Option β} {a:α} {l:List α} {r:List β} (h:(a::l).mapM g=some r):∃ y ys,g a=some y∧l.mapM g=some ys∧r=y::ys:=by
 rw[List.mapM_cons]at h
 cases hg:g a with
 |none=>rw[hg]at h; cases h
 |some y =>
  rw[hg]at h
  cases hl:l.mapM g with
  |none=>simp[hl]at h
  |some ys=>simp[hl]at h; exact⟨y,ys,rfl,rfl,h.symm⟩
theorem trod_fieldsD {fuel d:Nat} {cs:List Value} (ih:∀ (t:TypeId) (ts:List TypeId) (cs:List Value) (x:DataW K × List MemPlace),flat P d t=some ts→szOf P t=some ts.length→DataW.trod enc P w base spare held fuel t cs=some x→dok x.1=true→cs=dc x.1) :
  ∀ (fs:List Field) (o:Nat) (ts:List TypeId) (xs:List (DataW K × List MemPlace)),flatF P (flat P d) fs o=some ts→(fs.mapM fun f=>DataW.trod enc P w base spare held fuel f.type ((cs.drop f.offset).take (P.cellsOf f.type)))=some xs→dokL (xs.map (·.1))=true→o+ts.length≤cs.length→(cs.drop o).take ts.length=dcL (xs.map (·.1))
 |[],o,ts,xs,h,hm,_,_=>by
  simp only[flatF,Option.some.injEq]at h
  subst h
  simp at hm
  subst hm
  simp[dcL]
 |f::fs,o,ts,xs,h,hm,hk,hle=>by
  simp only[flatF]at h
  split at h
  ·rename_i hf
   obtain⟨_,ho⟩:=hf
   cases e1:flat P d f.type with
   |none=>rw[e1]at h; cases h
   |some a =>
    rw[e1]at h
    simp only at h
    split at h
    ·rename_i hsz
     cases e2:flatF P (flat P d) fs (o+a.length) with
     |none=>rw[e2]at h; cases h
     |some b =>
      rw[e2]at h
      simp only[Option.some.injEq]at h
      subst h
      rw[zB6]at hle
      obtain⟨y,ys,hy,hys,rfl⟩:=mapM_cons_some hm
      simp only[zB7,dokL,zA4]at hk
      rw[ho,cellsOf_szOf hsz]at hy
      have h1:=ih f.type a _ y e1 hsz hy hk.1
      have h2:=trod_fieldsD ih fs (o+a.length) b ys e2 hys hk.2 (by omega)
      have:(cs.drop o).take (a++b).length=(cs.drop o).take a.length++(cs.drop (o+a.length)).take b.length:=by
       rw[zB6,List.take_add,List.drop_drop]
      rw[this,h1,h2]
      simp only[zB7,dcL]
    ·cases h
  ·cases h
theorem trod_dc:∀ (fuel d:Nat) (t:TypeId) (ts:List TypeId) (cs:List Value) (x:DataW K × List MemPlace),flat P d t=some ts→szOf P t=some ts.length→DataW.trod enc P w base spare held fuel t cs=some x→dok x.1=true→cs=dc x.1
 |0,_,_,_,_,_,_,_,h,_=>by simp[DataW.trod]at h
 |_+1,0,_,_,_,_,h,_,_,_=>by simp[flat]at h
 |fuel+1,d+1,t,ts,cs,x,hf,hs,h,hk=>by
  simp only[flat]at hf
  unfold DataW.trod at h
  cases e:P.underlying t with
  |none=>rw[e]at hf; cases hf
  |some td =>
   rw[e]at hf h
   cases td with
   |bool =>
    simp only at h
    split at h<;>first|(simp only[Option.some.injEq]at h; subst h; rfl)|cases h|skip
    all_goals (rename_i hh; cases hh)
   |int k =>
    simp only at h
    split at h<;>first|(simp only[Option.some.injEq]at h; subst h; simp_all [dc]; done)|cases h|skip
    all_goals simp_all [dc]
    all_goals (obtain⟨h1,rfl⟩:=h; simp[dc])
   |string =>
    simp only at h
    split at h<;>first|(simp only[Option.some.injEq]at h; subst h; simp[dok]at hk; done)|cases h|skip
    all_goals simp_all
    all_goals (obtain⟨_,rfl⟩:=h; simp[dok]at hk)
   |struct fs =>
    simp only at hf
    split at hf
    ·cases hf
    ·simp only at h
     split at h
     ·rename_i hlen
      rw[cellsOf_szOf hs]at hlen
      cases hm:fs.toList.mapM fun f=>DataW.trod enc P w base spare held fuel f.type ((cs.drop f.offset).take (P.cellsOf f.type)) with
      |none=>rw[hm]at h; cases h
      |some xs =>
       rw[hm]at h
       simp only[zA7,Option.some.injEq]at h
       subst h
       simp only[dok]at hk
       have:=trod_fieldsD (cs:=cs) (fun t ts cs x=>trod_dc fuel d t ts cs x) fs.toList 0 ts xs hf hm hk (by omega)
       rw[zD3,zE6 (by omega)]at this
       rw[this,dc]
     ·cases h
   |_=>simp at hf
theorem cut_flat {α:Type} {m:Nat}:∀ (n:Nat) (cs:List α),cs.length=n*m→cs=((List.range n).map fun i=>(cs.drop (i*m)).take m).flatten
 |0,cs,h=>by
  have:cs=[]:=zC5 (by simpa using h)
  subst this
  rfl
 |n+1,cs,h=>by
  have h1:(cs.drop m).length=n*m:=by rw[zD8,h,Nat.succ_mul]; omega
  have h2:=cut_flat n (cs.drop m) h1
  rw[List.range_succ_eq_map,zB7,List.flatten_cons,List.map_map,zE1,zD3]
  have:((List.range n).map ((fun i=>(cs.drop (i*m)).take m) ∘ Nat.succ))=(List.range n).map fun i=>((cs.drop m).drop (i*m)).take m:=by
   apply List.map_congr_left
   intro i _
   simp only[Function.comp,List.drop_drop,Nat.succ_mul]
   rw[Nat.add_comm]
  rw[this,←h2,List.take_append_drop]
theorem dcL_flat:∀ (ds:List (DataW K)),dcL ds=(ds.map dc).flatten
 |[]=>rfl
 |d::r=>by simp only[dcL,zB7,List.flatten_cons,dcL_flat r]
theorem dokL_all:∀ {ds:List (DataW K)},dokL ds=true→∀ d∈ds,dok d=true
 |[],_,_,h=>by cases h
 |d::r,h,x,hx=>by
  simp only[dokL,zA4]at h
  rcases zB2.1 hx with rfl|hx
  ·exact h.1
  ·exact dokL_all h.2 x hx
theorem mapM_map {α β γ:Type} {f:α→Option β} {g:α→γ} {h:β→γ}:∀ {l:List α} {r:List β},l.mapM f=some r→(∀ a∈l,∀ b∈r,f a=some b→g a=h b)→l.map g=r.map h
 |[],r,hm,_=>by simp at hm; subst hm; rfl
 |a::l,r,hm,hg=>by
  obtain⟨y,ys,h1,h2,rfl⟩:=mapM_cons_some hm
  rw[zB7,zB7,hg a (by simp) y (by simp) h1,mapM_map h2 fun a ha b hb=>hg a (by simp[ha]) b (by simp[hb])]
theorem trod_arr {fuel:Nat} {t e:TypeId} {ts:List TypeId} {D n:Nat} {cs:List Value} {x:DataW K × List MemPlace} (hu:P.underlying t=some (.array n e)) (hsz:szOf P e=some ts.length) (hfl:flat P D e=some ts) (hst:szOf P t=some (n*ts.length))
  (h:DataW.trod enc P w base spare held fuel t cs=some x) (hk:dok x.1=true):cs=dc x.1:=by
 cases fuel with
 |zero=>simp[DataW.trod]at h
 |succ fuel =>
  unfold DataW.trod at h
  rw[hu]at h
  simp only[cellsOf_szOf hsz,cellsOf_szOf hst]at h
  split at h
  ·rename_i hl
   cases hm:(List.range n).mapM fun i=>DataW.trod enc P w base spare held fuel e ((cs.drop (i*ts.length)).take ts.length) with
   |none=>rw[hm]at h; cases h
   |some xs =>
    rw[hm]at h
    simp only[zA7,Option.some.injEq]at h
    subst h
    simp only[dok]at hk
    rw[dc,dcL_flat,List.map_map]
    refine (cut_flat n cs hl).trans (congrArg List.flatten (mapM_map hm fun i _ y hy hf=>?_))
    exact trod_dc fuel D e ts _ y hfl hsz hf (dokL_all hk _ (List.mem_map_of_mem hy))
  ·cases h
theorem laid_at:∀ {laid:List (String × DataW Unit)} {ps:List MemPlace},DataW.LaidVars P w laid ps→∀ {x:String × DataW Unit},x∈laid→∃ g t cs fuel p,P.globalNamed x.1=some g∧(P.globals[g]?).map (·.type)=some t∧w.var? P x.1=some cs∧DataW.trod (fun _=>()) P w 0 (fun _=>true) false fuel t cs.toList=some (x.2,p)∧∀ y∈MemPlace.row ⟨g,0,none⟩ cs.size,y∈ps
 |[],_,_,_,hx=>by cases hx
 |(n,d)::r,ps,h,x,hx=>by
  obtain⟨g,t,cs,fuel,p,q,h1,h2,h3,h4,h5,rfl⟩:=h
  rcases zB2.1 hx with rfl|hx
  ·exact⟨g,t,cs,fuel,p,h1,h2,h3,h4,fun y hy=>by simp[hy]⟩
  ·obtain⟨g,t,cs,fuel,p,k1,k2,k3,k4,k5⟩:=laid_at h5 hx
   exact⟨g,t,cs,fuel,p,k1,k2,k3,k4,fun y hy=>by simp[k5 y hy]⟩
theorem laid_tab {laid:List (String × DataW Unit)} (h:laidMet P laid w) {name:String} {d:DataW Unit} (hx:(name,d)∈laid) {g:Nat} {t e:TypeId} {ts:List TypeId} {D n:Nat} (hg:P.globalNamed name=some g) (ht:(P.globals[g]?).map (·.type)=some t)
  (hu:P.underlying t=some (.array n e)) (hsz:szOf P e=some ts.length) (hfl:flat P D e=some ts) (hst:szOf P t=some (n*ts.length)) (hk:dok d=true) (hpos:0<(dc d).length) :
  ∃ (c:Array Value) (ty:TypeId),w.heap[g]?=some (.cells c ty (0,0))∧c.toList=dc d:=by
 obtain⟨ps,hl,_,hz⟩:=h
 obtain⟨g',t',cs,fuel,p,h1,h2,h3,h4,h5⟩:=laid_at hl hx
 obtain rfl:=Option.some.inj (hg.symm.trans h1)
 obtain rfl:=Option.some.inj (ht.symm.trans h2)
 have hcs:=trod_arr hu hsz hfl hst h4 hk
 have hpos':0<cs.size:=by rw[←hcs]at hpos; simpa using hpos
 obtain⟨⟨c,ty,hb⟩,_⟩:=hz g 0 (h5 _ (by unfold MemPlace.row; rw[List.mem_map]; exact⟨0,by simpa using hpos',rfl⟩))
 refine⟨c,ty,hb,?_⟩
 have:w.var? P name=some c:=by simp only[World.var?,hg,zA3,hb]
 obtain rfl:=Option.some.inj (this.symm.trans h3)
 exact hcs
def tabO (e:TypeId) (vs:List Value):AObj:=⟨.cells #[] e,false,RV.ofList vs⟩
theorem rel_tab {ρ:Ren} {H:AHeap} {g:Nat} {e:TypeId} {c:Array Value} {vs:List Value} (r:Rel P ρ H w) (hg:g<P.globals.size) (hex:ρ.ex g=0) (hinj:∀ n,H.get n≠none→ρ.blk n=g→n=g)
  (hb:w.heap[g]?=some (.cells c e (0,0))) (hc:c.toList=vs) (ha:afL vs=true):Rel P ρ (H.put g (some (tabO e vs))) w:=by
 obtain⟨hbk,hsh⟩:=r.glob.2 g hg
 have hav:∀ x∈vs,af x=true:=by
  intro x hx
  clear hc hinj
  induction vs with
  |nil=>cases hx
  |cons y ys ih =>
   simp only[afL,zA4]at ha
   rcases zB2.1 hx with rfl|hx
   ·exact ha.1
   ·exact ih ha.2 hx
 have hgd:∀ i,i<vs.length→af (vs.getD i undef)=true:=fun i hi=>hav _ (by simp[zE8,zA6 hi])
 have hget:∀ m,(H.put g (some (tabO e vs))).get m=if m=g then some (tabO e vs) else H.get m:=fun m=>AHeap.get_put H g _ m
 refine⟨r.base,r.glob,fun m n hm hn he=>?_,fun n o hn=>?_,fun n o hn=>?_⟩
 ·rw[hget]at hm hn
  by_cases h1:m=g
  ·subst h1
   by_cases h2:n=m
   ·exact .inl h2.symm
   ·rw[if_neg h2]at hn
    exact .inl (hinj n hn (he.symm.trans hbk)).symm
  ·rw[if_neg h1]at hm
   by_cases h2:n=g
   ·subst h2
    exact .inl (hinj m hm (he.trans hbk))
   ·rw[if_neg h2]at hn
    rw[hget,hget,if_neg h1,if_neg h2]
    exact r.inj m n hm hn he
 ·rw[hget]at hn
  by_cases h:n=g
  ·subst h
   rw[if_pos rfl]at hn
   cases hn
   refine⟨zC9 hg r.glob.1,?_⟩
   simp only[sco,tabO,RV.n_ofList,RV.get_ofList]
   intro i hi
   exact scb_of_af _ (hgd i hi)
  ·rw[if_neg h]at hn
   exact r.dom n o hn
 ·rw[hget]at hn
  by_cases h:n=g
  ·subst h
   rw[if_pos rfl]at hn
   cases hn
   refine⟨_,by rw[hbk]; exact hb,?_⟩
   have hcs:c.size=vs.length:=by rw[←hc]; simp
   simp only[Fits,tabO]
   refine⟨c,(0,0),rfl,fun i hi=>?_,fun _=>⟨by rw[RV.n_ofList,hcs],hsh,hex,rfl⟩,fun h=>(by cases h)⟩
   simp only[RV.n_ofList]at hi
   rw[RV.get_ofList,val_af _ _ (hgd i hi),hsh,zC7]
   subst hc
   have:i<c.size:=by simpa using hi
   simp[zE8,this]
  ·rw[if_neg h]at hn
   exact r.obj n o hn
def tabsH (N:Nat):List (Nat × TypeId × List Value)→AHeap
 |[]=>AHeap.none N
 |(g,e,vs)::r=>(tabsH N r).put g (some (tabO e vs))
theorem tabsH_next (N:Nat):∀ T,(tabsH N T).next=N∧(tabsH N T).base=N∧(tabsH N T).dirty=[]
 |[]=>⟨rfl,rfl,rfl⟩
 |(_,_,_)::r=>tabsH_next N r
def ansT (P:Program) (K:FuncId→List Value→AHeap→Option Value) (fuel:Nat) (f:FuncId) (args:List Value) (v:Value) (T:List (Nat × TypeId × List Value)):Bool :=
 match call P K fuel f args (tabsH P.globals.size T) with
 |some (.ok u,H1)=>sameW u v&&H1.dirty.isEmpty
 |_=>false
theorem rel_tabs:∀ (T:List (Nat × TypeId × List Value)),(∀ x∈T,x.1<P.globals.size∧afL x.2.2=true∧∃ c,w.heap[x.1]?=some (.cells c x.2.1 (0,0))∧c.toList=x.2.2)→Rel P Ren.same (tabsH P.globals.size T) w
 |[],_=>rel_none P w
 |(g,e,vs)::r,h=>by
  obtain⟨h1,h2,c,h3,h4⟩:=h (g,e,vs) (by simp)
  exact rel_tab (rel_tabs r fun x hx=>h x (by simp[hx])) h1 rfl (fun n _ hn=>hn) h3 h4 h2
theorem ansT_in (hmix:P.follows .mixedOrders=true) {L:FuncId→List Value→AHeap→Option Value} (hK:Known P L) {fuel:Nat} {f:FuncId} {args:List Value} {v:Value} {T:List (Nat × TypeId × List Value)} (ha:args.all af=true) (h:ansT P L fuel f args v T=true)
  (hT:∀ x∈T,x.1<P.globals.size∧afL x.2.2=true∧∃ c,w.heap[x.1]?=some (.cells c x.2.1 (0,0))∧c.toList=x.2.2) (F:Fence) (n:Nat) (hF:WideF F) :
  CallsIn F n P f args.toArray w (fun e w'=>e=.returned v∧RowKit.Below w.heap.size w w')∧af v=true:=by
 unfold ansT at h
 split at h
 ·rename_i u H1 hc
  simp only[zA4]at h
  obtain⟨h,hd⟩:=h
  obtain⟨rfl,hv⟩:=sameW_eq h
  refine⟨?_,hv⟩
  have:=call_in hmix hK (rel_tabs T hT) hc (scbL_of_af _ (afL_of fun x hx=>zC0.1 ha x hx)) (F:=F) (n:=n) hF
  rw[map_af _ args (fun x hx=>zC0.1 ha x hx)]at this
  refine this.mono ?_
  rintro e w' ⟨ρ1,rfl,s⟩
  refine⟨by rw[val_af ρ1 _ hv],s.os,s.tape,s.output,s.size,fun b hb=>s.old b hb fun n hn hor _=>?_⟩
  obtain⟨t1,t2,_⟩:=tabsH_next P.globals.size T
  rcases hor with h|h
  ·omega
  ·rw[List.isEmpty_iff.1 hd]at h
   cases h
 ·cases h
theorem tab_world {ρ:Ren} {H:AHeap} {g:Nat} {e:TypeId} {vs:List Value} (r:Rel P ρ H w) (hg:g<P.globals.size) (hb:bk H g=some ⟨e,false,vs⟩) (ha:afL vs=true):∃ c,w.heap[g]?=some (.cells c e (0,0))∧c.toList=vs:=by
 obtain⟨hbk,hsh⟩:=r.glob.2 g hg
 have hav:∀ x∈vs,af x=true:=by
  intro x hx
  clear hb
  induction vs with
  |nil=>cases hx
  |cons y ys ih =>
   simp only[afL,zA4]at ha
   rcases zB2.1 hx with rfl|hx
   ·exact ha.1
   ·exact ih ha.2 hx
 simp only[bk,zB1]at hb
 obtain⟨⟨rv,e',o⟩,hc,hx⟩:=hb
 simp only[Bl.mk.injEq]at hx
 obtain⟨rfl,rfl,rfl⟩:=hx
 obtain⟨z,q,hgt⟩:=cellsAt_get hc
 obtain⟨o',hw,hfit⟩:=r.obj _ _ hgt
 simp only[Fits]at hfit
 obtain⟨c,fz,rfl,hcs,hcl,_⟩:=hfit
 obtain⟨k1,k2,k3,rfl⟩:=hcl trivial
 rw[hbk]at hw
 refine⟨c,hw,?_⟩
 apply List.ext_getElem?
 intro i
 rw[RV.gets_eq]
 by_cases hi:i<rv.n
 ·have h1:=hcs i hi
  rw[k2,zC7]at h1
  have h2:rv.get i∈rv.gets 0 rv.n:=by rw[RV.gets_eq,List.mem_map]; exact⟨i,by simpa using hi,by simp⟩
  rw[val_af ρ _ (hav _ h2)]at h1
  rw[List.getElem?_map,List.getElem?_range hi]
  simpa using h1
 ·rw[zE0 (by simp; omega),zE0 (by simp; omega)]
end
section
variable {P : Program} {ro : Option Nat} {H : AHeap} {N : Nat} {E : Env} {ds : List Deferred} {ops : Array Oper} {rest : List Oper} {d : Nat} {ty : TypeId} {pos : String} {after : Array Edge} {Q : Exit → AAct → AHeap → Prop}
theorem w_plain {op:BinOp} {t u:TypeId} {x y:Operand} {p q v:Value} (hx:opOk P N x=true) (hy:opOk P N y=true) (hp:opv E x=p) (hq:opv E y=q) (hd:d<N) (h0:aBin P H op t p q=none) (h1:af p=true) (h2:af q=true) (h:peval P (do eqGuard op t x y p q; binOp op t p q)=some v) (h3:af v=true) :
  wpOps P ro ops (⟨some d,.binOp op t x y u,ty,pos,after,none⟩::rest) (mkA N E ds) H Q=wpOps P ro ops rest (mkA N (upd E d v) ds) H Q :=
 (w_rv (x:=some v) rfl (by simp only[aop,xBin,aeval_opv hx,aeval_opv hy,hp,hq,zA1,zA3,binV,h0,h1,h2,aPlain,h,h3,zD1,if_true,zA7]; rfl) hd).trans valC_some
def bAnd (k:IntKind) (x y:Int):Int:=k.wrap ((BitVec.ofInt k.bits x &&& BitVec.ofInt k.bits y).toNat:Int)
def bOr (k:IntKind) (x y:Int):Int:=k.wrap ((BitVec.ofInt k.bits x ||| BitVec.ofInt k.bits y).toNat:Int)
def bNot (k:IntKind) (x y:Int):Int:=k.wrap ((BitVec.ofInt k.bits x &&& ~~~BitVec.ofInt k.bits y).toNat:Int)
def bShl (k:IntKind) (x:Int) (n:Nat):Int:=k.wrap (x*2 ^ (min n k.bits))
def bShr (k:IntKind) (x:Int) (n:Nat):Int:=x.fdiv (2 ^ (min n k.bits))
def bitV (op:BinOp):Value→Value→Option Value
 |.int k a,.int k' b=>(match op with
  |.and=>if k=k' then some (.int k (bAnd k a b)) else none
  |.or=>if k=k' then some (.int k (bOr k a b)) else none
  |.andNot=>if k=k' then some (.int k (bNot k a b)) else none
  |.shl=>if 0≤b then some (.int k (bShl k a b.toNat)) else none
  |.shr=>if 0≤b then some (.int k (bShr k a b.toNat)) else none
  |_=>none)
 |.string a,.string b=>(match op with
  |.eql=>some (.bool (a.toList == b.toList))
  |_=>none)
 |_,_=>none
theorem w_bits {op:BinOp} {t u:TypeId} {x y:Operand} {p q v:Value} (hx:opOk P N x=true) (hy:opOk P N y=true) (hp:opv E x=p) (hq:opv E y=q) (hd:d<N) (h:bitV op p q=some v) (h0:aBin P H op t p q=none) :
  wpOps P ro ops (⟨some d,.binOp op t x y u,ty,pos,after,none⟩::rest) (mkA N E ds) H Q=wpOps P ro ops rest (mkA N (upd E d v) ds) H Q:=by
 unfold bitV at h
 split at h
 ·rename_i k a k' b
  split at h<;>try split at h
  ·rename_i hk
   subst hk
   simp only[Option.some.injEq]at h
   subst h
   exact w_plain hx hy hp hq hd h0 rfl rfl (by simp[eqGuard,binOp,peval,Op.intBits,bAnd,pure,bind,Sem.bind]) rfl
  ·cases h
  ·rename_i hk
   subst hk
   simp only[Option.some.injEq]at h
   subst h
   exact w_plain hx hy hp hq hd h0 rfl rfl (by simp[eqGuard,binOp,peval,Op.intBits,bOr,pure,bind,Sem.bind]) rfl
  ·cases h
  ·rename_i hk
   subst hk
   simp only[Option.some.injEq]at h
   subst h
   exact w_plain hx hy hp hq hd h0 rfl rfl (by simp[eqGuard,binOp,peval,Op.intBits,bNot,pure,bind,Sem.bind]) rfl
  ·cases h
  ·rename_i hb
   simp only[Option.some.injEq]at h
   subst h
   exact w_plain hx hy hp hq hd h0 rfl rfl (by simp[eqGuard,binOp,peval,Op.shift,bShl,pure,bind,Sem.bind,show ¬b<0 by omega]) rfl
  ·cases h
  ·rename_i hb
   simp only[Option.some.injEq]at h
   subst h
   exact w_plain hx hy hp hq hd h0 rfl rfl (by simp[eqGuard,binOp,peval,Op.shift,bShr,pure,bind,Sem.bind,show ¬b<0 by omega]) rfl
  ·cases h
  all_goals cases h
 ·rename_i a b
  split at h
  ·simp only[Option.some.injEq]at h
   subst h
   exact w_plain hx hy hp hq hd h0 rfl rfl (by simp[eqGuard,binOp,peval,Op.stringOp,pure,bind,Sem.bind]) rfl
  ·cases h
 ·cases h
theorem bin_nobit {op:BinOp} {t:TypeId} {p q v:Value} (hop:op=.and∨op=.or∨op=.andNot∨op=.shl∨op=.shr) (h:bitV op p q=some v):aBin P H op t p q=none:=by
 unfold bitV at h
 split at h
 ·rename_i k a k' b
  simp only[aBin]
  split
  ·rcases hop with rfl|rfl|rfl|rfl|rfl<;>rfl
  ·rfl
 ·rcases hop with rfl|rfl|rfl|rfl|rfl<;>cases h
 ·cases h
theorem w_bit {op:BinOp} {t u:TypeId} {x y:Operand} (hop:op=.and∨op=.or∨op=.andNot∨op=.shl∨op=.shr) (hx:opOk P N x=true) (hy:opOk P N y=true) (hd:d<N) (h:(bitV op (opv E x) (opv E y)).isSome=true) :
  wpOps P ro ops (⟨some d,.binOp op t x y u,ty,pos,after,none⟩::rest) (mkA N E ds) H Q=valC P ro ops rest N E ds d H Q (bitV op (opv E x) (opv E y)):=by
 cases hv:bitV op (opv E x) (opv E y) with
 |none=>rw[hv]at h; cases h
 |some v=>exact (w_bits hx hy rfl rfl hd hv (bin_nobit hop hv)).trans valC_some.symm
theorem w_and {t u:TypeId} {x y:Operand} (hx:opOk P N x=true) (hy:opOk P N y=true) (hd:d<N) (h:(bitV .and (opv E x) (opv E y)).isSome=true):wpOps P ro ops (⟨some d,.binOp .and t x y u,ty,pos,after,none⟩::rest) (mkA N E ds) H Q=valC P ro ops rest N E ds d H Q (bitV .and (opv E x) (opv E y)):=w_bit (by simp) hx hy hd h
theorem w_or {t u:TypeId} {x y:Operand} (hx:opOk P N x=true) (hy:opOk P N y=true) (hd:d<N) (h:(bitV .or (opv E x) (opv E y)).isSome=true):wpOps P ro ops (⟨some d,.binOp .or t x y u,ty,pos,after,none⟩::rest) (mkA N E ds) H Q=valC P ro ops rest N E ds d H Q (bitV .or (opv E x) (opv E y)):=w_bit (by simp) hx hy hd h
theorem w_shr {t u:TypeId} {x y:Operand} (hx:opOk P N x=true) (hy:opOk P N y=true) (hd:d<N) (h:(bitV .shr (opv E x) (opv E y)).isSome=true):wpOps P ro ops (⟨some d,.binOp .shr t x y u,ty,pos,after,none⟩::rest) (mkA N E ds) H Q=valC P ro ops rest N E ds d H Q (bitV .shr (opv E x) (opv E y)):=w_bit (by simp) hx hy hd h
theorem bit_and {k:IntKind} {a b:Int}:bitV .and (.int k a) (.int k b)=some (.int k (bAnd k a b)):=by simp only[bitV,if_true]
theorem bit_or {k:IntKind} {a b:Int}:bitV .or (.int k a) (.int k b)=some (.int k (bOr k a b)):=by simp only[bitV,if_true]
theorem bit_shr {k k':IntKind} {a b:Int} (h:0≤b):bitV .shr (.int k a) (.int k' b)=some (.int k (bShr k a b.toNat)):=by simp only[bitV,h,if_true]
end
section
variable {P : Program} {H : AHeap} {N : Nat} {E : Env} {ds : List Deferred} {ro : Option Nat} {ops : Array Oper} {rest : List Oper} {d : Nat} {ty : TypeId} {pos : String} {after : Array Edge}
theorem w_convert {Q:Exit→AAct→AHeap→Prop} {x:Operand} {s t:TypeId} (hx:opOk P N x=true):wpOps P ro ops (⟨some d,.convert s t x,ty,pos,after,none⟩::rest) (mkA N E ds) H Q=heapC P ro ops rest N E ds (some d) Q (aConvert P H s t (opv E x)) :=
 w_rvh rfl (by simp only[aop,xConvert,aeval_opv hx,zA1,zA3])
theorem cv_int {s t:TypeId} {u:TypeDesc} {k k0:IntKind} {n:Int} (hs:P.underlying s=some u) (ht:P.underlying t=some (.int k)):aConvert P H s t (.int k0 n)=some (.int k (k.wrap n),H):=by
 simp only[aConvert,hs,ht]
theorem mk_slice {t e:TypeId} {sz by1 n:Nat} {z:Value} (hu:P.underlying t=some (.slice e)) (hsz:szOf P e=some sz) (hby:bytesOf P e=some by1) (hz:zeroOf P e=some z) (hzl:z.cells.toList.length=sz) (hsm:small n by1=true) :
  aMakeSlice P H t (.int .i64 (n:Int)) (.int .i64 (n:Int))=(aNew H e (zerosL z.cells.toList n) false).map fun g=>(.slice (some ⟨H.next,0,some 0⟩) n n,g):=by
 simp only[aMakeSlice,hu,hsz,hby,hz,zA1,zA3,Int.toNat_natCast]
 rw[if_pos ⟨by omega,Int.le_refl _,hsm,hzl⟩]
 cases aNew H e (zerosL z.cells.toList n) false<;>rfl
theorem cp_sliceR {dt st e:TypeId} {sz m off dl dc n off2 sl sc:Nat} {s s2:Option Nat} {b:Bl} (hu:P.underlying dt=some (.slice e)) (hsz:szOf P e=some sz) (hs:s.getD 0=0) (hb:rk H n=some b) (hle:off2+Nat.min sl dl*sz≤b.l.length) :
  aBuiltin P H .copy ⟨[dt,st]⟩ [.slice (some ⟨m,off,s⟩) dl dc,.slice (some ⟨n,off2,s2⟩) sl sc]=(aWrite H m off ((b.l.drop off2).take (Nat.min sl dl*sz))).map fun g=>(goInt (Nat.min sl dl),g):=by
 simp only[aBuiltin,aCopy,hu,hsz,zA1,zA3,lenV,first_rk hb hle]
 rw[if_pos (.inl hs)]
 cases aWrite H m off ((b.l.drop off2).take (Nat.min sl dl*sz))<;>rfl
theorem cp_slice {dt st e:TypeId} {sz m off dl dc n off2 sl sc:Nat} {s s2:Option Nat} {b:Bl} (hu:P.underlying dt=some (.slice e)) (hsz:szOf P e=some sz) (hs:s.getD 0=0) (hb:bk H n=some b) (hle:off2+Nat.min sl dl*sz≤b.l.length) :
  aBuiltin P H .copy ⟨[dt,st]⟩ [.slice (some ⟨m,off,s⟩) dl dc,.slice (some ⟨n,off2,s2⟩) sl sc]=(aWrite H m off ((b.l.drop off2).take (Nat.min sl dl*sz))).map fun g=>(goInt (Nat.min sl dl),g):=cp_sliceR hu hsz hs (rk_of hb) hle
theorem sl_exact {t e:TypeId} {sz n off len cap:Nat} {lo hi:Option Value} {l h:Nat} (hu:P.underlying t=some (.slice e)) (hsz:szOf P e=some sz) (hl:bound 0 lo=some l) (hh:bound len hi=some h) (h1:h≤cap) (h2:l≤h) (h3:l<cap) :
  aSlice P H t (.slice (some ⟨n,off,some 0⟩) len cap) lo hi none=some (.slice (some ⟨n,off+l*sz,some 0⟩) (h-l) (cap-l),H):=by
 simp only[aSlice,hu,hsz,aSlice2,hl,hh,zA1,zA3,exactAt]
 rw[if_pos ⟨h1,h2⟩,if_neg (by omega)]
theorem wd_slice {Q:AAct→AHeap→Prop} {i:Nat} {fps:List Fp} {anc:List Nat} {t:TypeId} {x:Operand} {lo hi mx:Option Operand} {dst:Option Nat} :
  wkD P ops anc (⟨dst,.slice t x lo hi mx,ty,pos,after,none⟩::rest) i fps (mkA N E ds) H Q=genV P ops anc ⟨dst,.slice t x lo hi mx,ty,pos,after,none⟩ rest i fps (mkA N E ds) H Q:=by
 simp only[wkD,wantA,stepD,pureOp,restD,newOp,genV]
theorem wd_copy {Q:AAct→AHeap→Prop} {i:Nat} {fps:List Fp} {anc:List Nat} {args:List Operand} {ts:Array TypeId} {dst:Option Nat} (ha:args.all (opOk P N)=true) :
  wkD P ops anc (⟨dst,.call ⟨.builtin .copy,⟨args⟩,ts⟩,ty,pos,after,none⟩::rest) i fps (mkA N E ds) H Q=genV P ops anc ⟨dst,.call ⟨.builtin .copy,⟨args⟩,ts⟩,ty,pos,after,none⟩ rest i fps (mkA N E ds) H Q:=by
 simp only[wkD,wantA,stepD,pureOp,restD,newOp,genV,aevals_opv ha,btD,regBt]
theorem genV_val {o:Oper} {Q:AAct→AHeap→Prop} {i:Nat} {fps:List Fp} {anc:List Nat} {v:Value} (hdst:o.dst=some d) (hd:d<N) (hop:∀ G,aop o.op P (mkA N E ds) G=some (.value v,G)) (hm:∀ r∈fps,Meets (anc.getD i 0) [] [] (idsV v++([]:List Bl).flatMap fun x=>idsL x.l) r)
  (h:wkD P ops anc rest (i+1) (⟨i,[],[],H.next,H.next+0⟩::fps) (mkA N (upd E d v) ds) H Q):genV P ops anc o rest i fps (mkA N E ds) H Q :=
 genV_extO (v:=v) (M:=[]) [] hdst hd (fun _ h=>by cases h) (fun G _ _=>opS_of (x:=.value v) (g:=G) (hop G) ⟨rfl,rfl⟩) hm h
theorem slice_aop {t:TypeId} {x:Operand} {lo hi mx:Option Operand} {v:Value} {G:AHeap} (hx:opOk P N x=true) (h1:bndsOk P N lo=true) (h2:bndsOk P N hi=true) (h3:bndsOk P N mx=true) (h:aSlice P G t (opv E x) (bnds E lo) (bnds E hi) (bnds E mx)=some (v,G)) :
  aop (.slice t x lo hi mx) P (mkA N E ds) G=some (.value v,G):=by
 simp only[aop,xSlice,aeval_opv hx,optEval_b h1,optEval_b h2,optEval_b h3,zA1,zA3,h,rvh,zA7]
theorem builtin_op {args:List Operand} {b:Builtin} {ts:Array TypeId} {dst:Option Nat} {v:Value} {G:AHeap} (ha:args.all (opOk P N)=true) (h:aBuiltin P H b ts (args.map (opv E))=some (v,G)):OpS P (mkA N E ds) H ⟨dst,.call ⟨.builtin b,⟨args⟩,ts⟩,ty,pos,after,none⟩ (.ok v) G :=
 opS_of (x:=.value v) (g:=G) (by simp only[aop,xCall,aevals_opv ha,zA1,zA3,h,rvh,zA7]) ⟨rfl,rfl⟩
end
end Go.Ax
namespace Go.Proofs.YtaojjfebkldmnaaDoor
open Go.Ax
def isR (c:Int):Bool:=decide (0≤c)&&decide (c≤1114111)&&!(decide (55296≤c)&&decide (c≤57343))
theorem is_c (H:AHeap) (c:Int):Pure 83 [.int .i64 c] H (.bool (isR c)):=by
 obtain⟨d1,h1⟩:∃ d,decide (0≤c)=d:=⟨_,rfl⟩
 obtain⟨d2,h2⟩:∃ d,decide (c≤1114111)=d:=⟨_,rfl⟩
 obtain⟨d3,h3⟩:∃ d,decide (55296≤c)=d:=⟨_,rfl⟩
 obtain⟨d4,h4⟩:∃ d,decide (c≤57343)=d:=⟨_,rfl⟩
 simp only[isR,h1,h2,h3,h4]
 refine callS_fn mixed Tryd.func83 rfl Tryd.ntmps83 (zA9 rfl) fun wf hsc=>?_
 cases d1<;>cases d2<;>cases d3<;>cases d4<;>(simp (maxDischargeDepth:=6) only[h1,h2,h3,h4,Tryd.results83,ruW,putL,Nat.reduceLeDiff,xF,ruU,entryE,Nat.reduceLT,Nat.reduceAdd,Nat.reduceMul,Nat.reduceEqDiff]; exact Fin.pureE rfl rfl)
def srch (f:Nat→Bool):Nat→Nat→Nat→Nat
 |0,i,_=>i
 |k+1,i,j=>if i<j then (cond (f ((i+j) / 2)) (srch f k i ((i+j) / 2)) (srch f k ((i+j) / 2+1) j)) else i
theorem srch_done (f:Nat→Bool) (k i j:Nat) (h:¬i<j):srch f k i j=i:=by
 cases k with
 |zero=>rfl
 |succ k=>rw[srch,if_neg h]
def spV (l:List (Int × Int)):List Value:=l.flatMap fun q=>[.int .i64 q.1,.int .i64 q.2]
theorem spV_get (l:List (Int × Int)) (k:Nat) (q:Int × Int) (h:l[k]?=some q):(spV l)[k*2]?=some (.int .i64 q.1)∧(spV l)[k*2+1]?=some (.int .i64 q.2):=by
 induction l generalizing k with
 |nil=>simp at h
 |cons a l ih =>
  cases k with
  |zero =>
   simp only[zF5,Option.some.injEq]at h
   subst h
   exact⟨rfl,rfl⟩
  |succ k =>
   have:=ih k (by simpa using h)
   rw[show (k+1)*2=k*2+2 by omega]
   exact this
theorem sp_ia {len cap n:Nat} {s:Option Nat} {k:Nat} (hk:k<len):aIndexAddr Tryd.prog 130 (.slice (some ⟨n,0,s⟩) len cap) (.int .i64 (k:Int))=some (.pointer (some ⟨n,k*2,none⟩)):=by
 rw[ia_slice (e:=126) (sz:=2) (by kernel_rfl) (by kernel_rfl) (by omega) (by omega)]
 simp
structure Clo (H:AHeap) (bs bc m:Nat) (c:Int) (sp:List (Int × Int)):Prop where
 s:bk H bs=some ⟨130,false,[.slice (some ⟨m,0,some 0⟩) sp.length sp.length]⟩
 c:bk H bc=some ⟨3,false,[.int .i64 c]⟩
 m:∃ e,bk H m=some ⟨e,false,spV sp⟩
def toGe (c:Int) (sp:List (Int × Int)) (i:Nat):Bool:=decide (c≤(sp.getD i (0,0)).2)
theorem pred_c (H:AHeap) (bs bc m:Nat) (c:Int) (sp:List (Int × Int)) (h:Clo H bs bc m c sp) (i:Nat) (hi:i<sp.length):Pure 115 [.int .i64 (i:Int),.pointer (some ⟨bs,0,none⟩),.pointer (some ⟨bc,0,none⟩)] H (.bool (toGe c sp i)):=by
 obtain⟨b,hb⟩:∃ b,H.next=b:=⟨_,rfl⟩
 obtain⟨h1,h2,e,h3⟩:=h
 obtain⟨q,hq⟩:∃ q,sp[i]?=some q:=⟨_,zA6 hi⟩
 have hg:=(spV_get sp i q hq).2
 have hd:sp.getD i (0,0)=q:=by rw[List.getD,hq]; rfl
 have hia:=sp_ia (len:=sp.length) (cap:=sp.length) (n:=m) (s:=some 0) hi
 refine callS_fn mixed Tryd.func115 rfl Tryd.ntmps115 (zA9 rfl) fun wf hsc=>?_
 have l1:bs<b:=hb▸wf.lt h1
 have l2:bc<b:=hb▸wf.lt h2
 have l3:m<b:=hb▸wf.lt h3
 simp (maxDischargeDepth:=6) only[ruW,putL,Nat.reduceLeDiff,xF,ruU,entryE,Nat.reduceLT,Nat.reduceAdd,Nat.reduceMul,Nat.reduceEqDiff]
 refine w_drawB [] [] (by kernel_rfl) rfl rfl fun ops anc hA hG=>?_
 simp (maxDischargeDepth:=6) only[hb,h1,h2,h3,l1,l2,l3,hia,hg,toGe,hd,Tryd.results115,ruD,ruW,putL,Nat.reduceLeDiff,xF,ruU,entryE,Nat.reduceLT,Nat.reduceAdd,Nat.reduceMul,Nat.reduceEqDiff]
 exact Fin.pureE rfl rfl
theorem half_wrap {i j:Nat} (h:i+j<1000000):IntKind.i64.wrap (bShr .u64 (IntKind.u64.wrap (IntKind.i64.wrap ((i:Int)+(j:Int)))) 1)=(((i+j) / 2:Nat):Int):=by
 have h1:=wrap_sm (n:=(i:Int)+(j:Int)) (by omega) (by omega)
 rw[show IntKind.i64.wrap ((i:Int)+(j:Int))=_ from h1]
 have h2:IntKind.u64.wrap ((i:Int)+(j:Int))=(i:Int)+(j:Int):=by
  simp only[IntKind.wrap,IntKind.signed,IntKind.bits]
  simp
  omega
 rw[h2]
 have h3:bShr .u64 ((i:Int)+(j:Int)) 1=(((i+j) / 2:Nat):Int):=by
  simp only[bShr,IntKind.bits]
  rw[Int.fdiv_eq_ediv_of_nonneg _ (by decide)]
  simp
 rw[h3]
 exact wrap_sm (by omega) (by omega)
theorem search_c (H:AHeap) (bs bc m:Nat) (c:Int) (sp:List (Int × Int)) (h:Clo H bs bc m c sp) (hlen:sp.length≤1000):Pure 114 [.int .i64 (sp.length:Int),.func (.func 115) ⟨[]⟩ ⟨[.pointer (some ⟨bs,0,none⟩),.pointer (some ⟨bc,0,none⟩)]⟩] H (.int .i64 (srch (toGe c sp) sp.length 0 sp.length:Int)):=by
 obtain⟨b,hb⟩:∃ b,H.next=b:=⟨_,rfl⟩
 have hcv:∀ (X:AHeap) (k:IntKind) (m:Int),aConvert Tryd.prog X 3 118 (.int k m)=some (.int .u64 (IntKind.u64.wrap m),X):=fun X k m=>cv_int (u:=.int .i64) (by kernel_rfl) (by kernel_rfl)
 have hcv2:∀ (X:AHeap) (k:IntKind) (m:Int),aConvert Tryd.prog X 118 3 (.int k m)=some (.int .i64 (IntKind.i64.wrap m),X):=fun X k m=>cv_int (u:=.int .u64) (by kernel_rfl) (by kernel_rfl)
 refine callS_fn mixed Tryd.func114 rfl Tryd.ntmps114 (zA9 rfl) fun wf hsc=>?_
 simp (maxDischargeDepth:=6) only[ruW,putL,Nat.reduceLeDiff,xF,ruU,entryE,Nat.reduceLT,Nat.reduceAdd,Nat.reduceMul,Nat.reduceEqDiff]
 refine w_env fun E hE=>?_
 have g1:E 1=.func (.func 115) ⟨[]⟩ ⟨[.pointer (some ⟨bs,0,none⟩),.pointer (some ⟨bc,0,none⟩)]⟩:=by rw[hE]; simp only[ruU,entryE,Nat.reduceLT,Nat.reduceAdd,Nat.reduceMul,Nat.reduceEqDiff]
 have g5:E 5=.int .i64 ((0:Nat):Int):=by rw[hE]; (simp only[ruU,entryE,Nat.reduceLT,Nat.reduceAdd,Nat.reduceMul,Nat.reduceEqDiff]<;>rfl)
 have g6:E 6=.int .i64 (sp.length:Int):=by rw[hE]; simp only[ruU,entryE,Nat.reduceLT,Nat.reduceAdd,Nat.reduceMul,Nat.reduceEqDiff]
 clear hE
 refine blockC_meet (fun E' H'=>H'=H∧E' 5=.int .i64 (srch (toGe c sp) sp.length 0 sp.length:Int)) ?_ ?_
 ·refine w_loop (fun (q:Nat × Nat × Nat) E' H'=>H'=H∧q.2.1-q.1≤q.2.2∧q.2.1≤sp.length∧srch (toGe c sp) q.2.2 q.1 q.2.1=srch (toGe c sp) sp.length 0 sp.length∧E' 1=.func (.func 115) ⟨[]⟩ ⟨[.pointer (some ⟨bs,0,none⟩),.pointer (some ⟨bc,0,none⟩)]⟩∧E' 5=.int .i64 (q.1:Int)∧E' 6=.int .i64 (q.2.1:Int)) (fun q=>q.2.1-q.1) (0,sp.length,sp.length)
   ⟨rfl,by simp,zA5 _,rfl,g1,g5,g6⟩ ?_
  clear g1 g5 g6 E
  rintro⟨i,j,k⟩ E X ⟨hX,hk,hj,hs,g1,g5,g6⟩
  simp only at hk hj hs g5 g6
  rw[hX,show H=ext H [] from rfl]
  by_cases hij:i<j
  ·have hd:decide ((i:Int)<(j:Int))=true:=decide_eq_true (by omega)
   obtain⟨k',rfl⟩:∃ k',k=k'+1:=⟨k-1,by omega⟩
   rw[srch,if_pos hij]at hs
   have hhalf:=half_wrap (i:=i) (j:=j) (by omega)
   obtain⟨md,hmd⟩:∃ md,(i+j) / 2=md:=⟨_,rfl⟩
   rw[hmd]at hhalf hs
   have hm1:i≤md∧md<j:=by omega
   have hws:=wrap_succ (show md<1000000 by omega)
   have hp:=pred_c H bs bc m c sp h md (by omega)
   simp (maxDischargeDepth:=6) only[g1,g5,g6,hb,hd,w_convert,hcv,hcv2,w_shr,bit_shr,hhalf,Int.reduceLE,Int.reduceToNat,ruW,putL,Nat.reduceLeDiff,xF,ruU,entryE,Nat.reduceLT,Nat.reduceAdd,Nat.reduceMul,Nat.reduceEqDiff]
   refine w_callV (f:=115) (ca:=[.pointer (some ⟨bs,0,none⟩),.pointer (some ⟨bc,0,none⟩)]) (by simp only[ruU,entryE,Nat.reduceLT,Nat.reduceAdd,Nat.reduceMul,Nat.reduceEqDiff]) (by simp only[g1,ruU,entryE,Nat.reduceLT,Nat.reduceAdd,Nat.reduceMul,Nat.reduceEqDiff]) (by simp only[ruU,entryE,Nat.reduceLT,Nat.reduceAdd,Nat.reduceMul,Nat.reduceEqDiff]) (by kernel_rfl) ?_
   simp only[ruU,entryE,Nat.reduceLT,Nat.reduceAdd,Nat.reduceMul,Nat.reduceEqDiff]
   refine (show CallS Tryd.prog 115 _ (ext H []) _ (ext H []) from hp).to ?_
   cases hf:toGe c sp md with
   |true =>
    rw[hf,cond_true]at hs
    simp (maxDischargeDepth:=6) only[g1,g5,g6,hf,ruW,putL,Nat.reduceLeDiff,xF,ruU,entryE,Nat.reduceLT,Nat.reduceAdd,Nat.reduceMul,Nat.reduceEqDiff]
    refine loopC_next ⟨(i,md,k'),by simp only; omega,rfl,by simp only; omega,by simp only; omega,hs,?_,?_,?_⟩<;>simp only[g1,g5,g6,ruU,entryE,Nat.reduceLT,Nat.reduceAdd,Nat.reduceMul,Nat.reduceEqDiff]
   |false =>
    rw[hf,cond_false]at hs
    simp (maxDischargeDepth:=6) only[g1,g5,g6,hf,hws,ruW,putL,Nat.reduceLeDiff,xF,ruU,entryE,Nat.reduceLT,Nat.reduceAdd,Nat.reduceMul,Nat.reduceEqDiff]
    refine loopC_next ⟨(md+1,j,k'),by simp only; omega,rfl,by simp only; omega,by simp only; omega,hs,?_,?_,?_⟩<;>simp only[g1,g5,g6,ruU,entryE,Nat.reduceLT,Nat.reduceAdd,Nat.reduceMul,Nat.reduceEqDiff]
  ·have hd:decide ((i:Int)<(j:Int))=false:=decide_eq_false (by omega)
   rw[srch_done _ _ _ _ hij]at hs
   simp (maxDischargeDepth:=6) only[g1,g5,g6,hd,ruW,putL,Nat.reduceLeDiff,xF,ruU,entryE,Nat.reduceLT,Nat.reduceAdd,Nat.reduceMul,Nat.reduceEqDiff]
   refine joinR_normal ⟨rfl,?_⟩
   simp only[g5,hs,ruU,entryE,Nat.reduceLT,Nat.reduceAdd,Nat.reduceMul,Nat.reduceEqDiff]
 clear g1 g5 g6 E
 rintro E X ⟨hX,g5⟩
 rw[hX,show H=ext H [] from rfl]
 simp (maxDischargeDepth:=6) only[g5,Tryd.results114,ruW,putL,Nat.reduceLeDiff,xF,ruU,entryE,Nat.reduceLT,Nat.reduceAdd,Nat.reduceMul,Nat.reduceEqDiff]
 exact Fin.pure rfl
def inR (c:Int) (sp:List (Int × Int)):Bool :=
 decide (srch (toGe c sp) sp.length 0 sp.length<sp.length)&&decide ((sp.getD (srch (toGe c sp) sp.length 0 sp.length) (0,0)).1≤c)
theorem in_c (H:AHeap) (m:Nat) (c:Int) (sp:List (Int × Int)) (h:∃ e,bk H m=some ⟨e,false,spV sp⟩) (hlen:sp.length≤1000):Pure 101 [.int .i64 c,.slice (some ⟨m,0,some 0⟩) sp.length sp.length] H (.bool (inR c sp)):=by
 obtain⟨b,hb⟩:∃ b,H.next=b:=⟨_,rfl⟩
 obtain⟨e,h3⟩:=h
 obtain⟨k,hk⟩:∃ k,sp.length=k:=⟨_,rfl⟩
 obtain⟨i,hi⟩:∃ i,srch (toGe c sp) sp.length 0 sp.length=i:=⟨_,rfl⟩
 obtain⟨d1,hd1⟩:∃ d,decide (i<k)=d:=⟨_,rfl⟩
 have hd1':decide ((i:Int)<(k:Int))=d1:=by
  rw[←hd1]
  by_cases h:i<k
  ·rw[decide_eq_true h,decide_eq_true (by omega)]
  ·rw[decide_eq_false h,decide_eq_false (by omega)]
 refine callS_fn mixed Tryd.func101 rfl Tryd.ntmps101 (zA9 rfl) fun wf hsc=>?_
 have hbase:H.base≤b:=hb▸wf.base
 have l3:m<b:=hb▸wf.lt h3
 have hclo:Clo (ext H [⟨3,false,[.int .i64 c]⟩,⟨130,false,[.slice (some ⟨m,0,some 0⟩) sp.length sp.length]⟩]) (b+1) (b+0) m c sp :=
  ⟨by rw[bk_at hb (by simp)]; rfl,by rw[bk_at hb (by simp)]; rfl,e,by rw[bk_old (by omega)]; exact h3⟩
 have hse:=search_c _ (b+1) (b+0) m c sp hclo hlen
 unfold inR
 rw[hi]at hse ⊢
 rw[hk]at hse ⊢
 rw[hd1]
 simp (maxDischargeDepth:=6) only[hb,hbase,l3,ruW,putL,Nat.reduceLeDiff,xF,ruU,entryE,Nat.reduceLT,Nat.reduceAdd,Nat.reduceMul,Nat.reduceEqDiff]
 refine hse.to ?_
 simp (maxDischargeDepth:=6) only[hb,hbase,l3,ruW,putL,Nat.reduceLeDiff,xF,ruU,entryE,Nat.reduceLT,Nat.reduceAdd,Nat.reduceMul,Nat.reduceEqDiff]
 refine w_drawB [] [(4,14)] (by kernel_rfl) rfl (by kernel_rfl) fun ops anc hA hG=>?_
 simp only[all2_cons]at hG
 cases d1 with
 |false =>
  simp (maxDischargeDepth:=6) only[hb,hbase,l3,hG,hd1',Bool.false_and,Tryd.results101,ruD,ruW,putL,Nat.reduceLeDiff,xF,ruU,entryE,Nat.reduceLT,Nat.reduceAdd,Nat.reduceMul,Nat.reduceEqDiff]
  exact Fin.pureE rfl rfl
 |true =>
  have hik:i<sp.length:=by rw[hk]; exact of_decide_eq_true hd1
  obtain⟨q,hq⟩:∃ q,sp[i]?=some q:=⟨_,zA6 hik⟩
  have hg:=(spV_get sp i q hq).1
  have hd:sp.getD i (0,0)=q:=by rw[List.getD,hq]; rfl
  have hia:=sp_ia (len:=k) (cap:=k) (n:=m) (s:=some 0) (k:=i) (by omega)
  rw[hd]
  simp (maxDischargeDepth:=6) only[hb,hbase,l3,h3,hG,hd1',hia,hg,Bool.true_and,Tryd.results101,ruD,ruW,putL,Nat.reduceLeDiff,xF,ruU,entryE,Nat.reduceLT,Nat.reduceAdd,Nat.reduceMul,Nat.reduceEqDiff]
  exact Fin.pureE rfl rfl
def zeroSp:List (Int × Int):=[(768,879),(1155,1161),(1425,1469),(8203,8207),(8400,8447),(65024,65039),(65056,65071)]
def twoSp:List (Int × Int):=[(0,8),(10,31),(127,127),(4352,4447),(11904,12350),(12353,42191),(44032,55203),(63744,64255),(65072,65135),(65280,65376),(65504,65510),(127744,128591),(129280,129535),(131072,262141)]
def widthR (c:Int):Nat:=if (!isR c||inR c zeroSp)=true then 0 else if inR c twoSp=true then 2 else 1
theorem width_c (H:AHeap) (c:Int):Pure 84 [.int .i64 c] H (.int .i64 (widthR c:Int)):=by
 obtain⟨b,hb⟩:∃ b,H.next=b:=⟨_,rfl⟩
 refine callS_fn mixed Tryd.func84 rfl Tryd.ntmps84 (zA9 rfl) fun wf hsc=>?_
 have hbase:H.base≤b:=hb▸wf.base
 have uA7:Tryd.prog.underlying 127=some (.array 7 126):=by kernel_rfl
 have uA14:Tryd.prog.underlying 128=some (.array 14 126):=by kernel_rfl
 have zSp:szOf Tryd.prog 126=some 2:=by kernel_rfl
 have slA7:∀ (X:AHeap) (n:Nat),aSlice Tryd.prog X 127 (.pointer (some ⟨n,0,none⟩)) none none none=some (.slice (some ⟨n,0,some 0⟩) 7 7,X):=fun X n=>by
  simp only[aSlice,uA7,bound,zSp,zA1,zA3]
  rfl
 have slA14:∀ (X:AHeap) (n:Nat),aSlice Tryd.prog X 128 (.pointer (some ⟨n,0,none⟩)) none none none=some (.slice (some ⟨n,0,some 0⟩) 14 14,X):=fun X n=>by
  simp only[aSlice,uA14,bound,zSp,zA1,zA3]
  rfl
 obtain⟨d0,hd0⟩:∃ d,isR c=d:=⟨_,rfl⟩
 obtain⟨d1,hd1⟩:∃ d,inR c zeroSp=d:=⟨_,rfl⟩
 obtain⟨d2,hd2⟩:∃ d,inR c twoSp=d:=⟨_,rfl⟩
 have his:=is_c (ext H [⟨127,false,spV zeroSp⟩,⟨128,false,spV twoSp⟩]) c
 have hin0:=in_c (ext H [⟨127,false,spV zeroSp⟩,⟨128,false,spV twoSp⟩]) (b+0) c zeroSp ⟨127,by rw[bk_at hb (by simp)]; rfl⟩ (by decide)
 have hin1:=in_c (ext H [⟨127,false,spV zeroSp⟩,⟨128,false,spV twoSp⟩]) (b+1) c twoSp ⟨128,by rw[bk_at hb (by simp)]; rfl⟩ (by decide)
 rw[hd0]at his
 rw[hd1]at hin0
 rw[hd2]at hin1
 have hl0:zeroSp.length=7:=rfl
 have hl1:twoSp.length=14:=rfl
 rw[hl0]at hin0
 rw[hl1]at hin1
 have key:widthR c=cond (!d0||d1) 0 (cond d2 2 1):=by
  unfold widthR
  rw[hd0,hd1,hd2]
  cases d0<;>cases d1<;>cases d2<;>rfl
 rw[key]
 simp (maxDischargeDepth:=6) only[hb,hbase,ruW,putL,Nat.reduceLeDiff,xF,ruU,entryE,Nat.reduceLT,Nat.reduceAdd,Nat.reduceMul,Nat.reduceEqDiff]
 refine his.to ?_
 cases d0 with
 |false =>
  simp (maxDischargeDepth:=6) only[hb,hbase,zD6,Bool.true_or,cond_true,Tryd.results84,ruW,putL,Nat.reduceLeDiff,xF,ruU,entryE,Nat.reduceLT,Nat.reduceAdd,Nat.reduceMul,Nat.reduceEqDiff]
  exact Fin.pureE rfl rfl
 |true =>
  simp (maxDischargeDepth:=6) only[hb,hbase,slA7,slA14,ruW,putL,Nat.reduceLeDiff,xF,ruU,entryE,Nat.reduceLT,Nat.reduceAdd,Nat.reduceMul,Nat.reduceEqDiff]
  refine hin0.to ?_
  cases d1 with
  |true =>
   simp (maxDischargeDepth:=6) only[hb,hbase,Bool.or_true,cond_true,Tryd.results84,ruW,putL,Nat.reduceLeDiff,xF,ruU,entryE,Nat.reduceLT,Nat.reduceAdd,Nat.reduceMul,Nat.reduceEqDiff]
   exact Fin.pureE rfl rfl
  |false =>
   simp (maxDischargeDepth:=6) only[hb,hbase,slA7,slA14,ruW,putL,Nat.reduceLeDiff,xF,ruU,entryE,Nat.reduceLT,Nat.reduceAdd,Nat.reduceMul,Nat.reduceEqDiff]
   refine hin1.to ?_
   cases d2<;>(simp (maxDischargeDepth:=6) only[hb,hbase,zC8,Bool.or_false,cond_true,cond_false,Tryd.results84,ruW,putL,Nat.reduceLeDiff,xF,ruU,entryE,Nat.reduceLT,Nat.reduceAdd,Nat.reduceMul,Nat.reduceEqDiff]; exact Fin.pureE rfl rfl)
theorem ints_ia {len cap n:Nat} {s:Option Nat} {k:Nat} (hk:k<len):aIndexAddr Tryd.prog 109 (.slice (some ⟨n,0,s⟩) len cap) (.int .i64 (k:Int))=some (.pointer (some ⟨n,k,none⟩)):=by
 rw[ia_slice (e:=3) (sz:=1) (by kernel_rfl) (by kernel_rfl) (by omega) (by omega)]
 simp
structure Lk where
 fore:Int
 back:Int
 bold:Bool
 under:Bool
 inv:Bool
deriving DecidableEq
def Lk.val (k:Lk):Value:=.agg #[.int .i64 k.fore,.int .i64 k.back,.bool k.bold,.bool k.under,.bool k.inv]
def Lk.ce (k:Lk) (r:Int):Ce:=⟨r,k.fore,k.back,k.bold,k.under,k.inv⟩
def Ce.look (c:Ce):Lk:=⟨c.fore,c.back,c.bold,c.under,c.inv⟩
def colr (k:Lk):Bool:=decide (0≤k.fore)&&decide (k.fore≤256)&&decide (0≤k.back)&&decide (k.back≤256)
def cellsR (c:Int):Nat:=if (decide (c<32)||decide (c=127)||!isR c)=true then 0 else widthR c
theorem widthR_cases (c:Int):widthR c=0∨widthR c=1∨widthR c=2:=by
 unfold widthR
 split
 ·exact .inl rfl
 ·split
  ·exact .inr (.inr rfl)
  ·exact .inr (.inl rfl)
theorem cellsR_cases (c:Int):cellsR c=0∨cellsR c=1∨cellsR c=2:=by
 unfold cellsR
 split
 ·exact .inl rfl
 ·exact widthR_cases c
theorem cellsOf_c (H:AHeap) (c:Int):Pure 62 [.int .i64 c] H (.int .i64 (cellsR c:Int)):=by
 obtain⟨d1,h1⟩:∃ d,decide (c<32)=d:=⟨_,rfl⟩
 obtain⟨d2,h2⟩:∃ d,decide (c=127)=d:=⟨_,rfl⟩
 obtain⟨d3,h3⟩:∃ d,isR c=d:=⟨_,rfl⟩
 have his:=is_c (ext H []) c
 rw[h3]at his
 have hwd:=width_c (ext H []) c
 obtain⟨m,hm⟩:∃ m,cellsR c=m:=⟨_,rfl⟩
 have hm':=hm
 unfold cellsR at hm'
 rw[h1,h2,h3]at hm'
 rw[hm]
 refine callS_fn mixed Tryd.func62 rfl Tryd.ntmps62 (zA9 rfl) fun wf hsc=>?_
 cases d1 with
 |true =>
  obtain rfl:0=m:=by simpa using hm'
  simp (maxDischargeDepth:=6) only[h1,Tryd.results62,ruW,putL,Nat.reduceLeDiff,xF,ruU,entryE,Nat.reduceLT,Nat.reduceAdd,Nat.reduceMul,Nat.reduceEqDiff]; exact Fin.pureE rfl rfl
 |false =>
  cases d2 with
  |true =>
   obtain rfl:0=m:=by simpa using hm'
   simp (maxDischargeDepth:=6) only[h1,h2,Tryd.results62,ruW,putL,Nat.reduceLeDiff,xF,ruU,entryE,Nat.reduceLT,Nat.reduceAdd,Nat.reduceMul,Nat.reduceEqDiff]; exact Fin.pureE rfl rfl
  |false =>
   simp (maxDischargeDepth:=6) only[h1,h2,ruW,putL,Nat.reduceLeDiff,xF,ruU,entryE,Nat.reduceLT,Nat.reduceAdd,Nat.reduceMul,Nat.reduceEqDiff]
   refine his.to ?_
   cases d3 with
   |false =>
    obtain rfl:0=m:=by simpa using hm'
    simp (maxDischargeDepth:=6) only[zD6,Tryd.results62,ruW,putL,Nat.reduceLeDiff,xF,ruU,entryE,Nat.reduceLT,Nat.reduceAdd,Nat.reduceMul,Nat.reduceEqDiff]; exact Fin.pureE rfl rfl
   |true =>
    obtain rfl:widthR c=m:=by simpa using hm'
    simp (maxDischargeDepth:=6) only[zC8,ruW,putL,Nat.reduceLeDiff,xF,ruU,entryE,Nat.reduceLT,Nat.reduceAdd,Nat.reduceMul,Nat.reduceEqDiff]
    refine hwd.to ?_
    simp (maxDischargeDepth:=6) only[Tryd.results62,ruW,putL,Nat.reduceLeDiff,xF,ruU,entryE,Nat.reduceLT,Nat.reduceAdd,Nat.reduceMul,Nat.reduceEqDiff]
    exact Fin.pureE rfl rfl
theorem coloured39_c (H:AHeap) (k:Lk):Pure 63 [k.val] H (.bool (colr k)):=by
 obtain⟨b,hb⟩:∃ b,H.next=b:=⟨_,rfl⟩
 obtain⟨d1,h1⟩:∃ d,decide (0≤k.fore)=d:=⟨_,rfl⟩
 obtain⟨d2,h2⟩:∃ d,decide (k.fore≤256)=d:=⟨_,rfl⟩
 obtain⟨d3,h3⟩:∃ d,decide (0≤k.back)=d:=⟨_,rfl⟩
 obtain⟨d4,h4⟩:∃ d,decide (k.back≤256)=d:=⟨_,rfl⟩
 simp only[colr,h1,h2,h3,h4]
 refine callS_fn mixed Tryd.func63 rfl Tryd.ntmps63 (zA9 rfl) fun wf hsc=>?_
 have hbase:H.base≤b:=hb▸wf.base
 cases d1<;>cases d2<;>cases d3<;>cases d4<;>(simp (maxDischargeDepth:=6) only[hb,hbase,Lk.val,h1,h2,h3,h4,Tryd.results63,ruW,putL,Nat.reduceLeDiff,xF,ruU,entryE,Nat.reduceLT,Nat.reduceAdd,Nat.reduceMul,Nat.reduceEqDiff]; exact Fin.pureE rfl rfl)
theorem run_load {l:List Ce} {k:Nat} {c:Ce} {e:TypeId} {o:Bool} {L:List Value} {off:Nat} (hk:l[k]?=some c) (hle:off+l.length*6≤L.length) (h:(L.drop off).take (l.length*6)=csOf l):ldB Tryd.prog 3 (off+k*6) (some ⟨e,o,L⟩)=some (.int .i64 c.rune):=by
 have h1:aggT Tryd.prog 3=some false:=by kernel_rfl
 have h2:=take_get l k c L off hk h
 have h3:((L.drop (off+k*6)).take 6)[0]?=some (.int .i64 c.rune):=by rw[h2]; rfl
 rw[ld_one h1]
 simpa using h3
theorem look_load {l:List Ce} {k:Nat} {c:Ce} {e:TypeId} {o:Bool} {L:List Value} {off:Nat} (hk:l[k]?=some c) (hle:off+l.length*6≤L.length) (h:(L.drop off).take (l.length*6)=csOf l):ldB Tryd.prog 45 (off+(k*6+1)) (some ⟨e,o,L⟩)=some c.look.val:=by
 rw[show off+(k*6+1)=off+k*6+1 from (Nat.add_assoc _ _ _).symm]
 have hlt:k<l.length:=(zE2.1 hk).1
 have h1:aggT Tryd.prog 45=some true:=by kernel_rfl
 have h2:szOf Tryd.prog 45=some 5:=by kernel_rfl
 have h3:=take_get l k c L off hk h
 have h4:(L.drop (off+k*6+1)).take 5=((L.drop (off+k*6)).take 6).drop 1:=by
  rw[List.drop_take,List.drop_drop]
 rw[ld_agg h1,h2,zA3,if_pos (by omega),h4,h3]
 rfl
theorem putL_nl:∀ (l:List Value) (off:Nat),putL l off []=l
 |[],0=>rfl
 |[],_+1=>rfl
 |_::_,0=>rfl
 |x::r,k+1=>by rw[putL,putL_nl r k]
theorem putL_app:∀ (A L:List Value) (n:Nat) (v:List Value),putL (A++L) (A.length+n) v=A++putL L n v
 |[],L,n,v=>by rw[zB8,zC3,zC1,zB8]
 |a::A,L,n,v=>by
  rw[zF3,zB5,show A.length+1+n=(A.length+n)+1 by omega,putL,putL_app A L n v,zF3]
theorem flat_len {α:Type} (f:α→List Value) (sz:Nat) (hf:∀ a,(f a).length=sz) (l:List α):(l.flatMap f).length=l.length*sz:=by
 induction l with
 |nil=>simp
 |cons a l ih=>rw[zF8,zB6,ih,hf,zB5,Nat.succ_mul]; omega
theorem flat_get {α:Type} (f:α→List Value) (sz:Nat) (hf:∀ a,(f a).length=sz):∀ (l:List α) (k:Nat) (c:α),l[k]?=some c→((l.flatMap f).drop (k*sz)).take sz=f c
 |[],_,_,h=>by simp at h
 |a::l,0,c,h=>by
  simp only[zF5,Option.some.injEq]at h
  subst h
  rw[zE1,zD3,zF8,List.take_append,hf,zE9,List.take_zero,zD0,zE6 (by rw[hf]; exact zA5 _)]
 |a::l,k+1,c,h=>by
  rw[zF8,show (k+1)*sz=(f a).length+k*sz by rw[hf,Nat.succ_mul]; omega,List.drop_append,zE7 (by omega),zB8,Nat.add_sub_cancel_left]
  exact flat_get f sz hf l k c (by simpa using h)
theorem flat_at {α:Type} (f:α→List Value) (sz:Nat) (hf:∀ a,(f a).length=sz) {l:List α} {k:Nat} {c:α} {L:List Value} {off:Nat} (hk:l[k]?=some c) (h:(L.drop off).take (l.length*sz)=l.flatMap f):(L.drop (off+k*sz)).take sz=f c:=by
 have hlt:k<l.length:=(zE2.1 hk).1
 have h2:=flat_get f sz hf l k c hk
 have h3:sz≤l.length*sz-k*sz:=by
  have:(k+1)*sz≤l.length*sz:=Nat.mul_le_mul_right sz hlt
  rw[Nat.succ_mul]at this
  omega
 rw[←h,List.drop_take,List.drop_drop,List.take_take,Nat.min_eq_left h3]at h2
 exact h2
structure Op where
 kind:Int
 row:Int
 col:Int
 n:Int
 look:Lk
 text:ByteArray
def Op.cells (x:Op):List Value:=[.int .i64 x.kind,.int .i64 x.row,.int .i64 x.col,.int .i64 x.n,.int .i64 x.look.fore,.int .i64 x.look.back,.bool x.look.bold,.bool x.look.under,.bool x.look.inv,.string x.text]
def Op.val (x:Op):Value:=.agg ⟨x.cells⟩
theorem op_len (x:Op):x.cells.length=10:=rfl
def opsOf (l:List Op):List Value:=l.flatMap Op.cells
def OpsAt (H:AHeap) (v:Value) (l:List Op):Prop :=
 (l=[]∧∃ a c,v=.slice a 0 c)∨(l≠[]∧∃ n off s c e o L,v=.slice (some ⟨n,off,s⟩) l.length c∧rk H n=some ⟨e,o,L⟩∧n<H.next∧off+l.length*10≤L.length∧(L.drop off).take (l.length*10)=opsOf l)
theorem OpsAt.sl {H:AHeap} {v:Value} {l:List Op} (h:OpsAt H v l):∃ a c,v=.slice a l.length c:=by
 rcases h with⟨rfl,a,c,rfl⟩|⟨_,n,off,s,c,e,o,L,rfl,_⟩
 ·exact⟨a,c,rfl⟩
 ·exact⟨_,_,rfl⟩
theorem OpsAt.of {H G:AHeap} {v:Value} {l:List Op} (h:OpsAt H v l) (hn:H.next≤G.next) (hg:∀ n∈idsV v,G.get n=H.get n):OpsAt G v l:=by
 rcases h with⟨rfl,a,c,rfl⟩|⟨hl,n,off,s,c,e,o,L,rfl,hb,hlt,hle,ht⟩
 ·exact .inl ⟨rfl,a,c,rfl⟩
 ·exact .inr ⟨hl,n,off,s,c,e,o,L,rfl,(rk_get (hg n (by simp[idsV]))).trans hb,by omega,hle,ht⟩
theorem op_ia {len cap n off:Nat} {s:Option Nat} {i:Int} {k:Nat} (hi:i=k) (hk:k<len):aIndexAddr Tryd.prog 28 (.slice (some ⟨n,off,s⟩) len cap) (.int .i64 i)=some (.pointer (some ⟨n,off+k*10,none⟩)):=by
 subst hi
 rw[ia_slice (e:=47) (sz:=10) (by kernel_rfl) (by kernel_rfl) (by omega) (by omega)]
 simp
theorem op_load {l:List Op} {k:Nat} {x:Op} {e:TypeId} {o:Bool} {L:List Value} {off:Nat} (hk:l[k]?=some x) (hle:off+l.length*10≤L.length) (h:(L.drop off).take (l.length*10)=opsOf l):ldB Tryd.prog 47 (off+k*10) (some ⟨e,o,L⟩)=some x.val:=by
 have hlt:k<l.length:=(zE2.1 hk).1
 have h1:aggT Tryd.prog 47=some true:=by kernel_rfl
 have h2:szOf Tryd.prog 47=some 10:=by kernel_rfl
 have h3:=flat_at Op.cells 10 op_len hk h
 rw[ld_agg h1,h2,zA3,if_pos (by omega),h3]
 rfl
theorem op_cell {l:List Op} {k j:Nat} {x:Op} {v:Value} {t:TypeId} {e:TypeId} {o:Bool} {L:List Value} {off:Nat} (ht:aggT Tryd.prog t=some false) (hk:l[k]?=some x) (hj:x.cells[j]?=some v) (h:(L.drop off).take (l.length*10)=opsOf l):ldB Tryd.prog t (off+k*10+j) (some ⟨e,o,L⟩)=some v:=by
 have h3:=flat_at Op.cells 10 op_len hk h
 have hj10:j<10:=by have:=(zE2.1 hj).1; rw[op_len]at this; exact this
 rw[ld_one ht]
 rw[←h3,List.getElem?_take,if_pos hj10,List.getElem?_drop]at hj
 exact hj
structure St where
 grid:List (List Ce)
 sr:Int
 sc:Int
 pen:Lk
 row:Int
 col:Int
 shown:Bool
def St.cells (x:St) (v:Value):List Value:=[v,.int .i64 x.sr,.int .i64 x.sc,.int .i64 x.pen.fore,.int .i64 x.pen.back,.bool x.pen.bold,.bool x.pen.under,.bool x.pen.inv,.int .i64 x.row,.int .i64 x.col,.bool x.shown]
structure StAt (T:TypeId) (N:Nat) (H:AHeap) (p:Nat) (v:Value) (rvs:List Value) (x:St):Prop where
 cell:bk H p=some ⟨T,false,x.cells v⟩
 own:OwnG N H v rvs x.grid
 apart:p∉idsV v++rvs.flatMap idsV
 lt:p<H.next
 lo:N≤p
structure St.Ok (x:St) (W:Nat):Prop where
 h1:1≤x.grid.length
 h2:x.grid.length≤200
 w1:1≤W
 w2:W≤1000
 wid:∀ l∈x.grid,l.length=W
 row0:0≤x.row
 row1:x.row<x.grid.length
 col0:0≤x.col
 col1:x.col≤W
def Ce.sp:Ce:=⟨32,0,0,false,false,false⟩
def halfL (l:List Ce) (k:Nat):List Ce:=if 0<k∧(l.getD k Ce.sp).rune=-1 then l.set (k-1) Ce.sp else l
def halfR (l:List Ce) (k:Nat):List Ce:=if (l.getD (k+1) Ce.sp).rune=-1 then l.set (k+1) Ce.sp else l
def setL (l:List Ce) (k:Nat) (c:Ce):List Ce:=(halfR (halfL l k) k).set k c
theorem halfL_len (l:List Ce) (k:Nat):(halfL l k).length=l.length:=by unfold halfL; split<;>simp
theorem halfR_len (l:List Ce) (k:Nat):(halfR l k).length=l.length:=by unfold halfR; split<;>simp
theorem setL_len (l:List Ce) (k:Nat) (c:Ce):(setL l k c).length=l.length:=by rw[setL,List.length_set,halfR_len,halfL_len]
def St.setRow (x:St) (k:Nat) (l:List Ce):St:={x with grid:=x.grid.set k l}
def St.fits (W:Nat):List Int→Int→Bool
 |[],_=>true
 |c::l,n=>if (decide (cellsR c=0)||decide ((W:Int)<n+cellsR c))=true then false else St.fits W l (n+cellsR c)
def putC (pen:Lk) (l:List Ce) (k:Nat) (c:Int):List Ce :=
 if cellsR c=2 then (((setL (setL l k Ce.sp) (k+1) Ce.sp).set (k+1) (pen.ce (-1))).set k (pen.ce c)) else (setL l k Ce.sp).set k (pen.ce c)
def putAll (pen:Lk):List Int→List Ce→Nat→List Ce × Nat
 |[],l,k=>(l,k)
 |c::cs,l,k=>putAll pen cs (putC pen l k c) (k+cellsR c)
def clearL (l:List Ce):Nat→Nat→List Ce
 |_,0=>l
 |k,n+1=>clearL (setL l k Ce.sp) (k+1) n
def rollR (W:Nat) (g:List (List Ce)) (top bot n:Nat) (up:Bool):List (List Ce) :=
 let part:=(g.take (bot+1)).drop top
 let fresh:=List.replicate n (List.replicate W Ce.sp)
 g.take top++(if up then part.drop n++fresh else fresh++part.take (part.length-n))++g.drop (bot+1)
def St.does (W:Nat) (r:List UInt8→Option (List Int)) (x:St) (o:Op):Option St :=
 if o.kind=1 then (if (decide (0≤o.row)&&decide (o.row<x.grid.length)&&decide (0≤o.col)&&decide (o.col<W))=true then some {x with row:=o.row,col:=o.col} else none)
 else if o.kind=2 then (if colr o.look=true then some {x with pen:=o.look} else none)
 else if o.kind=3 then (match r o.text.data.toList with
  |none=>none
  |some l=>if St.fits W l x.col=true then
    some {x with grid:=x.grid.set x.row.toNat (putAll x.pen l (x.grid.getD x.row.toNat []) x.col.toNat).1,col:=((putAll x.pen l (x.grid.getD x.row.toNat []) x.col.toNat).2:Nat)}
   else none)
 else if o.kind=4 then (if x.col<W then some {x with grid:=x.grid.set x.row.toNat (clearL (x.grid.getD x.row.toNat []) x.col.toNat (W-x.col.toNat))} else none)
 else if o.kind=5∨o.kind=6 then (if (decide (0≤o.row)&&decide (o.row≤o.col)&&decide (o.col<x.grid.length)&&decide (1≤o.n)&&decide (o.n≤o.col-o.row+1))=true then
   some {x with grid:=rollR W x.grid o.row.toNat o.col.toNat o.n.toNat (decide (o.kind=5))} else none)
 else if o.kind=7 then some {x with shown:=true}
 else if o.kind=8 then some {x with shown:=false}
 else none
def St.all (W:Nat) (r:List UInt8→Option (List Int)):List Op→Nat→St→St ⊕ Nat
 |[],_,x=>.inl x
 |o::l,i,x=>match x.does W r o with
  |none=>.inr i
  |some y=>St.all W r l (i+1) y
section
variable {T : TypeId} {N : Nat} {H G : AHeap} {p : Nat} {v : Value} {rvs : List Value} {x y : St}
theorem StAt.ids (a:StAt T N H p v rvs x):∀ n∈p::(idsV v++rvs.flatMap idsV),N≤n∧n<H.next∧H.get n≠none:=by
 intro n hn
 rcases zB2.1 hn with rfl|hn
 ·exact⟨a.lo,a.lt,bk_ne a.cell⟩
 ·rcases zB4.1 hn with hn|hn
  ·have:=a.own.idv n hn; exact⟨this.1,this.2.1,this.2.2.1⟩
  ·exact a.own.ids n hn
theorem StAt.of (a:StAt T N H p v rvs x) (hn:H.next≤G.next) (hg:∀ n∈p::(idsV v++rvs.flatMap idsV),G.get n=H.get n):StAt T N G p v rvs x where
 cell:=(bk_get (hg p (by simp))).trans a.cell
 own:=a.own.of hn fun n _ _ h=>hg n (zB3 _ h)
 apart:=a.apart
 lt:=zC9 a.lt hn
 lo:=a.lo
theorem StAt.mod0 (a:StAt T N H p v rvs x) (m:Mod [] H G):StAt T N G p v rvs x:=a.of m.next fun n hn=>m.get n (a.ids n hn).2.1 (by simp)
theorem StAt.put (a:StAt T N H p v rvs x) (m:Mod [p] H G) (h:bk G p=some ⟨T,false,y.cells v⟩) (hg:y.grid=x.grid):StAt T N G p v rvs y where
 cell:=h
 own:=hg▸a.own.of m.next fun n _ hl hn=>m.get n hl (by simp only[zA8]; rintro rfl; exact a.apart hn)
 apart:=a.apart
 lt:=m.lt a.lt
 lo:=a.lo
theorem StAt.row (a:StAt T N H p v rvs x) {i:Nat} {l:List Ce} (hl:x.grid[i]?=some l):∃ n s c f,rvs[i]?=some (.slice (some ⟨n,0,s⟩) l.length c)∧bk H n=some ⟨55,f,csOf l⟩∧N≤n∧n<H.next∧n≠p:=by
 obtain⟨rv,h1,n,s,c,f,rfl,h2,h3,h4⟩:=a.own.rvOf hl
 refine⟨n,_,_,f,h1,h2,h3,h4,?_⟩
 rintro rfl
 exact a.apart (zD5 _ (zE3.2 ⟨_,zB9 h1,by simp[idsV]⟩))
end
end Go.Proofs.YtaojjfebkldmnaaDoor
namespace Go.Ax
variable {P : Program} {H X : AHeap} {f : FuncId} {args : List Value}
theorem Rn.dropM (w:WF P H) (m:Mod [] H X):Rn id H X H where
 low:=fun _ _=>rfl
 next:=zA5 _
 base:=rfl
 dirty:=fun _ h=>h
 dirt1:=fun n h=>by
  rcases m.dirty n h with h|h
  ·exact h
  ·simp at h
 get:=fun n o2 h=>.inl ⟨(w.dom n o2 h).1,h,by rw[m.get n (w.dom n o2 h).1 (by simp),h]⟩
 keep:=fun n _ h=>.inl h
 inj:=fun m n _ _ h=>h
 ro:=fun n _=>⟨.inl,fun _=>rfl⟩
theorem CallS.dropM {v:Value} (h:CallS P f args H (.ok v) X) (m:Mod [] H X) (hv:scb H.next v=true):CallS P f args H (.ok v) H:=by
 refine CallS.rn (σ:=id) (H1:=X) ?_ (fun w=>Rn.dropM w m) hv
 rw[rnV_id hv]; exact h
theorem CallA.pure {v:Value} (h:CallA P f args H fun out X=>out=.ok v∧Mod [] H X) (hv:scb H.next v=true):CallS P f args H (.ok v) H:=by
 obtain⟨_,X,hc,rfl,m⟩:=h
 exact hc.dropM m hv
theorem Fin.mod {v v1:Value} (he:v1=v) (m:Mod [] H X) (hv:scb H.next v=true):Fin P f args H v H (.ok v1) X:=fun h=>by
 rw[he]at h
 exact h.dropM m hv
end Go.Ax
namespace Go.Ax
section
variable {P : Program} {ro : Option Nat} {H : AHeap} {N : Nat} {E : Env} {ds : List Deferred} {Q : Exit → AAct → AHeap → Prop}
theorem opC_error {ops:Array Oper} {rest:List Oper} {a:AAct} {dst:Option Nat} {ch:List PanicEntry}:opC P ro ops rest a dst Q (.error ch) H=Q (.panic ch) a H:=by simp only[opC]
theorem joinR_panic {J:Env→AHeap→Prop} {a:AAct} {ch:List PanicEntry}:joinR N ds J Q (.panic ch) a H=Q (.panic ch) a H:=Eq.trans rfl rfl
theorem endA_panic {fn:Func} {R:Out→AHeap→Prop} {ch:List PanicEntry}:endA P fn R (.panic ch) (mkA N E ds) H=leaveA P fn (mkA N E ds) ds (.panicking ch) H R:=Eq.trans rfl rfl
theorem lv_panic {fn:Func} {a:AAct} {R:Out→AHeap→Prop} {ch:List PanicEntry}:leaveA P fn a [] (.panicking ch) H R=R (.error ch) H:=by simp only[leaveA]
def panC (Q:Exit→AAct→AHeap→Prop) (a:AAct) (H:AHeap):Value→Prop
 |.iface t y=>Q (.panic [{v:=.iface t y,recovered:=false}]) a H
 |_=>False
theorem panC_iface {a:AAct} {t:TypeId} {y:Value}:panC Q a H (.iface t y)=Q (.panic [{v:=.iface t y,recovered:=false}]) a H:=by simp only[panC]
theorem w_panic {ops:Array Oper} {rest:List Oper} {dst:Option Nat} {ty:TypeId} {pos:String} {after:Array Edge} {x:Operand} (hx:opOk P N x=true):wpOps P ro ops (⟨dst,.panic x,ty,pos,after,none⟩::rest) (mkA N E ds) H Q=panC Q (mkA N E ds) H (opv E x):=by
 rw[w_op rfl rfl]
 simp only[opA,aop,xPanic,aeval_opv hx,zA1,zA3]
 cases opv E x<;>simp only[panicV,nextA,opC,panC]
theorem CallS.panics {f:FuncId} {args:List Value} {ch:List PanicEntry} {R:Out→AHeap→Prop} (h:CallS P f args H (.error ch) H) (hR:R (.error ch) H):CallA P f args H R:=⟨_,_,h,hR⟩
end
end Go.Ax
namespace Go.Proofs.YtaojjfebkldmnaaDoor
open Go.Ax
def ModN (N:Nat) (H X:AHeap):Prop:=∃ Ws:List Nat,(∀ n∈Ws,N≤n∧(n<H.next→∀ o l,bk H n≠some ⟨102,o,l⟩))∧Mod Ws H X
theorem ModN.of {N:Nat} {H X:AHeap} {Ws:List Nat} (m:Mod Ws H X) (h:∀ n∈Ws,N≤n∧(n<H.next→∀ o l,bk H n≠some ⟨102,o,l⟩)):ModN N H X:=⟨Ws,h,m⟩
theorem ModN.refl {N:Nat} {H:AHeap}:ModN N H H:=⟨[],by simp,Mod.refl⟩
theorem ModN.ok {N:Nat} {H X:AHeap} (m:ModN N H X) (h:H.base≤H.next):X.base≤X.next:=let ⟨_,_,m⟩:=m; m.ok h
theorem ModN.next {N:Nat} {H X:AHeap} (m:ModN N H X):H.next≤X.next:=let ⟨_,_,m⟩:=m; m.next
theorem ModN.trans {N:Nat} {H X Y:AHeap} (m:ModN N H X) (k:ModN N X Y):ModN N H Y:=by
 obtain⟨W,h1,m⟩:=m
 obtain⟨V,h2,k⟩:=k
 refine⟨W++V,fun n hn=>?_,(m.mono fun n h=>zD4 _ h).trans (k.mono fun n h=>zD5 _ h)⟩
 rcases zB4.1 hn with hn|hn
 ·exact h1 n hn
 ·refine⟨(h2 n hn).1,fun hl o l hb=>?_⟩
  have hW:n∉W:=fun h=>(h1 n h).2 hl o l hb
  exact (h2 n hn).2 (m.lt hl) o l ((m.bk hl hW).trans hb)
theorem ModN.mod {N:Nat} {G H X:AHeap} (m:ModN N H X) (g:Mod [] G H) (hok:G.base≤G.next) (hN:G.next≤N):Mod [] G X:=by
 obtain⟨W,h1,m⟩:=m
 exact g.step m hok fun n hn=>.inr (zD9 hN (h1 n hn).1)
theorem ModN.kinds {N n:Nat} {H X:AHeap} {o:Bool} {l:List Value} (m:ModN N H X) (hl:n<H.next) (hb:bk H n=some ⟨102,o,l⟩):bk X n=some ⟨102,o,l⟩:=by
 obtain⟨W,h1,m⟩:=m
 exact (m.bk hl fun h=>(h1 n h).2 hl o l hb).trans hb
theorem StAt.pN {T:TypeId} {N p:Nat} {H:AHeap} {v:Value} {rvs:List Value} {x:St} (a:StAt T N H p v rvs x) (hT:T≠102:=by decide):∀ n∈[p],N≤n∧(n<H.next→∀ o l,bk H n≠some ⟨102,o,l⟩):=fun n hn=>by
 obtain rfl:=zA8.1 hn
 refine⟨a.lo,fun _ o l h=>?_⟩
 rw[a.cell]at h
 exact hT (by have:=Option.some.inj h; exact congrArg Bl.e this)
def refusedP:PanicEntry:={v:=.iface 99 (.agg ⟨[]⟩),recovered:=false}
def Slc (v:Value):Prop:=∃ n h,v=.slice (some ⟨n,0,none⟩) h h
def StepR (T:TypeId) (N p:Nat) (r:Option St) (H:AHeap) (out:Out) (X:AHeap):Prop :=
 ModN N H X∧match r with
  |some y=>out=.ok (.tuple ⟨[]⟩)∧∃ v rvs,Slc v∧StAt T N X p v rvs y
  |none=>out=.error [refusedP]
theorem needs_t (H:AHeap):CallS Tryd.prog 70 [.bool true] H (.ok (.tuple ⟨[]⟩)) H:=by
 refine callS_fn mixed Tryd.func70 rfl Tryd.ntmps70 (zA9 rfl) fun wf hsc=>?_
 simp (maxDischargeDepth:=6) only[zC8,Tryd.results70,ruW,putL,Nat.reduceLeDiff,xF,ruU,entryE,Nat.reduceLT,Nat.reduceAdd,Nat.reduceMul,Nat.reduceEqDiff]
 exact Fin.pure rfl
theorem needs_f (H:AHeap):CallS Tryd.prog 70 [.bool false] H (.error [refusedP]) H:=by
 have key:CallA Tryd.prog 70 [.bool false] H fun out X=>out=.error [refusedP]∧X=H:=by
  refine callE_fn mixed Tryd.func70 rfl Tryd.ntmps70 (zA9 rfl) ?_
  simp (maxDischargeDepth:=6) only[zD6,w_panic,panC_iface,seqC_panic,endA_panic,lv_panic,ruW,putL,Nat.reduceLeDiff,xF,ruU,entryE,Nat.reduceLT,Nat.reduceAdd,Nat.reduceMul,Nat.reduceEqDiff]
  exact⟨rfl,rfl⟩
 obtain⟨_,_,h,rfl,rfl⟩:=key
 exact h
section
variable {N : Nat} {H : AHeap} {p W : Nat} {v : Value} {rvs : List Value} {x : St}
theorem StAt.first {T:TypeId} (a:StAt T N H p v rvs x) (ok:x.Ok W):∃ m s1 c1 o1 n0 s0 c0,v=.slice (some ⟨m,0,s1⟩) x.grid.length c1∧bk H m=some ⟨56,o1,rvs⟩∧m<H.next∧N≤m∧m≠p∧rvs[0]?=some (.slice (some ⟨n0,0,s0⟩) W c0):=by
 obtain⟨l0,hl0⟩:∃ l,x.grid[0]?=some l:=⟨_,zA6 (by have:=ok.h1; omega)⟩
 obtain⟨n,s,c,f,hrv,_⟩:=a.row hl0
 rw[ok.wid l0 (zB9 hl0)]at hrv
 rcases a.own.at_ with⟨h,_⟩|⟨m,s1,c1,o1,h1,h2,h3,h4,_⟩
 ·rw[h]at hl0; simp at hl0
 ·refine⟨m,s1,c1,o1,n,s,c,h1,h2,h4,h3,?_,hrv⟩
  rintro rfl
  exact a.apart (zD4 _ (by rw[h1]; simp[idsV]))
theorem dwidth_c (a:StAt 76 N H p v rvs x) (ok:x.Ok W):∃ m,m<H.next∧m≠p∧(∃ e o l,bk H m=some ⟨e,o,l⟩)∧∀ G:AHeap,G.next=H.next→(∀ n∈[p,m],G.get n=H.get n)→CallS Tryd.prog 50 [.pointer (some ⟨p,0,none⟩)] G (.ok (.int .i64 W)) G:=by
 obtain⟨m,s1,c1,o1,n0,s0,c0,rfl,hb,hlt,_,hne,hrv⟩:=a.first ok
 refine⟨m,hlt,hne,⟨_,_,_,hb⟩,fun G hn hg=>?_⟩
 have hcell:=a.cell
 simp only[St.cells]at hcell
 have hcG:bk G p=_:=(bk_get (hg p (by simp))).trans hcell
 have hbG:bk G m=_:=(bk_get (hg m (by simp))).trans hb
 have hpl:p<G.next:=by rw[hn]; exact a.lt
 have hml:m<G.next:=by rw[hn]; exact hlt
 have i0:=grid_ia (n:=m) (off:=0) (s:=s1) (cap:=c1) (i:=((0:Nat):Int)) (len:=x.grid.length) rfl (by have:=ok.h1; omega)
 rw[show ((0:Nat):Int)=0 from rfl]at i0
 have q0:ldB Tryd.prog 56 (0+0) (some ⟨56,o1,rvs⟩)=some (.slice (some ⟨n0,0,s0⟩) W c0):=grid_load (by rw[zC1]; exact hrv)
 rw[zC7]at i0 q0
 refine callS_fn mixed Tryd.func50 rfl Tryd.ntmps50 (zA9 rfl) fun wf hsc=>?_
 simp (maxDischargeDepth:=6) only[hcG,hbG,hpl,hml,i0,q0,Tryd.results50,ruW,putL,Nat.reduceLeDiff,xF,ruU,entryE,Nat.reduceLT,Nat.reduceAdd,Nat.reduceMul,Nat.reduceEqDiff]
 exact Fin.pure rfl
theorem bk_ext_old {H:AHeap} {L:List Bl} {n:Nat} (h:n<H.next):bk (ext H L) n=bk H n:=by rw[bk_old h]
theorem StAt.putU {T:TypeId} {y:St} (a:StAt T N H p v rvs x) (hok:H.base≤H.next) {off:Nat} {vs:List Value} {L:List Bl} (hc:putL (x.cells v) off vs=y.cells v) (hg:y.grid=x.grid) :
  StAt T N (ext (uw H p off vs) L) p v rvs y∧Mod [p] H (ext (uw H p off vs) L):=by
 have m1:Mod [p] H (uw H p off vs):=Mod.uw (by simp)
 have m:=m1.trans (Mod.ext (W:=[p]) (L:=L) (m1.ok hok))
 refine⟨a.put m ?_ hg,m⟩
 rw[bk_ext_old (by rw[uw_next]; exact a.lt),bk_uw_eq,a.cell,←hc]
 rfl
end
end Go.Proofs.YtaojjfebkldmnaaDoor
namespace Go.Ax
section
variable {P : Program} {ro : Option Nat} {H : AHeap} {N : Nat} {E : Env} {ds : List Deferred} {ops : Array Oper} {rest : List Oper} {d : Nat} {ty : TypeId} {pos : String} {after : Array Edge}
theorem w_rangeS {Q:Exit→AAct→AHeap→Prop} {x:Operand} {t:TypeId} (hx:opOk P N x=true):wpOps P ro ops (⟨some d,.range t x,ty,pos,after,none⟩::rest) (mkA N E ds) H Q=heapC P ro ops rest N E ds (some d) Q (aRange P H t (opv E x)) :=
 w_rvh rfl (by simp only[aop,xRange,aeval_opv hx,zA1,zA3])
theorem w_nextS {Q:Exit→AAct→AHeap→Prop} {x:Operand} {s:Bool} (hx:opOk P N x=true):wpOps P ro ops (⟨some d,.next x s,ty,pos,after,none⟩::rest) (mkA N E ds) H Q=heapC P ro ops rest N E ds (some d) Q (aNext H (opv E x) s) :=
 w_rvh rfl (by simp only[aop,xNext,aeval_opv hx,zA1,zA3])
def itO (s:ByteArray) (p:Nat):AObj:=⟨.stringIter s p,false,⟨[],0⟩⟩
theorem range_str {t:TypeId} {s:ByteArray} (hu:P.underlying t=some .string):aRange P H t (.string s)=some (.pointer (some ⟨H.next,0,none⟩),H.new (itO s 0)):=by simp only[aRange,hu,itO]
theorem next_str {n p:Nat} {s:ByteArray} (h:H.get n=some (itO s p)) (hp:p<s.size):aNext H (.pointer (some ⟨n,0,none⟩)) true=some (.tuple #[.bool true,goInt p,.int .i32 (Utf8.decode s p).1],H.upd n (some (itO s (p+(Utf8.decode s p).2)))):=by
 simp only[aNext,h,itO]
 rw[if_pos hp]
theorem next_end {n p:Nat} {s:ByteArray} (h:H.get n=some (itO s p)) (hp:¬p<s.size):aNext H (.pointer (some ⟨n,0,none⟩)) true=some (.tuple #[.bool false],H):=by
 simp only[aNext,h,itO]
 rw[if_neg hp]
theorem cells_of_bk {n:Nat} {b:Bl} (h:bk H n=some b):∃ rv,cellsAt H n=some (rv,b.e,b.o)∧rv.n=b.l.length:=by
 obtain⟨rv,h1,h2,h3⟩:=bk_blk h
 exact⟨rv,h1,h2⟩
theorem app_opnR {st xt e:TypeId} {sz by1 m off k n off2 cnt cap:Nat} {sp s:Option Nat} {z:Value} {b bm:Bl} (hu:P.underlying st=some (.slice e)) (hsz:szOf P e=some sz) (hby:bytesOf P e=some by1) (hz:zeroOf P e=some z) (hzl:z.cells.toList.length=sz) (hi:intTy P xt=some false)
  (hm:bk H m=some bm) (he:bm.e=e) (ho:bm.o=true) (hle:off+k*sz≤bm.l.length) (hone:((bm.l.drop off).take (k*sz)).all one=true) (hsp:sp=none∨(∃ j,sp=some (j+1))∧k=0)
  (hb:rk H n=some b) (hle2:off2+cnt*sz≤b.l.length) (hone2:((b.l.drop off2).take (cnt*sz)).all one=true) (hc:0<cnt) (hsm:small (k+cnt) by1=true) :
  aBuiltin P H .append ⟨[st,xt]⟩ [.slice (some ⟨m,off,sp⟩) k k,.slice (some ⟨n,off2,s⟩) cnt cap]=(aNew (H.upd m none) e ((bm.l.drop off).take (k*sz)++(b.l.drop off2).take (cnt*sz)) true).map fun g=>(.slice (some ⟨H.next,0,none⟩) (k+cnt) (k+cnt),g):=by
 have hl:((b.l.drop off2).take (cnt*sz)).length=cnt*sz:=by simp; omega
 have hl2:((bm.l.drop off).take (k*sz)).length=k*sz:=by simp; omega
 obtain⟨rv,hcm,hrn⟩:=cells_of_bk hm
 have hop:=isOpen_bk hm
 rw[ho]at hop
 have hf:=first_bk (sz:=sz) (cnt:=k) (off:=off) (len:=k) (cap:=k) (s:=sp) hm hle
 have hex:exactAp H ⟨m,off,sp⟩ k k=some false:=by
  rcases hsp with rfl|⟨⟨j,rfl⟩,rfl⟩
  ·simp only[exactAp,exactAt,hop,zA7,zC8]
  ·simp only[exactAp,hop]
   rfl
 simp only[aBuiltin,aAppend,hu,hsz,hby,hz,hi,zA1,zA3,lenV,first_rk hb hle2,hl,hzl,hsm,and_self,if_true,aAppend2]
 rw[if_neg (by omega)]
 simp only[hf,zA3,hl2,hone,hone2,decide_true,zD1,if_true,hex,hcm]
 rw[if_pos ⟨he,by rw[Nat.ble_eq,hrn]; omega⟩]
 cases aNew (H.upd m none) e ((bm.l.drop off).take (k*sz)++(b.l.drop off2).take (cnt*sz)) true<;>rfl
theorem app_nilP {st xt e:TypeId} {sz by1 n off cnt cap:Nat} {s:Option Nat} {z:Value} {b:Bl} (hu:P.underlying st=some (.slice e)) (hsz:szOf P e=some sz) (hby:bytesOf P e=some by1) (hz:zeroOf P e=some z) (hzl:z.cells.toList.length=sz) (hi:intTy P xt=some false)
  (hb:rk H n=some b) (hle:off+cnt*sz≤b.l.length) (hone:((b.l.drop off).take (cnt*sz)).all one=true) (hc:0<cnt) (hsm:small cnt by1=true) :
  aBuiltin P H .append ⟨[st,xt]⟩ [.slice none 0 0,.slice (some ⟨n,off,s⟩) cnt cap]=(aNew H e ((b.l.drop off).take (cnt*sz)) true).map fun g=>(.slice (some ⟨H.next,0,none⟩) cnt cnt,g):=by
 have hl:((b.l.drop off).take (cnt*sz)).length=cnt*sz:=by simp; omega
 simp only[aBuiltin,aAppend,hu,hsz,hby,hz,hi,zA1,zA3,lenV,first_rk hb hle,hl,hzl,zC1,hsm,and_self,if_true,aAppend2]
 rw[if_neg (by omega)]
 simp only[firstC,zA3,zC3,zE1,List.all_nil,hone,decide_true,zD1,if_true,zB8]
 cases aNew H e ((b.l.drop off).take (cnt*sz)) true<;>rfl
def VsAt (H:AHeap) (e:TypeId) (sz:Nat) (v:Value) (vs:List Value) (cnt:Nat):Prop :=
 vs.length=cnt*sz∧vs.all one=true∧((cnt=0∧v=.slice none 0 0)∨(0<cnt∧∃ n,v=.slice (some ⟨n,0,none⟩) cnt cnt∧bk H n=some ⟨e,true,vs⟩∧n<H.next))
theorem VsAt.nil {e:TypeId} {sz:Nat}:VsAt H e sz (.slice none 0 0) [] 0:=⟨by simp,rfl,.inl ⟨rfl,rfl⟩⟩
theorem VsAt.of {G:AHeap} {e:TypeId} {sz cnt:Nat} {v:Value} {vs:List Value} (h:VsAt H e sz v vs cnt) (hn:H.next≤G.next) (hg:∀ n∈idsV v,G.get n=H.get n):VsAt G e sz v vs cnt:=by
 obtain⟨h1,h2,⟨rfl,rfl⟩|⟨h0,n,rfl,hb,hlt⟩⟩:=h
 ·exact⟨h1,h2,.inl ⟨rfl,rfl⟩⟩
 ·exact⟨h1,h2,.inr ⟨h0,n,rfl,(bk_get (hg n (by simp[idsV]))).trans hb,by omega⟩⟩
theorem VsAt.ne {e:TypeId} {sz cnt:Nat} {v:Value} {vs:List Value} (h:VsAt H e sz v vs cnt):∀ n∈idsV v,H.get n≠none∧n<H.next:=by
 obtain⟨h1,h2,⟨rfl,rfl⟩|⟨h0,n,rfl,hb,hlt⟩⟩:=h<;>intro m hm<;>simp only[idsV,zA8,List.not_mem_nil]at hm
 subst hm; exact⟨bk_ne hb,hlt⟩
theorem VsAt.sc {e:TypeId} {sz cnt:Nat} {v:Value} {vs:List Value} (h:VsAt H e sz v vs cnt):scb H.next v=true:=by
 obtain⟨h1,h2,⟨rfl,rfl⟩|⟨h0,n,rfl,hb,hlt⟩⟩:=h
 ·rfl
 ·exact blt_of hlt
theorem VsAt.len {e:TypeId} {sz cnt:Nat} {v:Value} {vs:List Value} (h:VsAt H e sz v vs cnt):∃ a,v=.slice a cnt cnt:=by
 obtain⟨h1,h2,⟨rfl,rfl⟩|⟨h0,n,rfl,hb,hlt⟩⟩:=h
 ·exact⟨_,rfl⟩
 ·exact⟨_,rfl⟩
theorem vs_app {st xt e:TypeId} {sz by1 n off cnt cnt2 cap x:Nat} {s:Option Nat} {z v:Value} {b:Bl} {vs ws:List Value} (hu:P.underlying st=some (.slice e)) (hsz:szOf P e=some sz) (hby:bytesOf P e=some by1) (hz:zeroOf P e=some z) (hzl:z.cells.toList.length=sz) (hi:intTy P xt=some false)
  (h:VsAt H e sz v vs cnt) (hb:rk H n=some b) (hle:off+cnt2*sz≤b.l.length) (hws:(b.l.drop off).take (cnt2*sz)=ws) (hone:ws.all one=true) (hc:0<cnt2) (hsm:small (cnt+cnt2) by1=true) (hx:H.next=x) (hsc:scbL H.next (vs++ws)=true) :
  ∃ G,aBuiltin P H .append ⟨[st,xt]⟩ [v,.slice (some ⟨n,off,s⟩) cnt2 cap]=some (.slice (some ⟨x,0,none⟩) (cnt+cnt2) (cnt+cnt2),G)∧VsAt G e sz (.slice (some ⟨x,0,none⟩) (cnt+cnt2) (cnt+cnt2)) (vs++ws) (cnt+cnt2)∧(H.base≤H.next→Mod (idsV v) H G)∧G.next=x+1∧(∀ m,m<x→m∉idsV v→G.get m=H.get m):=by
 have hwl:ws.length=cnt2*sz:=by rw[←hws]; simp; omega
 obtain⟨h1,h2,⟨rfl,rfl⟩|⟨h0,m,rfl,hm,hlt⟩⟩:=h
 ·have hv:vs=[]:=zC5 (by simpa using h1)
  subst hv
  rw[zB8]at hsc ⊢
  have happ:=app_nilP (H:=H) (st:=st) (xt:=xt) (n:=n) (off:=off) (cnt:=cnt2) (cap:=cap) (s:=s) hu hsz hby hz hzl hi hb hle (by rw[hws]; exact hone) hc (by simpa using hsm)
  have hn:=new_ext (H:=H) (L:=[]) (e:=e) (l:=ws) (o:=true) (by simpa using hsc)
  rw[hws,show aNew H e ws true=aNew (ext H []) e ws true from rfl,hn,zA7,hx]at happ
  refine⟨ext H [⟨e,true,ws⟩],by rw[zC1]; exact happ,⟨by rw[hwl,zC1],hone,.inr ⟨by omega,x,rfl,?_,by rw[ext_next,hx]; simp⟩⟩,fun hok=>Mod.ext hok,by rw[ext_next,hx]; rfl,fun m hm _=>ext_get_old (by omega)⟩
  rw[show x=x+0 from rfl,bk_at hx (by simp)]; rfl
 ·have hdr:(vs.drop 0).take (cnt*sz)=vs:=by rw[zD3]; exact zE6 (by omega)
  have happ:=app_opnR (H:=H) (st:=st) (xt:=xt) (m:=m) (off:=0) (k:=cnt) (sp:=none) (n:=n) (off2:=off) (cnt:=cnt2) (cap:=cap) (s:=s) hu hsz hby hz hzl hi hm rfl rfl (by simp only; omega) (by simp only[hdr]; exact h2) (.inl rfl) hb hle (by rw[hws]; exact hone) hc hsm
  simp only[hdr,hws]at happ
  have hn:=new_ext (H:=dp H m) (L:=[]) (e:=e) (l:=vs++ws) (o:=true) (by rw[dp_next]; simpa using hsc)
  rw[show H.upd m none=ext (dp H m) [] from rfl,hn,zA7,hx]at happ
  have mD:Mod (idsV (.slice (some ⟨m,0,none⟩) cnt cnt)) H (dp H m):=Mod.upd (by simp[idsV])
  refine⟨ext (dp H m) [⟨e,true,vs++ws⟩],happ,⟨by rw[zB6,h1,hwl,Nat.add_mul],by rw[List.all_append,h2,hone]; rfl,.inr ⟨by omega,x,rfl,?_,by rw[ext_next,dp_next,hx]; simp⟩⟩,fun hok=>mD.trans (Mod.ext (mD.ok hok)),by rw[ext_next,dp_next,hx]; rfl,fun q hq hqn=>?_⟩
  ·rw[show x=x+0 from rfl,bk_at (show (dp H m).next=x from hx) (by simp)]; rfl
  ·rw[ext_get_old (by rw[dp_next]; omega),dp_get (by simpa[idsV]using hqn)]
end
end Go.Ax
namespace Go.Proofs.YtaojjfebkldmnaaDoor
open Go.Ax
def Part (H:AHeap) (u:Value) (L:List Value):Prop :=
 ∃ a c,u=.slice a L.length c∧scb H.next u=true∧(L=[]∨(L.length≤c∧∃ n off s b,a=some ⟨n,off,s⟩∧(s=none∨s=some 0)∧bk H n=some b∧n<H.next∧off+L.length≤b.l.length∧(b.l.drop off).take L.length=L))
section
variable {H G : AHeap} {u : Value} {L : List Value}
theorem Part.of (h:Part H u L) (hn:H.next≤G.next) (hg:∀ n∈idsV u,G.get n=H.get n):Part G u L:=by
 obtain⟨a,c,rfl,hs,h⟩:=h
 refine⟨a,c,rfl,scb_mono hn _ hs,h.imp id ?_⟩
 rintro⟨hc,n,off,s,b,rfl,h1,h2,h3,h4,h5⟩
 exact⟨hc,n,off,s,b,rfl,h1,(bk_get (hg n (by simp[idsV]))).trans h2,by omega,h4,h5⟩
theorem Part.ext (h:Part H u L) {B:List Bl}:Part (Go.Ax.ext H B) u L:=by
 obtain⟨a,c,rfl,hs,h⟩:=h
 refine⟨a,c,rfl,scb_mono (by rw[ext_next]; omega) _ hs,h.imp id ?_⟩
 rintro⟨hc,n,off,s,b,rfl,h1,h2,h3,h4,h5⟩
 exact⟨hc,n,off,s,b,rfl,h1,(bk_ext_old h3).trans h2,by rw[ext_next]; omega,h4,h5⟩
theorem Part.len (h:Part H u L):∃ a c,u=.slice a L.length c:=let ⟨a,c,e,_⟩:=h; ⟨a,c,e⟩
theorem Part.lenV (h:Part H u L):Go.Ax.lenV u=some L.length:=by
 obtain⟨a,c,rfl,_⟩:=h
 rfl
theorem Part.first (h:Part H u L):firstC H 1 L.length u=some L:=by
 obtain⟨a,c,rfl,hs,rfl|⟨hc,n,off,s,b,rfl,h1,h2,h3,h4,h5⟩⟩:=h
 ·cases a<;>simp[firstC]
 ·rw[first_bk h2 (by omega),Nat.mul_one,h5]
theorem Part.sc (h:Part H u L):scb H.next u=true:=let ⟨_,_,_,hs,_⟩:=h; hs
theorem Part.slice (h:Part H u L) (hne:L≠[]) {x y:Option Value} {lo hi:Nat} (hx:bound 0 x=some lo) (hy:bound L.length y=some hi) (h1:lo≤hi) (h2:hi≤L.length) :
  ∃ u',(∀ G:AHeap,(∀ n∈idsV u,G.get n=H.get n)→aSlice Tryd.prog G 22 u x y none=some (u',G))∧Part H u' ((L.take hi).drop lo)∧∀ n∈idsV u',n∈idsV u:=by
 obtain⟨a,c,rfl,hs,rfl|⟨hc,n,off,s,b,rfl,hsp,hb,hlt,h4,h5⟩⟩:=h
 ·exact absurd rfl hne
 have hu:Tryd.prog.underlying 22=some (.slice 56):=by kernel_rfl
 have hsz:szOf Tryd.prog 56=some 1:=by kernel_rfl
 have hl:((L.take hi).drop lo).length=hi-lo:=by simp; omega
 have hex:∃ q:Bool,∀ G:AHeap,G.get n=H.get n→exactAt G ⟨n,off,s⟩=some q:=by
  rcases hsp with rfl|rfl
  ·exact⟨!b.o,fun G hg=>by simp only[exactAt,isOpen_bk ((bk_get hg).trans hb),zA7]⟩
  ·exact⟨true,fun G hg=>rfl⟩
 have hd:∀ k,off+k+(hi-lo)≤b.l.length→k=lo→(b.l.drop (off+k)).take (hi-lo)=(L.take hi).drop lo:=fun k hk e=>by
  subst e
  rw[←h5,List.take_take,Nat.min_eq_left h2,List.drop_take,List.drop_drop]
 obtain⟨q,hq⟩:=hex
 cases q with
 |true =>
  refine⟨.slice (some ⟨n,if c=lo then off else off+lo*1,some 0⟩) (hi-lo) (c-lo),fun G hg=>?_,?_,fun q hq=>by simpa[idsV]using hq⟩
  ·simp only[aSlice,hu,hsz,zA1,zA3,aSlice2,hx,hy,hq G (hg n (by simp[idsV]))]
   rw[if_pos ⟨by omega,h1⟩]
  ·refine⟨_,_,by rw[hl],blt_of hlt,?_⟩
   by_cases he:hi=lo
   ·exact .inl (zC5 (by omega))
   ·refine .inr ⟨by omega,n,_,some 0,b,rfl,.inr rfl,hb,hlt,?_,?_⟩
    ·rw[if_neg (by omega)]; omega
    ·rw[if_neg (by omega),Nat.mul_one,hl]
     exact hd lo (by omega) rfl
 |false =>
  by_cases h0:lo=0
  ·subst h0
   refine⟨.slice (some ⟨n,off,none⟩) hi c,fun G hg=>?_,?_,fun q hq=>by simpa[idsV]using hq⟩
   ·simp only[aSlice,hu,hsz,zA1,zA3,aSlice2,hx,hy,hq G (hg n (by simp[idsV]))]
    rw[if_pos ⟨by omega,h1⟩]
    simp only[if_true]
   ·rw[Nat.sub_zero]at hl hd
    refine⟨_,_,by rw[hl],blt_of hlt,?_⟩
    by_cases he:hi=0
    ·exact .inl (zC5 (by omega))
    ·exact .inr ⟨by omega,n,_,none,b,rfl,.inl rfl,hb,hlt,by omega,by rw[hl]; exact hd 0 (by omega) rfl⟩
  ·by_cases hlc:lo<c
   ·refine⟨.slice (some ⟨n,off+lo*1,none⟩) (hi-lo) (c-lo),fun G hg=>?_,?_,fun q hq=>by simpa[idsV]using hq⟩
    ·simp only[aSlice,hu,hsz,zA1,zA3,aSlice2,hx,hy,hq G (hg n (by simp[idsV]))]
     rw[if_pos ⟨by omega,h1⟩,if_neg h0,if_pos hlc]
    ·refine⟨_,_,by rw[hl],blt_of hlt,?_⟩
     by_cases he:hi=lo
     ·exact .inl (zC5 (by omega))
     ·exact .inr ⟨by omega,n,_,none,b,rfl,.inl rfl,hb,hlt,by omega,by rw[Nat.mul_one,hl]; exact hd lo (by omega) rfl⟩
   ·refine⟨.slice (some ⟨n,off+lo*1,some (off+1)⟩) 0 0,fun G hg=>?_,?_,fun q hq=>by simpa[idsV]using hq⟩
    ·simp only[aSlice,hu,hsz,zA1,zA3,aSlice2,hx,hy,hq G (hg n (by simp[idsV]))]
     rw[if_pos ⟨by omega,h1⟩,if_neg h0,if_neg hlc,if_neg (by omega)]
    ·refine⟨_,_,by rw[hl,show hi-lo=0 by omega],blt_of hlt,.inl (zC5 (by omega))⟩
end
abbrev nilS:Value:=.slice none 0 0
theorem zr:zeroOf Tryd.prog 56=some nilS:=by kernel_rfl
theorem zr_cells:nilS.cells.toList=[nilS]:=rfl
theorem uRows:Tryd.prog.underlying 22=some (.slice 56):=by kernel_rfl
theorem szCells:szOf Tryd.prog 56=some 1:=by kernel_rfl
theorem byCells:bytesOf Tryd.prog 56=some 24:=by kernel_rfl
theorem smallC {n:Nat} (h:n≤10000):small n 24=true:=by simp[small]; omega
theorem growRows_c (H:AHeap) (n:Nat) (h0:0<n) (hn:n≤10000):CallS Tryd.prog 116 [.slice none 0 0,.int .i64 (n:Int)] H (.ok (.slice (some ⟨H.next,0,none⟩) 0 n)) (ext H [⟨56,true,zerosL [nilS] n⟩]):=by
 obtain⟨b,hb⟩:∃ b,H.next=b:=⟨_,rfl⟩
 have d1:decide ((n:Int)<0)=false:=decide_eq_false (by omega)
 have d2:decide ((0:Int)<(n:Int))=true:=decide_eq_true (by omega)
 have hc:=bt_capN (P:=Tryd.prog) (H:=ext H []) (t:=22) (l:=0) (c:=0) uRows
 have hz:=app_zero (P:=Tryd.prog) (H:=ext H []) (st:=22) (xt:=3) (n:=n) uRows szCells byCells zr rfl (by kernel_rfl) h0 (zerosL_one rfl n) (smallC hn)
 have hnew:=new_ext (H:=H) (L:=[]) (e:=56) (l:=zerosL [nilS] n) (o:=true) (zerosL_sc rfl n)
 rw[zr_cells,hnew,zA7]at hz
 have hs0:=sl_nil (P:=Tryd.prog) (H:=ext H []) (t:=22) (l:=0) (c:=0) uRows szCells
 have hbk:bk (ext H [⟨56,true,zerosL [nilS] n⟩]) (b+0)=some ⟨56,true,zerosL [nilS] n⟩:=by rw[bk_at hb (by simp)]; rfl
 have hs1:=sl_open (P:=Tryd.prog) (H:=ext H [⟨56,true,zerosL [nilS] n⟩]) (t:=22) (n:=b+0) (off:=0) (l:=n) (c:=n) uRows szCells hbk rfl
 have hw:IntKind.i64.wrap ((n:Int)-0)=(n:Int):=(wrap_sm (by omega) (by omega)).trans (by omega)
 have hw0:IntKind.i64.wrap ((0:Int)-0)=0:=by decide
 rw[hb]
 refine callS_fn mixed Tryd.func116 rfl Tryd.ntmps116 (zA9 rfl) fun wf hsc=>?_
 simp only[ext_next,hb,zC3,zC7]at hz hs1 ⊢
 have hz0:((0:Nat):Int)=0:=rfl
 simp (maxDischargeDepth:=6) only[d1,d2,hc,hw,hw0,hz0,hs0,hz,hs1,hb,Tryd.results116,ruW,putL,Nat.reduceLeDiff,xF,ruU,entryE,Nat.reduceLT,Nat.reduceAdd,Nat.reduceMul,Nat.reduceEqDiff]
 exact fun h=>h
theorem zerosL_drop1 (n k:Nat):(zerosL [nilS] n).drop k=zerosL [nilS] (n-k):=by
 have:=zerosL_drop (z:=[nilS]) n k
 simpa using this
theorem putL_head:∀ (vs l:List Value),vs.length≤l.length→putL l 0 vs=vs++l.drop vs.length
 |[],l,_=>by rw[putL_nl]; rfl
 |v::vs,[],h=>by simp at h
 |v::vs,a::l,h=>by
  rw[putL,putL_head vs l (by simpa using h)]
  rfl
theorem append_part {H:AHeap} {A:List Value} {u:Value} {L:List Value} {x n:Nat} (hp:Part (ext H [⟨56,true,A++zerosL [nilS] (n-A.length)⟩]) u L) (hx:H.next=x) (hle:A.length+L.length≤n) (hn:n≤10000) (hok:H.base≤H.next) (h1:L.all one=true) (hs:scbL (x+1) L=true) :
  aBuiltin Tryd.prog (ext H [⟨56,true,A++zerosL [nilS] (n-A.length)⟩]) .append ⟨[22,22]⟩ [.slice (some ⟨x,0,none⟩) A.length n,u]=some (.slice (some ⟨x,0,none⟩) (A++L).length n,ext H [⟨56,true,(A++L)++zerosL [nilS] (n-(A++L).length)⟩]):=by
 have hz:=zerosL_length (z:=[nilS]) (n-A.length)
 rw[List.length_singleton,Nat.mul_one]at hz
 rw[app_in (P:=Tryd.prog) (st:=22) (xt:=22) uRows szCells byCells zr rfl (by kernel_rfl) hp.lenV hp.first (by omega) hle (smallC (by omega))]
 have hw:=write_new (H:=H) (L:=[⟨56,true,A++zerosL [nilS] (n-A.length)⟩]) (b:=x) (i:=0) (off:=0+A.length*1) (vs:=L) hx hok rfl (by simp only[zB6]; omega) h1 (by simpa using hs)
 have hput:putL (A++zerosL [nilS] (n-A.length)) (0+A.length*1) L=(A++L)++zerosL [nilS] (n-(A++L).length):=by
  have:=putL_app A (zerosL [nilS] (n-A.length)) 0 L
  rw[show 0+A.length*1=A.length+0 by omega,this,putL_head _ _ (by omega),zerosL_drop1,zB6,List.append_assoc,Nat.sub_sub]
 rw[hput]at hw
 rw[show x=x+0 from rfl,hw]
 simp only[zA7,zB6,List.set_cons_zero]
theorem parts_ia {len cap n off:Nat} {s:Option Nat} {k:Nat} (hk:k<len):aIndexAddr Tryd.prog 148 (.slice (some ⟨n,off,s⟩) len cap) (.int .i64 (k:Int))=some (.pointer (some ⟨n,off+k,none⟩)):=by
 rw[ia_slice (e:=22) (sz:=1) (by kernel_rfl) (by kernel_rfl) (by omega) (by omega)]
 simp
theorem concat_c (H:AHeap) (b:Nat) (sp:Option Nat) (K:Nat) (e:TypeId) (o:Bool) (parts:List (Value × List Value)) (n:Nat) (hb:bk H b=some ⟨e,o,parts.map Prod.fst⟩) (hbl:b<H.next)
  (hP:∀ q∈parts,Part H q.1 q.2∧q.2.all one=true∧scbL H.next q.2=true) (hn:(parts.flatMap Prod.snd).length=n) (h0:0<n) (hn1:n≤10000) (hpl:parts.length≤10000) :
  CallS Tryd.prog 109 [.slice (some ⟨b,0,sp⟩) parts.length K] H (.ok (.slice (some ⟨H.next,0,none⟩) n n)) (ext H [⟨56,true,parts.flatMap Prod.snd⟩]):=by
 obtain⟨x,hx⟩:∃ x,H.next=x:=⟨_,rfl⟩
 rw[hx]at hbl ⊢
 refine callS_fn mixed Tryd.func109 rfl Tryd.ntmps109 (zA9 rfl) fun wf hsc=>?_
 have hok:H.base≤H.next:=wf.base
 have hxb:H.base≤x:=hx▸hok
 simp (maxDischargeDepth:=6) only[ruW,putL,Nat.reduceLeDiff,xF,ruU,entryE,Nat.reduceLT,Nat.reduceAdd,Nat.reduceMul,Nat.reduceEqDiff]
 refine w_env fun E hE=>?_
 have g0:E 0=.slice (some ⟨b,0,sp⟩) parts.length K:=by rw[hE]; simp only[ruU,entryE,Nat.reduceLT,Nat.reduceAdd,Nat.reduceMul,Nat.reduceEqDiff]
 have g3:E 3=.int .i64 ((0:Nat):Int):=by rw[hE]; (simp only[ruU,entryE,Nat.reduceLT,Nat.reduceAdd,Nat.reduceMul,Nat.reduceEqDiff]<;>rfl)
 have g9:E 9=.slice (some ⟨b,0,sp⟩) parts.length K:=by rw[hE]; simp only[ruU,entryE,Nat.reduceLT,Nat.reduceAdd,Nat.reduceMul,Nat.reduceEqDiff]
 have g10:E 10=.int .i64 (parts.length:Int):=by rw[hE]; simp only[ruU,entryE,Nat.reduceLT,Nat.reduceAdd,Nat.reduceMul,Nat.reduceEqDiff]
 have g11:E 11=.int .i64 ((0:Nat):Int):=by rw[hE]; (simp only[ruU,entryE,Nat.reduceLT,Nat.reduceAdd,Nat.reduceMul,Nat.reduceEqDiff]<;>rfl)
 clear hE
 have ldp:∀ (k:Nat) (q:Value × List Value),parts[k]?=some q→ldB Tryd.prog 22 (0+k) (some ⟨e,o,parts.map Prod.fst⟩)=some q.1:=fun k q h=>by
  rw[ld_one (by kernel_rfl),zC1]
  simp[h]
 have tk:∀ (k:Nat) (q:Value × List Value),parts[k]?=some q→(parts.take (k+1)).flatMap Prod.snd=(parts.take k).flatMap Prod.snd++q.2:=fun k q h=>by
  rw[List.take_add_one,h]
  simp
 have le:∀ k,((parts.take k).flatMap Prod.snd).length≤n:=fun k=>by
  rw[←hn]
  conv=>rhs; rw[←List.take_append_drop k parts,List.flatMap_append,zB6]
  omega
 refine blockC_meet (fun E' Y=>Y=ext H []∧E' 0=.slice (some ⟨b,0,sp⟩) parts.length K∧E' 3=.int .i64 (n:Int)) ?_ ?_
 ·refine w_loop (fun (k:Nat) E' Y=>Y=ext H []∧E' 0=.slice (some ⟨b,0,sp⟩) parts.length K∧E' 3=.int .i64 (((parts.take k).flatMap Prod.snd).length:Int)∧E' 9=.slice (some ⟨b,0,sp⟩) parts.length K∧E' 10=.int .i64 (parts.length:Int)∧E' 11=.int .i64 (k:Int)∧k≤parts.length) (fun k=>parts.length-k) 0
   ⟨rfl,g0,by simpa using g3,g9,g10,g11,zB0 _⟩ ?_
  clear g0 g3 g9 g10 g11
  rintro k E Y ⟨hY,g0,g3,g9,g10,g11,hk⟩
  rw[hY]
  by_cases hkl:k=parts.length
  ·have hc:decide ((k:Int)<(parts.length:Int))=false:=by simp[hkl]
   simp (maxDischargeDepth:=6) only[g10,g11,hc,ruW,putL,Nat.reduceLeDiff,xF,ruU,entryE,Nat.reduceLT,Nat.reduceAdd,Nat.reduceMul,Nat.reduceEqDiff]
   rw[hkl,zF7,hn]at g3
   exact joinR_normal ⟨rfl,by simp only[g0,ruU,entryE,Nat.reduceLT,Nat.reduceAdd,Nat.reduceMul,Nat.reduceEqDiff],by simp only[g3,ruU,entryE,Nat.reduceLT,Nat.reduceAdd,Nat.reduceMul,Nat.reduceEqDiff]⟩
  ·have hlt:k<parts.length:=by omega
   have hc:decide ((k:Int)<(parts.length:Int))=true:=decide_eq_true (by omega)
   obtain⟨q,hq⟩:∃ q,parts[k]?=some q:=⟨_,zA6 hlt⟩
   obtain⟨aq,cq,eq⟩:=(hP q (zB9 hq)).1.len
   have ia:=parts_ia (len:=parts.length) (cap:=K) (n:=b) (off:=0) (s:=sp) hlt
   have lq:=ldp k q hq
   have t1:=tk k q hq
   have le1:=le (k+1)
   rw[t1,zB6]at le1
   have hw:IntKind.i64.wrap ((((parts.take k).flatMap Prod.snd).length:Int)+(q.2.length:Int))=(((parts.take (k+1)).flatMap Prod.snd).length:Int):=by
    rw[t1,zB6]
    exact (wrap_sm (by omega) (by omega)).trans (by omega)
   have d0:decide ((((parts.take (k+1)).flatMap Prod.snd).length:Int)<0)=false:=decide_eq_false (by omega)
   rw[eq]at lq
   simp (maxDischargeDepth:=6) only[g3,g9,g10,g11,hc,hx,hbl,hb,ia,lq,hw,d0,wrap_succ (show k<1000000 by omega),ruW,putL,Nat.reduceLeDiff,xF,ruU,entryE,Nat.reduceLT,Nat.reduceAdd,Nat.reduceMul,Nat.reduceEqDiff]
   refine loopC_next ⟨k+1,by omega,rfl,?_,?_,?_,?_,?_,by omega⟩
   ·simp only[g0,ruU,entryE,Nat.reduceLT,Nat.reduceAdd,Nat.reduceMul,Nat.reduceEqDiff]
   ·simp only[ruU,entryE,Nat.reduceLT,Nat.reduceAdd,Nat.reduceMul,Nat.reduceEqDiff]
   ·simp only[g9,ruU,entryE,Nat.reduceLT,Nat.reduceAdd,Nat.reduceMul,Nat.reduceEqDiff]
   ·simp only[g10,ruU,entryE,Nat.reduceLT,Nat.reduceAdd,Nat.reduceMul,Nat.reduceEqDiff]
   ·simp only[ruU,entryE,Nat.reduceLT,Nat.reduceAdd,Nat.reduceMul,Nat.reduceEqDiff]
 ·clear g0 g3 g9 g10 g11
  rintro E Y ⟨hY,g0,g3⟩
  rw[hY]
  simp (maxDischargeDepth:=6) only[g3,ruW,putL,Nat.reduceLeDiff,xF,ruU,entryE,Nat.reduceLT,Nat.reduceAdd,Nat.reduceMul,Nat.reduceEqDiff]
  refine (growRows_c (ext H []) n h0 hn1).to ?_
  simp (maxDischargeDepth:=6) only[g0,hx,ruW,putL,Nat.reduceLeDiff,xF,ruU,entryE,Nat.reduceLT,Nat.reduceAdd,Nat.reduceMul,Nat.reduceEqDiff]
  refine w_env fun E2 hE2=>?_
  have k6:E2 6=.slice (some ⟨x,0,none⟩) ((parts.take 0).flatMap Prod.snd).length n:=by rw[hE2]; (simp only[ruU,entryE,Nat.reduceLT,Nat.reduceAdd,Nat.reduceMul,Nat.reduceEqDiff]<;>rfl)
  have k25:E2 25=.slice (some ⟨b,0,sp⟩) parts.length K:=by rw[hE2]; simp only[ruU,entryE,Nat.reduceLT,Nat.reduceAdd,Nat.reduceMul,Nat.reduceEqDiff]
  have k26:E2 26=.int .i64 (parts.length:Int):=by rw[hE2]; simp only[ruU,entryE,Nat.reduceLT,Nat.reduceAdd,Nat.reduceMul,Nat.reduceEqDiff]
  have k27:E2 27=.int .i64 ((0:Nat):Int):=by rw[hE2]; (simp only[ruU,entryE,Nat.reduceLT,Nat.reduceAdd,Nat.reduceMul,Nat.reduceEqDiff]<;>rfl)
  clear hE2
  refine blockC_meet (fun E' Y=>Y=ext H [⟨56,true,parts.flatMap Prod.snd⟩]∧E' 6=.slice (some ⟨x,0,none⟩) n n) ?_ ?_
  ·refine w_loop (fun (k:Nat) E' Y=>Y=ext H [⟨56,true,(parts.take k).flatMap Prod.snd++zerosL [nilS] (n-((parts.take k).flatMap Prod.snd).length)⟩]∧E' 6=.slice (some ⟨x,0,none⟩) ((parts.take k).flatMap Prod.snd).length n∧E' 25=.slice (some ⟨b,0,sp⟩) parts.length K∧E' 26=.int .i64 (parts.length:Int)∧E' 27=.int .i64 (k:Int)∧k≤parts.length) (fun k=>parts.length-k) 0
    ⟨by rw[List.take_zero,List.flatMap_nil,zB8,zC3,Nat.sub_zero],k6,k25,k26,k27,zB0 _⟩ ?_
   clear k6 k25 k26 k27
   rintro k E Y ⟨hY,g6,g25,g26,g27,hk⟩
   rw[hY]
   by_cases hkl:k=parts.length
   ·have hc:decide ((k:Int)<(parts.length:Int))=false:=by simp[hkl]
    simp (maxDischargeDepth:=6) only[g26,g27,hc,ruW,putL,Nat.reduceLeDiff,xF,ruU,entryE,Nat.reduceLT,Nat.reduceAdd,Nat.reduceMul,Nat.reduceEqDiff]
    rw[hkl,zF7,hn]at g6
    rw[hkl,zF7,hn,zE9,zerosL,zD0]
    exact joinR_normal ⟨rfl,by simp only[g6,ruU,entryE,Nat.reduceLT,Nat.reduceAdd,Nat.reduceMul,Nat.reduceEqDiff]⟩
   ·have hlt:k<parts.length:=by omega
    have hc:decide ((k:Int)<(parts.length:Int))=true:=decide_eq_true (by omega)
    obtain⟨q,hq⟩:∃ q,parts[k]?=some q:=⟨_,zA6 hlt⟩
    obtain⟨hPq,h1q,hsq⟩:=hP q (zB9 hq)
    have ia:=parts_ia (len:=parts.length) (cap:=K) (n:=b) (off:=0) (s:=sp) hlt
    have lq:=ldp k q hq
    have t1:=tk k q hq
    have le1:=le (k+1)
    rw[t1,zB6]at le1
    have ap:=append_part (A:=(parts.take k).flatMap Prod.snd) (n:=n) (hPq.ext (B:=[⟨56,true,(parts.take k).flatMap Prod.snd++zerosL [nilS] (n-((parts.take k).flatMap Prod.snd).length)⟩])) hx le1 hn1 hok h1q (scbL_mono (by omega) _ hsq)
    rw[←t1]at ap
    simp (maxDischargeDepth:=6) only[g6,g25,g26,g27,hc,hx,hbl,hb,ia,lq,ap,wrap_succ (show k<1000000 by omega),ruW,putL,Nat.reduceLeDiff,xF,ruU,entryE,Nat.reduceLT,Nat.reduceAdd,Nat.reduceMul,Nat.reduceEqDiff]
    refine loopC_next ⟨k+1,by omega,rfl,?_,?_,?_,?_,by omega⟩
    ·simp only[ruU,entryE,Nat.reduceLT,Nat.reduceAdd,Nat.reduceMul,Nat.reduceEqDiff]
    ·simp only[g25,ruU,entryE,Nat.reduceLT,Nat.reduceAdd,Nat.reduceMul,Nat.reduceEqDiff]
    ·simp only[g26,ruU,entryE,Nat.reduceLT,Nat.reduceAdd,Nat.reduceMul,Nat.reduceEqDiff]
    ·simp only[ruU,entryE,Nat.reduceLT,Nat.reduceAdd,Nat.reduceMul,Nat.reduceEqDiff]
  ·rintro E Y ⟨hY,g6⟩
   rw[hY]
   simp (maxDischargeDepth:=6) only[g6,Tryd.results109,ruW,putL,Nat.reduceLeDiff,xF,ruU,entryE,Nat.reduceLT,Nat.reduceAdd,Nat.reduceMul,Nat.reduceEqDiff]
   exact fun h=>h
end Go.Proofs.YtaojjfebkldmnaaDoor
namespace Go.Ax
variable {P : Program} {H : AHeap}
theorem app_exactP {st xt e:TypeId} {sz by1 m k n off cnt cap:Nat} {s:Option Nat} {z:Value} {b bm:Bl} (hu:P.underlying st=some (.slice e)) (hsz:szOf P e=some sz) (hby:bytesOf P e=some by1) (hz:zeroOf P e=some z) (hzl:z.cells.toList.length=sz) (hi:intTy P xt=some false)
  (hm:bk H m=some bm) (ho:k*sz≤bm.l.length) (hoo:bm.l.all one=true)
  (hb:rk H n=some b) (hle:off+cnt*sz≤b.l.length) (hone:((b.l.drop off).take (cnt*sz)).all one=true) (hc:0<cnt) (hsm:small (k+cnt) by1=true) :
  aBuiltin P H .append ⟨[st,xt]⟩ [.slice (some ⟨m,0,some 0⟩) k k,.slice (some ⟨n,off,s⟩) cnt cap]=(aNew H e (bm.l.take (k*sz)++(b.l.drop off).take (cnt*sz)) true).map fun g=>(.slice (some ⟨H.next,0,none⟩) (k+cnt) (k+cnt),g):=by
 have hl:((b.l.drop off).take (cnt*sz)).length=cnt*sz:=by simp; omega
 have hl2:(bm.l.take (k*sz)).length=k*sz:=by simp; omega
 have hf:=first_bk (sz:=sz) (cnt:=k) (off:=0) (len:=k) (cap:=k) (s:=some 0) hm (by omega)
 simp only[zD3]at hf
 have hoo2:=all_sub hoo 0 (k*sz)
 simp only[zD3]at hoo2
 simp only[aBuiltin,aAppend,hu,hsz,hby,hz,hi,zA1,zA3,lenV,first_rk hb hle,hl,hzl,hsm,and_self,if_true,aAppend2]
 rw[if_neg (by omega)]
 simp only[hf,zA3,hl2,hoo2,hone,decide_true,zD1,if_true,exactAp,exactAt]
 cases aNew H e (bm.l.take (k*sz)++(b.l.drop off).take (cnt*sz)) true<;>rfl
end Go.Ax
namespace Go.Proofs.YtaojjfebkldmnaaDoor
open Go.Ax
theorem row_copy {G:AHeap} {m:Nat} {rv:Value} {l:List Ce} (hm:bk G m=some ⟨55,false,[]⟩) (hlt:m<G.next) (hok:G.base≤G.next) (hr:RowAt G rv l) (hlen:l.length≤10000) :
  ∃ rv' G',aBuiltin Tryd.prog G .append ⟨[56,56]⟩ [.slice (some ⟨m,0,some 0⟩) 0 0,rv]=some (rv',G')∧OwnRow m G' rv' l∧Mod [m] G G'∧∀ n∈idsV rv',n=m∨G.next≤n:=by
 have a1:Tryd.prog.underlying 56=some (.slice 55):=by kernel_rfl
 have a2:szOf Tryd.prog 55=some 6:=by kernel_rfl
 have a3:bytesOf Tryd.prog 55=some 32:=by kernel_rfl
 have a4:zeroOf Tryd.prog 55=some (.agg #[.int .i64 0,.int .i64 0,.int .i64 0,.bool false,.bool false,.bool false]):=by kernel_rfl
 have a5:intTy Tryd.prog 56=some false:=by kernel_rfl
 rcases hr with⟨rfl,a,c,rfl⟩|⟨hl,n,off,s,c,e,o,L,rfl,hb,hnl,hle,ht⟩
 ·have hw:=write_old (H:=G) (L:=[]) (off:=0) (vs:=[]) hlt hm (by simp) rfl rfl
  rw[ext_nil,ext_nil]at hw
  have hf:firstC G 6 0 (.slice a 0 c)=some []:=by
   cases a with
   |none=>rfl
   |some a=>simp only[firstC,if_true]
  refine⟨.slice (some ⟨m,0,some 0⟩) 0 0,uw G m 0 [],?_,⟨m,false,0,false,rfl,?_,zA5 _,by rw[uw_next]; exact hlt⟩,Mod.uw (by simp),fun n hn=>by simp only[idsV,zA8]at hn; exact .inl hn⟩
  ·simp only[aBuiltin,aAppend,a1,a2,a3,a4,a5,lenV,hf,zA1,zA3]
   rw[if_pos ⟨by simp,by decide,rfl⟩]
   simp only[aAppend2]
   rw[if_pos (by omega)]
   simp only[zE1,zC7,hw,zA1,zA3]
  ·rw[bk_uw_eq,hm]
   rfl
 ·have hpos:0<l.length:=List.length_pos_iff.2 hl
  have happ:=app_exactP (P:=Tryd.prog) (H:=G) (st:=56) (xt:=56) (e:=55) (sz:=6) (by1:=32) (m:=m) (k:=0) (n:=n) (off:=off) (cnt:=l.length) (cap:=c) (s:=s) (b:=⟨e,o,L⟩) (bm:=⟨55,false,[]⟩)
   a1 a2 a3 a4 rfl a5 hm (by simp) rfl hb hle (by rw[ht]; exact csOf_one l) hpos (by simp only[small,zA4,Nat.ble_eq]; omega)
  have hn:=new_ext (H:=G) (L:=[]) (e:=55) (l:=csOf l) (o:=true) (csOf_sc _ _)
  simp only[ht,zE1,List.take_zero,zB8]at happ
  rw[show G=ext G [] from rfl,hn,zA7]at happ
  simp only[zC1]at happ
  refine⟨_,_,happ,⟨G.next+0,true,0,true,rfl,by rw[zB8,bk_at rfl (by simp)]; rfl,by omega,by rw[ext_next]; simp⟩,Mod.ext hok,fun n hn=>by simp only[idsV,zA8]at hn; exact .inr (by rw[hn]; exact zA5 _)⟩
structure Grow (N:Nat) (X:AHeap) (u:Value) (rvs:List Value) (g:List (List Ce)):Prop where
 at_:VsAt X 56 1 u rvs g.length
 row:∀ (i:Nat) (rv:Value) (l:List Ce),rvs[i]?=some rv→g[i]?=some l→OwnRow N X rv l
 nd:(rvs.flatMap idsV).Nodup
 apart:∀ n∈idsV u,N≤n∧n∉rvs.flatMap idsV
 sc:scbL X.next rvs=true
section
variable {N : Nat} {X Y Z : AHeap} {u rv : Value} {rvs : List Value} {g : List (List Ce)} {l : List Ce}
theorem Grow.nil:Grow N X (.slice none 0 0) [] []:=⟨VsAt.nil,fun i rv l h=>by simp at h,by simp,fun n hn=>by simp[idsV]at hn,rfl⟩
theorem Grow.len (o:Grow N X u rvs g):rvs.length=g.length:=by have:=o.at_.1; omega
theorem Grow.ids (o:Grow N X u rvs g):∀ n∈rvs.flatMap idsV,N≤n∧n<X.next∧X.get n≠none:=by
 intro n hn
 obtain⟨rv,hrv,hn⟩:=zE3.1 hn
 obtain⟨i,hi⟩:=List.getElem?_of_mem hrv
 have hlt:=(zE2.1 hi).1
 exact (o.row i rv (g[i]'(by rw[←o.len]; exact hlt)) hi (zA6 (by rw[←o.len]; exact hlt))).rng n hn
theorem Grow.of (o:Grow N X u rvs g) (hn:X.next≤Y.next) (hg:∀ n,n<X.next→n∈idsV u++rvs.flatMap idsV→Y.get n=X.get n):Grow N Y u rvs g where
 at_:=o.at_.of hn fun n h=>hg n (o.at_.ne n h).2 (zD4 _ h)
 row:=fun i rv l h1 h2=>(o.row i rv l h1 h2).of hn fun n h=>hg n ((o.row i rv l h1 h2).rng n h).2.1 (zD5 _ (zE3.2 ⟨rv,zB9 h1,h⟩))
 nd:=o.nd
 apart:=o.apart
 sc:=scbL_mono hn _ o.sc
theorem Grow.push (o:Grow N X u rvs g) (m:Mod [] X Y) (hN:N≤Y.next) (hr:OwnRow N Y rv l) (hfr:∀ n∈idsV rv,X.next≤n) (hone:one rv=true) (m2:Mod (idsV u) Y Z) (hx:bk Z Y.next=some ⟨56,true,rvs++[rv]⟩) (hlt:Y.next<Z.next) :
  Grow N Z (.slice (some ⟨Y.next,0,none⟩) (g.length+1) (g.length+1)) (rvs++[rv]) (g++[l]):=by
 have hrv1:(idsV rv).Nodup∧scb Z.next rv=true:=by
  obtain⟨n,s,c,o',rfl,_,_,h⟩:=hr
  exact⟨by simp[idsV],blt_of (Nat.lt_trans h hlt)⟩
 have huX:∀ n∈idsV u,n<X.next:=fun n h=>(o.at_.ne n h).2
 have hnx:=m.next
 refine⟨⟨by simp only[zB6,List.length_singleton]; have:=o.len; omega,by rw[List.all_append,o.at_.2.1]; simp[hone],.inr ⟨by simp,Y.next,by simp,hx,hlt⟩⟩,fun i q c h1 h2=>?_,?_,fun n hn=>?_,scbL_append (scbL_mono (zD9 hnx m2.next) _ o.sc) (by simp[scbL,hrv1.2])⟩
 ·rcases zC4 i rvs.length with h|h
  ·rw[List.getElem?_append_left h]at h1
   rw[List.getElem?_append_left (by rw[←o.len]; exact h)]at h2
   have h3:=o.row i q c h1 h2
   refine h3.of (zD9 hnx m2.next) fun n hn=>?_
   have h4:=(h3.rng n hn).2.1
   rw[m2.get n (by omega) fun h5=>(o.apart n h5).2 (zE3.2 ⟨q,zB9 h1,hn⟩),m.get n h4 (by simp)]
  ·rw[List.getElem?_append_right h]at h1
   rw[List.getElem?_append_right (by rw[←o.len]; exact h),←o.len]at h2
   obtain⟨h3,h4⟩:rv=q∧l=c:=by
    cases hk:i-rvs.length with
    |zero=>rw[hk]at h1 h2; exact⟨by simpa using h1,by simpa using h2⟩
    |succ k=>rw[hk]at h1; simp at h1
   subst h3 h4
   exact hr.of m2.next fun n hn=>m2.get n (hr.rng n hn).2.1 fun h5=>by have:=huX n h5; have:=hfr n hn; omega
 ·rw[List.flatMap_append,List.nodup_append]
  refine⟨o.nd,by simpa using hrv1.1,fun a ha b hb=>?_⟩
  have h1:=(o.ids a ha).2.1
  have h2:=hfr b (by simpa using hb)
  omega
 ·simp only[idsV,zA8]at hn
  subst hn
  refine⟨hN,fun h=>?_⟩
  rw[List.flatMap_append]at h
  rcases zB4.1 h with h|h
  ·have:=(o.ids _ h).2.1; omega
  ·have:=(hr.rng Y.next (by simpa using h)).2.1; omega
theorem Grow.own (o:Grow N X u rvs g):OwnG N X u rvs g:=by
 refine⟨o.len,?_,o.row,o.nd⟩
 have hid:=o.apart
 obtain⟨h1,_,⟨h0,rfl⟩|⟨h0,n,rfl,hb,hlt⟩⟩:=o.at_
 ·exact .inl ⟨List.length_eq_zero_iff.1 h0,rfl⟩
 ·obtain⟨h2,h3⟩:=hid n (by simp[idsV])
  exact .inr ⟨n,none,_,true,rfl,hb,h2,hlt,h3⟩
end
section
variable {α β : Type}
def part (g:List α) (top bot:Nat):List α:=(g.take (bot+1)).drop top
def mid (up:Bool) (q f:List α) (n:Nat):List α:=if up then q.drop n++f else f++q.take (q.length-n)
def glue (up:Bool) (g f:List α) (top bot n:Nat):List α:=g.take top++mid up (part g top bot) f n++g.drop (bot+1)
theorem glue_roll (W:Nat) (g:List (List Ce)) (top bot n:Nat) (up:Bool):rollR W g top bot n up=glue up g (List.replicate n (List.replicate W Ce.sp)) top bot n:=rfl
theorem part_split (g:List α) {top bot:Nat} (h:top≤bot+1):g=g.take top++part g top bot++g.drop (bot+1):=by
 have h1:g.take top=(g.take (bot+1)).take top:=by rw[List.take_take,Nat.min_eq_left h]
 rw[part,h1,List.take_append_drop,List.take_append_drop]
theorem part_len {g:List α} {top bot:Nat} (h:bot<g.length):(part g top bot).length=bot+1-top:=by
 simp only[part,zD8,zF6]; omega
theorem mid_len {up:Bool} {q f:List α} {n:Nat} (hn:n≤q.length) (hf:f.length=n):(mid up q f n).length=q.length:=by
 unfold mid
 cases up
 ·simp; omega
 ·simp; omega
theorem glue_len {up:Bool} {g f:List α} {top bot n:Nat} (h1:top≤bot) (h2:bot<g.length) (h3:n≤bot+1-top) (hf:f.length=n):(glue up g f top bot n).length=g.length:=by
 simp only[glue,zB6,zF6,zD8,mid_len (show n≤(part g top bot).length by rw[part_len h2]; exact h3) hf,part_len h2]
 omega
theorem glue_map {up:Bool} {g f:List α} {top bot n:Nat} (h:α→β):(glue up g f top bot n).map h=glue up (g.map h) (f.map h) top bot n:=by
 unfold glue mid part
 cases up<;>simp[List.map_take,List.map_drop]
theorem mid_mem {up:Bool} {q f:List α} {n:Nat} {z:α} (h:z∈mid up q f n):z∈q∨z∈f:=by
 unfold mid at h
 cases up
 ·rcases zB4.1 (by simpa using h) with h|h
  ·exact .inr h
  ·exact .inl (zE4 h)
 ·rcases zB4.1 (by simpa using h) with h|h
  ·exact .inl (zE5 h)
  ·exact .inr h
theorem glue_mem {up:Bool} {g f:List α} {top bot n:Nat} {z:α} (h:z∈glue up g f top bot n):z∈g∨z∈f:=by
 unfold glue at h
 rcases zB4.1 h with h|h
 ·rcases zB4.1 h with h|h
  ·exact .inl (zE4 h)
  ·rcases mid_mem h with h|h
   ·exact .inl (zE4 (zE5 h))
   ·exact .inr h
 ·exact .inl (zE5 h)
theorem glue_nodup {up:Bool} {g f:List α} {top bot n:Nat} (i:α→List β) (h:(g.flatMap i++f.flatMap i).Nodup) (ht:top≤bot+1):((glue up g f top bot n).flatMap i).Nodup:=by
 have hs:(glue up g f top bot n).flatMap i=(g.take top).flatMap i++(mid up (part g top bot) f n).flatMap i++(g.drop (bot+1)).flatMap i:=by
  simp only[glue,List.flatMap_append]
 rw[hs]
 have hg:g.flatMap i=(g.take top).flatMap i++(part g top bot).flatMap i++(g.drop (bot+1)).flatMap i:=by
  conv=>lhs; rw[part_split g ht]
  simp only[List.flatMap_append]
 rw[hg]at h
 generalize (g.take top).flatMap i=A at *
 generalize (g.drop (bot+1)).flatMap i=B at *
 generalize part g top bot=q at *
 have key:∀ D:List β,D.Sublist (q.flatMap i)→(A++D++B++f.flatMap i).Nodup:=fun D hD =>
  h.sublist ((((List.Sublist.refl A).append hD).append (List.Sublist.refl B)).append (List.Sublist.refl _))
 unfold mid
 cases up with
 |true =>
  simp only[if_true,List.flatMap_append]
  have hD:((q.drop n).flatMap i).Sublist (q.flatMap i):=by
   conv=>rhs; rw[←List.take_append_drop n q,List.flatMap_append]
   exact List.sublist_append_right _ _
  have h1:=key _ hD
  refine (List.Perm.nodup_iff ?_).2 h1
  simp only[List.append_assoc]
  exact List.Perm.append_left _ (List.Perm.append_left _ List.perm_append_comm)
 |false =>
  simp only[zC2,if_false,List.flatMap_append]
  have hD:((q.take (q.length-n)).flatMap i).Sublist (q.flatMap i):=by
   conv=>rhs; rw[←List.take_append_drop (q.length-n) q,List.flatMap_append]
   exact List.sublist_append_left _ _
  have h1:=key _ hD
  refine (List.Perm.nodup_iff ?_).2 h1
  simp only[List.append_assoc]
  refine List.Perm.append_left _ ?_
  rw[←List.append_assoc ((q.take (q.length-n)).flatMap i)]
  exact List.perm_append_comm
end
theorem OwnG.glue {N:Nat} {H X Y:AHeap} {v u:Value} {rvs fr:List Value} {g fg:List (List Ce)} (o:OwnG N H v rvs g) (gr:Grow H.next X u fr fg) (m:Mod [] H X) (m2:Mod (idsV u) X Y) {up:Bool} {top bot n:Nat} {y:Nat}
  (hN:N≤H.next) (h1:top≤bot) (h2:bot<g.length) (h3:n≤bot+1-top) (hf:fg.length=n) (hy:bk Y y=some ⟨56,true,Go.Proofs.YtaojjfebkldmnaaDoor.glue up rvs fr top bot n⟩) (hyl:X.next≤y) (hyn:y<Y.next) :
  OwnG N Y (.slice (some ⟨y,0,none⟩) g.length g.length) (Go.Proofs.YtaojjfebkldmnaaDoor.glue up rvs fr top bot n) (Go.Proofs.YtaojjfebkldmnaaDoor.glue up g fg top bot n):=by
 have hln:rvs.length=g.length:=o.len
 have hlf:fr.length=fg.length:=gr.len
 have hall:∀ z∈Go.Proofs.YtaojjfebkldmnaaDoor.glue up (rvs.zip g) (fr.zip fg) top bot n,OwnRow N Y z.1 z.2∧z.1∈Go.Proofs.YtaojjfebkldmnaaDoor.glue up rvs fr top bot n:=fun z hz=>by
  have hm:z.1∈Go.Proofs.YtaojjfebkldmnaaDoor.glue up rvs fr top bot n:=by
   have:(Go.Proofs.YtaojjfebkldmnaaDoor.glue up (rvs.zip g) (fr.zip fg) top bot n).map Prod.fst=Go.Proofs.YtaojjfebkldmnaaDoor.glue up rvs fr top bot n:=by
    rw[glue_map,List.map_fst_zip (by omega),List.map_fst_zip (by omega)]
   rw[←this]
   exact List.mem_map_of_mem hz
  refine⟨?_,hm⟩
  rcases glue_mem hz with h|h
  ·obtain⟨i,hi⟩:=List.getElem?_of_mem h
   rw[List.getElem?_zip_eq_some]at hi
   have h4:=o.row i _ _ hi.1 hi.2
   refine h4.of (zD9 m.next m2.next) fun q hq=>?_
   have h5:=h4.rng q hq
   rw[m2.get q (by have:=m.next; omega) (fun h6=>by have:=(gr.apart q h6).1; omega),m.get q h5.2.1 (by simp)]
  ·obtain⟨i,hi⟩:=List.getElem?_of_mem h
   rw[List.getElem?_zip_eq_some]at hi
   have h4:=gr.row i _ _ hi.1 hi.2
   obtain⟨q,s,c,oo,e,hb,hq1,hq2⟩:=h4.of m2.next fun q hq=>m2.get q (h4.rng q hq).2.1 fun h6=>(gr.apart q h6).2 (zE3.2 ⟨_,zB9 hi.1,hq⟩)
   exact⟨q,s,c,oo,e,hb,by omega,hq2⟩
 have hidl:∀ q∈(Go.Proofs.YtaojjfebkldmnaaDoor.glue up rvs fr top bot n).flatMap idsV,q<X.next:=fun q hq=>by
  obtain⟨rv,h4,h5⟩:=zE3.1 hq
  rcases glue_mem h4 with h6|h6
  ·have:=(o.ids q (zE3.2 ⟨rv,h6,h5⟩)).2.1; have:=m.next; omega
  ·exact (gr.ids q (zE3.2 ⟨rv,h6,h5⟩)).2.1
 refine⟨?_,?_,?_,?_⟩
 ·rw[glue_len h1 (by omega) h3 (by omega),glue_len h1 h2 h3 hf,hln]
 ·refine .inr ⟨y,none,g.length,true,?_,hy,by have:=m.next; omega,hyn,fun h=>by have:=hidl y h; omega⟩
  rw[glue_len h1 h2 h3 hf]
 ·intro i rv l hi hl
  have hz:(Go.Proofs.YtaojjfebkldmnaaDoor.glue up (rvs.zip g) (fr.zip fg) top bot n)[i]?=some (rv,l):=by
   have e1:(Go.Proofs.YtaojjfebkldmnaaDoor.glue up (rvs.zip g) (fr.zip fg) top bot n).map Prod.fst=Go.Proofs.YtaojjfebkldmnaaDoor.glue up rvs fr top bot n:=by
    rw[glue_map,List.map_fst_zip (by omega),List.map_fst_zip (by omega)]
   have e2:(Go.Proofs.YtaojjfebkldmnaaDoor.glue up (rvs.zip g) (fr.zip fg) top bot n).map Prod.snd=Go.Proofs.YtaojjfebkldmnaaDoor.glue up g fg top bot n:=by
    rw[glue_map,List.map_snd_zip (by omega),List.map_snd_zip (by omega)]
   rw[←e1,List.getElem?_map]at hi
   rw[←e2,List.getElem?_map]at hl
   cases hq:(Go.Proofs.YtaojjfebkldmnaaDoor.glue up (rvs.zip g) (fr.zip fg) top bot n)[i]? with
   |none=>rw[hq]at hi; cases hi
   |some z =>
    rw[hq]at hi hl
    simp only[zA7,Option.some.injEq]at hi hl
    rw[←hi,←hl]
  exact (hall _ (zB9 hz)).1
 ·refine glue_nodup idsV ?_ (by omega)
  rw[List.nodup_append]
  refine⟨o.nd,gr.nd,fun a ha b hb e=>?_⟩
  have:=(o.ids a ha).2.1
  have:=(gr.ids b hb).1
  omega
end Go.Proofs.YtaojjfebkldmnaaDoor
