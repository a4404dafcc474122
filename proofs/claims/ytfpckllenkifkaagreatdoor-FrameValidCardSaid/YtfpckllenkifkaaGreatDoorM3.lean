/- Parts of the proof, one behind the other. -/
import Derived.Test.YtfpckllenkifkaaGreatDoorM2
import Derived.Laws.StructEq
import Derived.Below
import Derived.WideShapes
import Derived.ChangeSlices
import Derived.ChangeAnyMap
import GoSem.ClaimJoined
set_option linter.all false
set_option maxRecDepth 10000
set_option maxHeartbeats 16000000
open And renaming intro -> zA0
open Option renaming bind_eq_bind -> zA1, bind_eq_some_iff -> zA2, bind_some -> zA3, map_some -> zA5, map_eq_some_iff -> zA6
open Bool renaming and_eq_true -> zA4, false_eq_true -> zB7, and_self -> zD6
open List renaming getElem?_eq_getElem -> zA7, length_cons -> zB0, mem_cons -> zB1, map_cons -> zB3, mem_singleton -> zB4, mem_cons_of_mem -> zB5, mem_cons_self -> zB9, mem_of_getElem? -> zC2, all_eq_true -> zC4, getElem?_cons_zero -> zC5, getElem?_eq_none -> zC6, drop_zero -> zC7, length_append -> zC8, mem_append -> zC9, getElem?_cons_succ -> zD0, length_replicate -> zD2, eq_nil_of_length_eq_zero -> zD4, nil_append -> zD5, length_nil -> zD7, map_congr_left -> zD8, mem_map -> zE0, flatMap_cons -> zE1, append_nil -> zE2, length_take -> zE3, length_drop -> zE4
open Nat renaming le_refl -> zA8, zero_le -> zA9, le_of_ble_eq_true -> zB2, lt_or_ge -> zB6, le_trans -> zB8, zero_add -> zC0, lt_succ_self -> zC1, lt_of_lt_of_le -> zC3, min -> zD1, add_zero -> zD3, eq_of_beq_eq_true -> zD9

namespace Go.Ax
section
variable {P : Program} {ro : Option Nat} {a a1 a2 : AAct} {H H1 H2 : AHeap} {e : Exit}
theorem Runs.skip:Runs P ro .skip a H .normal a H:=fun ρ w _ _ _ _ _ _ r hs hQ=>wpIn_skip (hQ ρ w (St.refl r) hs trivial)
theorem Runs.label {l:Nat}:Runs P ro (.label l) a H .normal a H:=fun ρ w _ _ _ _ _ _ r hs hQ=>wpIn_label (hQ ρ w (St.refl r) hs trivial)
theorem Runs.exit {id:Nat}:Runs P ro (.exit id) a H (.exit id) a H:=fun ρ w _ _ _ _ _ _ r hs hQ=>wpIn_exit (hQ ρ w (St.refl r) hs trivial)
theorem Runs.goto {l:Nat}:Runs P ro (.goto l) a H (.goto l) a H:=fun ρ w _ _ _ _ _ _ r hs hQ=>wpIn_goto (hQ ρ w (St.refl r) hs trivial)
theorem Runs.ret:Runs P ro .ret a H .ret a H:=fun ρ w _ _ _ _ _ _ r hs hQ=>wpIn_ret (hQ ρ w (St.refl r) hs trivial)
theorem round_ext {F:Fence} {ρ ρ1:Ren} {w w1:World} (hFr:F.round=ro.map ρ.blk) (hro:∀ l,ro=some l->l<H.next) (s:St P ρ H w ρ1 H1 w1):F.round=ro.map ρ1.blk:=by
 rw[hFr]
 cases ro with
 |none=>rfl
 |some l0=>simp only[zA5]; rw[s.ext.blk l0 (hro l0 rfl)]
theorem Runs.seq {x y:Code} (h1:Runs P ro x a H .normal a2 H2) (h2:Runs P ro y a2 H2 e a1 H1):Runs P ro (.seq x y) a H e a1 H1:=by
 intro ρ w F n Q hF hFr hro r hs hQ
 refine wpIn_seq (h1 ρ w F n _ hF hFr hro r hs ?_)
 intro ρ1 w1 s1 k1 _
 refine h2 ρ1 w1 F n Q hF (round_ext hFr hro s1) (fun l hl=>zC3 (hro l hl) s1.le.next) s1.rel k1 ?_
 intro ρ2 w2 s2 k2 k3
 exact hQ ρ2 w2 (s1.trans s2) k2 k3
theorem Runs.seq_out {x y:Code} (h1:Runs P ro x a H e a1 H1) (hne:e≠.normal):Runs P ro (.seq x y) a H e a1 H1:=by
 intro ρ w F n Q hF hFr hro r hs hQ
 refine wpIn_seq (h1 ρ w F n _ hF hFr hro r hs ?_)
 intro ρ1 w1 s1 k1 k2
 have:=hQ ρ1 w1 s1 k1 k2
 cases e with
 |normal=>exact absurd rfl hne
 |_=>exact this
theorem Runs.cond {c:Operand} {x y:Code} {b:Bool} (hc:aeval P a c=some (.bool b)) (h:Runs P ro (if b then x else y) a H e a1 H1):Runs P ro (.cond c x y) a H e a1 H1:=by
 intro ρ w F n Q hF hFr hro r hs hQ
 cases b with
 |true=>exact wpIn_cond_true (by rw[aeval_run r hc]; simp[Ren.val]) (h ρ w F n Q hF hFr hro r hs hQ)
 |false=>exact wpIn_cond_false (by rw[aeval_run r hc]; simp[Ren.val]) (h ρ w F n Q hF hFr hro r hs hQ)
def outB (id:Nat):Exit->Exit
 |.exit k=>if k=id then .normal else .exit k
 |e=>e
theorem Runs.block {id:Nat} {b:Code} (h:Runs P ro b a H e a1 H1):Runs P ro (.block id b) a H (outB id e) a1 H1:=by
 intro ρ w F n Q hF hFr hro r hs hQ
 refine wpIn_block (h ρ w F n _ hF hFr hro r hs ?_)
 intro ρ1 w1 s1 k1 k2
 cases e with
 |exit k =>
  simp only[Ren.exit,Exit.inBlock]
  by_cases hk:k=id
  ·rw[if_pos hk]
   have:=hQ ρ1 w1 s1 k1 (by simp[outB,hk,scX])
   simpa[outB,hk,Ren.exit]using this
  ·rw[if_neg hk]
   have:=hQ ρ1 w1 s1 k1 (by simp[outB,hk,scX])
   simpa[outB,hk,Ren.exit]using this
 |_=>exact hQ ρ1 w1 s1 k1 k2
theorem Runs.scope {b:Code} (h:Runs P ro b a H e a1 H1) (hne:∀ l,e≠.goto l):Runs P ro (.scope b) a H e a1 H1:=by
 intro ρ w F n Q hF hFr hro r hs hQ
 refine wpIn_scope (h ρ w F n _ hF hFr hro r hs ?_)
 intro ρ1 w1 s1 k1 k2
 have:=hQ ρ1 w1 s1 k1 k2
 cases e with
 |goto l=>exact absurd rfl (hne l)
 |_=>exact this
def RoundsR (P:Program) (ro:Option Nat) (b:Code) (m:Nat) (a:AAct) (H:AHeap) (e:Exit) (a1:AAct) (H1:AHeap):Prop :=
 ∀ (ρ:Ren) (w:World) (F:Fence) (n:Nat) (Q:Exit->Act->World->Prop),WideF F->F.round=ro.map ρ.blk->(∀ l,ro=some l->l<H.next)->Rel P ρ H w->scA H.next a ->
  (∀ ρ1 w1,St P ρ H w ρ1 H1 w1->scA H1.next a1->scX H1.next e->Q (ρ1.exit e) (ρ1.act a1) w1)->Code.roundsIn F n P b Q m (ρ.act a) w
theorem RoundsR.next {b:Code} {m:Nat} (h1:Runs P ro b a H .normal a2 H2) (h2:RoundsR P ro b m a2 H2 e a1 H1):RoundsR P ro b (m+1) a H e a1 H1:=by
 intro ρ w F n Q hF hFr hro r hs hQ
 rw[roundsIn_succ]
 refine h1 ρ w F n _ hF hFr hro r hs ?_
 intro ρ1 w1 s1 k1 _
 refine h2 ρ1 w1 F n Q hF (round_ext hFr hro s1) (fun l hl=>zC3 (hro l hl) s1.le.next) s1.rel k1 ?_
 intro ρ2 w2 s2 k2 k3
 exact hQ ρ2 w2 (s1.trans s2) k2 k3
theorem RoundsR.last {b:Code} {m:Nat} (h1:Runs P ro b a H e a1 H1) (hne:e≠.normal):RoundsR P ro b (m+1) a H e a1 H1:=by
 intro ρ w F n Q hF hFr hro r hs hQ
 rw[roundsIn_succ]
 refine h1 ρ w F n _ hF hFr hro r hs ?_
 intro ρ1 w1 s1 k1 k2
 have:=hQ ρ1 w1 s1 k1 k2
 cases e with
 |normal=>exact absurd rfl hne
 |_=>exact this
theorem Runs.loop {b:Code} {m:Nat} (h:RoundsR P ro b m a H e a1 H1):Runs P ro (.loop b) a H e a1 H1 :=
 fun ρ w F n Q hF hFr hro r hs hQ=>wpIn_loop_rounds m (h ρ w F n Q hF hFr hro r hs hQ)
def NextS (P:Program) (x:ANext) (H:AHeap) (out:Out) (H1:AHeap):Prop :=
 match x with
 |.value v=>out=.ok v/\H1=H
 |.skip=>out=.ok undef/\H1=H
 |.enter f args=>CallS P f args H out H1
 |.round r=>RoundS P r H out H1
 |.panic v=>out=.error [{v,recovered:=false}]/\H1=H
theorem opS_of {o:Oper} {x:ANext} {g:AHeap} {out:Out} (hx:aop o.op P a H=some (x,g)) (h:NextS P x g out H1):OpS P a H o out H1:=by
 intro ρ w r hs ca hca F n K Q hF hR
 have hsn:=aop_sc r.glob.1 r.doms hs hx
 obtain⟨⟨ρ1,w1,hst,hrun⟩,hnd⟩:=aop_run r hx
 refine⟨fun f _=>hF.fn f,?_⟩
 have hsel:∀ cs b,o.op≠.select cs b:=fun cs b e=>by rw[e]at hx; simp[aop,xNone]at hx
 rw[Oper.semAt_eq _ _ _ hnd,execOp_congr o hsel hca]
 cases x with
 |value v =>
  obtain⟨rfl,rfl⟩:=h
  simp only[NRun]at hrun
  rw[hrun,Oper.uponIn_value]
  exact hR ρ1 w1 hst hsn
 |skip =>
  obtain⟨rfl,rfl⟩:=h
  simp only[NRun]at hrun
  rw[hrun,Oper.uponIn_skip]
  have:=hR ρ1 w1 hst (scb_undef _)
  simpa using this
 |enter f args =>
  simp only[NRun]at hrun
  rw[hrun,Oper.uponIn_enter]
  refine⟨hF.deep,h ρ1 w1 hst.rel hsn F (n-1) _ hF ?_⟩
  intro ρ2 w2 hst2
  cases out with
  |ok v=>exact hR ρ2 w2 (hst.trans hst2)
  |error ch=>exact hR ρ2 w2 (hst.trans hst2)
 |round rd =>
  simp only[NRun]at hrun
  obtain⟨fn,hrun⟩:=hrun
  rw[hrun,Oper.uponIn_round]
  refine⟨hF.deep,h ρ1 w1 hst.rel hsn.1 hsn.2 F (n-1) fn _ hF ?_⟩
  intro ρ2 w2 hst2
  cases out with
  |ok v=>exact hR ρ2 w2 (hst.trans hst2)
  |error ch=>exact hR ρ2 w2 (hst.trans hst2)
 |panic v =>
  obtain⟨rfl,rfl⟩:=h
  simp only[NRun]at hrun
  rw[hrun,Oper.uponIn_panic]
  exact hR ρ1 w1 hst (fun p hp=>by simp at hp; subst hp; exact hsn)
def CallA (P:Program) (f:FuncId) (args:List Value) (H:AHeap) (R:Out->AHeap->Prop):Prop:=∃ out H1,CallS P f args H out H1/\R out H1
def RoundA (P:Program) (r:Round) (H:AHeap) (R:Out->AHeap->Prop):Prop:=∃ out H1,RoundS P r H out H1/\R out H1
def nextA (P:Program) (x:ANext) (H:AHeap) (R:Out->AHeap->Prop):Prop :=
 match x with
 |.value v=>R (.ok v) H
 |.skip=>R (.ok undef) H
 |.enter f args=>CallA P f args H R
 |.round r=>RoundA P r H R
 |.panic v=>R (.error [{v,recovered:=false}]) H
def opA (P:Program) (op:Op) (a:AAct) (H:AHeap) (R:Out->AHeap->Prop):Prop :=
 match aop op P a H with
 |some (x,g)=>nextA P x g R
 |none=>False
theorem opA_sound {o:Oper} {R:Out->AHeap->Prop} (h:opA P o.op a H R):∃ out H1,OpS P a H o out H1/\R out H1:=by
 unfold opA at h
 split at h
 ·rename_i x g hx
  cases x with
  |value v=>exact⟨_,_,opS_of hx ⟨rfl,rfl⟩,h⟩
  |skip=>exact⟨_,_,opS_of hx ⟨rfl,rfl⟩,h⟩
  |enter f args=>obtain⟨out,H1,h2,h4⟩:=h; exact⟨out,H1,opS_of hx h2,h4⟩
  |round r=>obtain⟨out,H1,h2,h4⟩:=h; exact⟨out,H1,opS_of hx h2,h4⟩
  |panic v=>exact⟨_,_,opS_of hx ⟨rfl,rfl⟩,h⟩
 ·exact h.elim
def wpOps (P:Program) (ro:Option Nat) (ops:Array Oper):List Oper->AAct->AHeap->(Exit->AAct->AHeap->Prop)->Prop
 |[],a,H,Q=>Q .normal a H
 |o::rest,a,H,Q =>
  match wantA ops a o with
  |some true =>
   (match ro,aDefer P a o.op with
   |none,some d=>wpOps P ro ops rest (AAct.put ⟨a.env,d::a.defers⟩ o.dst undef) H Q
   |_,_=>opA P o.op a H fun out H1=>match out with
    |.ok v=>wpOps P ro ops rest (a.put o.dst v) H1 Q
    |.error ch=>Q (.panic ch) a H1)
  |some false=>wpOps P ro ops rest (a.put o.dst undef) H Q
  |none=>False
def OpsR (P:Program) (ro:Option Nat) (ops:Array Oper) (k m:Nat) (a:AAct) (H:AHeap) (e:Exit) (a1:AAct) (H1:AHeap):Prop :=
 ∀ (ρ:Ren) (w:World) (F:Fence) (n:Nat) (Q:Exit->Act->World->Prop),WideF F->F.round=ro.map ρ.blk->(∀ l,ro=some l->l<H.next)->Rel P ρ H w->scA H.next a ->
  (∀ ρ1 w1,St P ρ H w ρ1 H1 w1->scA H1.next a1->scX H1.next e->Q (ρ1.exit e) (ρ1.act a1) w1)->wpOpsIn F n P ops Q (List.range' k m) (ρ.act a) w
theorem wpOps_sound {P:Program} {ro:Option Nat} {ops:Array Oper} {Q:Exit->AAct->AHeap->Prop}:∀ (rest:List Oper) (k:Nat) (a:AAct) (H:AHeap),ops.toList.drop k=rest->wpOps P ro ops rest a H Q ->
  ∃ e a1 H1,OpsR P ro ops k rest.length a H e a1 H1/\Q e a1 H1
 |[],k,a,H,_,h=>⟨.normal,a,H,fun ρ w F n Q _ _ _ r hs hQ=>hQ ρ w (St.refl r) hs trivial,h⟩
 |o::rest,k,a,H,hd,h=>by
  have hk:ops[k]?=some o:=by
   have:=congrArg (·[0]?) hd
   simpa using this
  have hd':ops.toList.drop (k+1)=rest:=by
   have:=congrArg List.tail hd
   simpa using this
  simp only[wpOps]at h
  split at h
  ·rename_i hw
   split at h
   ·rename_i d hdf
    obtain⟨e,a1,H1,hr,hq⟩:=wpOps_sound rest (k+1) _ H hd' h
    refine⟨e,a1,H1,?_,hq⟩
    intro ρ w F n Q hF hFr hro r hs hQ
    simp only[zB0,List.range'_succ,wpOpsIn,hk]
    rw[want_run ρ hw,if_pos rfl]
    obtain⟨hrun,hsd⟩:=aDefer_run r hs hdf
    refine⟨fun f _=>hF.fn f,?_⟩
    rw[hFr]
    simp only[Option.map_none]
    rw[Oper.semAt_none,hrun]
    have hp:=act_put ρ ⟨a.env,d::a.defers⟩ o.dst undef
    rw[Ren.val_undef]at hp
    have hs':scA H.next ⟨a.env,d::a.defers⟩:=⟨hs.1,fun d' hd'=>by
     rcases zB1.1 hd' with rfl|hd'
     ·exact hsd
     ·exact hs.2 d' hd'⟩
    have:=hr ρ w F n Q hF hFr hro r (hs'.put _ (scb_undef _)) hQ
    rw[<-hp]at this
    exact this
   ·obtain⟨out,H2,hop,hk2⟩:=opA_sound (o:=o) h
    cases out with
    |ok v =>
     simp only at hk2
     obtain⟨e,a1,H1,hr,hq⟩:=wpOps_sound rest (k+1) _ H2 hd' hk2
     refine⟨e,a1,H1,?_,hq⟩
     intro ρ w F n Q hF hFr hro r hs hQ
     simp only[zB0,List.range'_succ,wpOpsIn,hk]
     rw[want_run ρ hw,if_pos rfl]
     refine hop ρ w r hs _ (fun _ _=>rfl) F n _ _ hF ?_
     intro ρ1 w1 hst hsc
     rw[<-act_ext hst.ext hs,act_put]
     refine hr ρ1 w1 F n Q hF (round_ext hFr hro hst) (fun l hl=>zC3 (hro l hl) hst.le.next) hst.rel ((hs.mono hst.le.next).put _ hsc) ?_
     intro ρ2 w2 hst2 h1 h2
     exact hQ ρ2 w2 (hst.trans hst2) h1 h2
    |error ch =>
     refine⟨.panic ch,a,H2,?_,hk2⟩
     intro ρ w F n Q hF hFr hro r hs hQ
     simp only[zB0,List.range'_succ,wpOpsIn,hk]
     rw[want_run ρ hw,if_pos rfl]
     refine hop ρ w r hs _ (fun _ _=>rfl) F n _ _ hF ?_
     intro ρ1 w1 hst hsc
     have:=hQ ρ1 w1 hst (hs.mono hst.le.next) hsc
     rw[act_ext hst.ext hs]at this
     exact this
  ·rename_i hw
   obtain⟨e,a1,H1,hr,hq⟩:=wpOps_sound rest (k+1) _ H hd' h
   refine⟨e,a1,H1,?_,hq⟩
   intro ρ w F n Q hF hFr hro r hs hQ
   simp only[zB0,List.range'_succ,wpOpsIn,hk]
   rw[want_run ρ hw]
   simp only[zB7,if_false]
   refine⟨fun f _=>hF.fn f,?_⟩
   have hp:=act_put ρ a o.dst undef
   rw[Ren.val_undef]at hp
   rw[hp]
   exact hr ρ w F n Q hF hFr hro r (hs.put _ (scb_undef _)) hQ
  ·exact h.elim
def wpDraw (P:Program) (ops:Array Oper) (anc:List Nat):List Oper->Nat->List Fp->AAct->AHeap->(AAct->AHeap->Prop)->Prop
 |[],_,_,a,H,Q=>Q a H
 |o::rest,i,fps,a,H,Q =>
  match wantA ops a o with
  |some true=>∃ F v g,OpS P a (H.restrict F) o (.ok v) g/\(∀ n∈F,H.get n≠none)/\(∀ n∈g.dirty,n∈F)/\(∀ r∈fps,fpOk (anc.getD i 0) F v g H.next r=true) /\
    wpDraw P ops anc rest (i+1) (⟨i,F,g.dirty,H.next,g.next⟩::fps) (a.put o.dst v) (H.merge g) Q
  |some false=>wpDraw P ops anc rest (i+1) fps (a.put o.dst undef) H Q
  |none=>False
theorem wpDraw_text {ops:Array Oper} {anc:List Nat} {Q:AAct->AHeap->Prop}:∀ (rest:List Oper) (k:Nat) (fps:List Fp) (a:AAct) (H:AHeap),
  (∃ ys,ops.toList.drop k=rest++ys)->wpDraw P ops anc rest k fps a H Q ->
  ∃ (D:Nat->OpD) (A:Nat->AAct) (HH:Nat->AHeap),A k=a/\HH k=H/\Q (A (k+rest.length)) (HH (k+rest.length)) /\
   (∀ i,k<=i->i<k+rest.length->OpFact P ops D A HH i) /\
   (∀ i j,k<=i->i<j->j<k+rest.length->(D i).on=true->PairFact anc D HH j (fpAt D HH i)) /\
   (∀ r∈fps,∀ j,k<=j->j<k+rest.length->PairFact anc D HH j r)/\(∀ i,(D i).bad=false)
 |[],k,fps,a,H,_,h=>by
  refine⟨fun _=>⟨false,undef,[],H,false⟩,fun _=>a,fun _=>H,rfl,rfl,h,?_,?_,?_,fun _=>rfl⟩
  ·intro i h1 h2; simp at h2; omega
  ·intro i j h1 h2 h3; simp at h3; omega
  ·intro r _ j h1 h2; simp at h2; omega
 |o::rest,k,fps,a,H,hd,h=>by
  obtain⟨ys,hd⟩:=hd
  have hk:ops[k]?=some o:=by
   have:=congrArg (·[0]?) hd
   simpa using this
  have hd':∃ ys,ops.toList.drop (k+1)=rest++ys:=⟨ys,by
   have:=congrArg List.tail hd
   simpa using this⟩
  have build:∀ (d:OpD) (fps':List Fp) (H2:AHeap),(∀ r∈fps,r∈fps')->wpDraw P ops anc rest (k+1) fps' (a.put o.dst d.v) H2 Q ->
    wantA ops a o=some d.on->d.bad=false ->
    (d.on=true->OpS P a (H.restrict d.F) o (.ok d.v) d.g/\(∀ n∈d.F,H.get n≠none)/\(∀ n∈d.g.dirty,n∈d.F)/\H2=H.merge d.g/\(⟨k,d.F,d.g.dirty,H.next,d.g.next⟩:Fp)∈fps' /\
     ∀ r∈fps,fpOk (anc.getD k 0) d.F d.v d.g H.next r=true) ->
    (d.on=false->d.v=undef/\H2=H) ->
    ∃ (D:Nat->OpD) (A:Nat->AAct) (HH:Nat->AHeap),A k=a/\HH k=H/\Q (A (k+(o::rest).length)) (HH (k+(o::rest).length)) /\
     (∀ i,k<=i->i<k+(o::rest).length->OpFact P ops D A HH i) /\
     (∀ i j,k<=i->i<j->j<k+(o::rest).length->(D i).on=true->PairFact anc D HH j (fpAt D HH i)) /\
     (∀ r∈fps,∀ j,k<=j->j<k+(o::rest).length->PairFact anc D HH j r)/\(∀ i,(D i).bad=false):=by
   intro d fps' H2 hsub hrun hwant hbad hon hoff
   obtain⟨D,A,HH,e1,e2,e3,f1,f2,f3,f4⟩:=wpDraw_text rest (k+1) fps' _ H2 hd' hrun
   have hlen:k+(o::rest).length=k+1+rest.length:=by simp only[zB0]; omega
   refine⟨fun i=>if i=k then d else D i,fun i=>if i=k then a else A i,fun i=>if i=k then H else HH i,by simp,by simp,?_,?_,?_,?_,fun i=>by by_cases e:i=k<;>simp[e,hbad,f4]⟩
   ·rw[hlen]; show Q (if k+1+rest.length=k then a else A (k+1+rest.length)) (if k+1+rest.length=k then H else HH (k+1+rest.length))
    rw[if_neg (by omega),if_neg (by omega)]; exact e3
   ·intro i h1 h2
    rw[hlen]at h2
    by_cases e:i=k
    ·subst e
     refine⟨o,hk,?_,?_,?_,?_⟩
     ·simp only[if_pos,if_neg (show ¬i+1=i by omega)]; rw[e1]
     ·simp only[if_pos]; exact fun _=>hwant
     ·simp only[if_pos,if_neg (show ¬i+1=i by omega)]
      intro h; obtain⟨x1,x2,x3,x4,_⟩:=hon h
      exact⟨x1,x2,x3,by rw[e2]; exact x4⟩
     ·simp only[if_pos,if_neg (show ¬i+1=i by omega)]
      intro h; obtain⟨x1,x2⟩:=hoff h
      exact⟨x1,by rw[e2]; exact x2⟩
    ·obtain⟨o',y1,y2,y3,y4,y5⟩:=f1 i (by omega) h2
     refine⟨o',y1,?_,?_,?_,?_⟩
     ·simp only[if_neg e,if_neg (show ¬i+1=k by omega)]; exact y2
     ·simp only[if_neg e]; exact y3
     ·simp only[if_neg e,if_neg (show ¬i+1=k by omega)]; exact y4
     ·simp only[if_neg e,if_neg (show ¬i+1=k by omega)]; exact y5
   ·intro i j h1 h2 h3 h4
    rw[hlen]at h3
    have hj:¬j=k:=by omega
    by_cases e:i=k
    ·subst e
     simp only[if_pos]at h4
     obtain⟨_,_,_,_,x5,_⟩:=hon h4
     have:=f3 _ x5 j (by omega) h3
     simp only[PairFact,fpAt,if_neg hj,if_pos]at this ⊢
     exact this
    ·simp only[if_neg e]at h4
     have:=f2 i j (by omega) h2 h3 h4
     simp only[PairFact,fpAt,if_neg hj,if_neg e]at this ⊢
     exact this
   ·intro r hr j h1 h2
    rw[hlen]at h2
    by_cases e:j=k
    ·subst e
     simp only[PairFact,if_pos]
     intro h
     exact (hon h).2.2.2.2.2 r hr
    ·have:=f3 r (hsub r hr) j (by omega) h2
     simp only[PairFact,if_neg e]at this ⊢
     exact this
  simp only[wpDraw]at h
  split at h
  ·rename_i hw
   obtain⟨F,v,g,x1,x2,x3,x4,h⟩:=h
   exact build ⟨true,v,F,g,false⟩ _ _ (fun r hr=>zB5 _ hr) h hw rfl (fun _=>⟨x1,x2,x3,rfl,zB9 ..,x4⟩) (fun h=>by cases h)
  ·rename_i hw
   exact build ⟨false,undef,[],H,false⟩ fps H (fun r hr=>hr) h hw rfl (fun h=>by cases h) (fun _=>⟨rfl,rfl⟩)
  ·exact h.elim
theorem wpDraw_sound (hmix:P.follows .mixedOrders=true) {ops:Array Oper} {id:Nat} (hst:staticOk ops=true) {Q:AAct->AHeap->Prop} (h:wpDraw P ops (ancs ops) ops.toList 0 [] a H Q) :
  ∃ a1 H1,Runs P ro (.region id ops true) a H .normal a1 H1/\Q a1 H1:=by
 obtain⟨D,A,HH,e1,e2,e3,f1,f2,_,hnb⟩:=wpDraw_text ops.toList 0 [] a H ⟨[],by simp⟩ h
 simp only[zC0,Array.length_toList]at e3 f1 f2
 refine⟨_,_,?_,e3⟩
 intro ρ w F n Q hF hFr hro r hs hQ
 have hfact:∀ i,i<ops.size->OpFact P ops D A HH i:=fun i hi=>f1 i (zA9 _) hi
 have hex:=text_ex r (ops:=ops) (D:=D) (A:=A) (HH:=HH) (m:=ops.size) e2 (by rw[e1]; exact hs) hfact
 have T:Txt P ops D A HH ρ w:=by
  refine⟨by rw[e2]; exact r,by rw[e2,e1]; exact hs,hfact,fun i j hij hj hi=>f2 i j (zA9 _) hij hj hi,fun j oj hoj=>static_spec ops.toList 0 (by simp) hst j oj (zA9 _) hoj,?_⟩
  rw[e2]; exact hex
 obtain⟨ρm,wm,hstm,hsa⟩:=hex ops.size (zA8 _)
 refine wpIn_region_any hmix ?_
 have hX0:∀ j,listedX (Array.replicate ops.size false) j=false:=fun j=>by
  unfold listedX
  rw[Array.getD_eq_getD_getElem?,Array.getElem?_replicate]
  split<;>rfl
 obtain⟨I,ha⟩:=inv_start (w:={w with drawn:=w.drawn+1}) T hX0 rfl rfl rfl rfl
 have:=any_run T (n:=n) hF (Q:=Q) (fun i hi h=>by rw[hnb]at h; cases h) (fun i o hi h=>by rw[hnb]at h; cases h) (fun _ ρ1 w1 h1=>by
  rw[e2]at h1
  exact hQ ρ1 w1 h1 hsa trivial) ops.size (Array.replicate ops.size false) ρ _ (by simp) (by unfold left; exact zB8 (List.length_filter_le _ _) (by simp)) (fun j oj _ hX=>by rw[hX0]at hX; cases hX) (fun j _=>hnb j) I
 rw[ha,e1]at this
 exact this
def isDef:Op->Bool
 |.defer _=>true
 |_=>false
theorem wpDrawP_sound (hmix:P.follows .mixedOrders=true) {ops:Array Oper} {id:Nat} (hst:staticOk ops=true) {l:List Oper} {o:Oper} (hsplit:ops.toList=l++[o])
  (hanc:(List.range (ops.size-1)).all (fun j=>((ancs ops).getD (ops.size-1) 0).testBit j)=true) (hdf:isDef o.op=false) {Q:Exit->AAct->AHeap->Prop} (h:wpDraw P ops (ancs ops) l 0 [] a H fun a1 H1=>wantA ops a1 o=some true/\wpOps P ro ops [o] a1 H1 Q) :
  ∃ e a1 H1,Runs P ro (.region id ops true) a H e a1 H1/\Q e a1 H1:=by
 obtain⟨D,A,HH,e1,e2,⟨hw,e3⟩,f1,f2,_,hnb⟩:=wpDraw_text l 0 [] a H ⟨[o],by simpa using hsplit⟩ h
 obtain⟨a2,ha2⟩:=Go.Ax.exq (A (0+l.length))
 obtain⟨H2,hH2⟩:=Go.Ax.exq (HH (0+l.length))
 rw[ha2,hH2]at e3
 rw[ha2]at hw
 have key:opA P o.op a2 H2 (fun out H1=>match out with
   |.ok v=>wpOps P ro ops [] (a2.put o.dst v) H1 Q
   |.error ch=>Q (.panic ch) a2 H1)->∃ e a1 H1,Runs P ro (.region id ops true) a H e a1 H1/\Q e a1 H1:=by
  intro ho
  obtain⟨out,H3,hop,hq⟩:=opA_sound (o:=o) ho
  cases out with
  |ok v =>
   refine⟨.normal,a2.put o.dst v,H3,?_,hq⟩
   intro ρ w F n Q' hF hFr hro r hs hQ
   exact last_core hmix hst hsplit hanc e1 e2 ha2 hH2 f1 f2 hnb hw hop r hs hF (fun ρ1 w1 h1 h2=>hQ ρ1 w1 h1 h2 trivial)
  |error ch =>
   refine⟨.panic ch,a2,H3,?_,hq⟩
   intro ρ w F n Q' hF hFr hro r hs hQ
   exact panic_core hmix hst hsplit hanc e1 e2 ha2 hH2 f1 f2 hnb hw hop r hs hF hQ
 simp only[wpOps,hw]at e3
 have hnd:aDefer P a2 o.op=none:=by
  cases ho:o.op with
  |defer c=>rw[ho]at hdf; cases hdf
  |_=>rfl
 rw[hnd]at e3
 cases ro with
 |none=>exact key e3
 |some r=>exact key e3
def pendE:Option Code->Option Exit
 |none=>some .normal
 |some .ret=>some .ret
 |some (.exit id)=>some (.exit id)
 |some (.goto l)=>some (.goto l)
 |_=>none
def rangeA (P:Program) (ro:Option Nat) (fv:Value) (ps:Array Tmp) (assign body:Code) (a:AAct) (H:AHeap) (Q:Exit->AAct->AHeap->Prop):Prop :=
 match fv with
 |.func fn first captured =>
  (match enterLoop ro a ps assign body H with
  |some (l,mark,H1) =>
   (match aInvoke P H1 fn (first.toList++[.func (.yield l) #[] #[]]) captured.toList with
   |some (.enter g args)=>CallA P g args H1 fun out H2=>match out with
    |.ok _=>∃ lp le e,getLoop H2 l=some (lp,le)/\lp.state≠.busy/\pendE lp.pending=some e/\Q e ⟨a.env,mark++a.defers⟩ (setLoop H2 l {lp with state:=.exhausted} le)
    |.error ch=>Q (.panic ch) ⟨a.env,mark++a.defers⟩ H2
   |_=>False)
  |none=>False)
 |_=>False
theorem Runs.pend {c:Code} {e:Exit} (h:pendE (some c)=some e):Runs P ro c a H e a H:=by
 unfold pendE at h
 split at h
 ·rename_i hc; cases hc
 ·rename_i hc; cases hc; simp only[Option.some.injEq]at h; subst h; exact Runs.ret
 ·rename_i hc; cases hc; simp only[Option.some.injEq]at h; subst h; exact Runs.exit
 ·rename_i hc; cases hc; simp only[Option.some.injEq]at h; subst h; exact Runs.goto
 ·cases h
theorem rangeA_sound {g:Operand} {fv:Value} {ps:Array Tmp} {assign body:Code} {Q:Exit->AAct->AHeap->Prop} (hg:aeval P a g=some fv) (h:rangeA P ro fv ps assign body a H Q) :
  ∃ e a1 H1,Runs P ro (.rangeFunc g ps assign body) a H e a1 H1/\Q e a1 H1:=by
 unfold rangeA at h
 split at h
 ·rename_i fn first captured
  split at h
  ·rename_i l mark H2 hen
   split at h
   ·rename_i f args hres
    obtain⟨out,H3,hcall,h⟩:=h
    have key:∀ (e:Exit) (H1:AHeap),(match out with
      |.ok _=>∃ lp le,getLoop H3 l=some (lp,le)/\lp.state≠.busy/\pendE lp.pending=some e/\H1=setLoop H3 l {lp with state:=.exhausted} le
      |.error ch=>e=.panic ch/\H1=H3)->Runs P ro (.rangeFunc g ps assign body) a H e ⟨a.env,mark++a.defers⟩ H1:=by
     intro e H1 hout ρ w F n Q hF hFr hro r hs hQ
     refine wpIn_rangeFunc (fun fnid _=>?_)
     obtain⟨ρ1,w1,s1,hrun,hl,hmk⟩:=enterLoop_run r hro hs.1 hen fnid
     obtain⟨ρ2,w2,s2,hinv⟩:=aInvoke_run s1.rel hres
     have hfsc:=aeval_sc r.glob.1 hs hg
     have hf2:=func_sc (scb_mono s1.le.next _ hfsc)
     have hsa0:scbL H2.next args=true:=aInvoke_sc s1.rel.doms hf2.1 (scbL_append hf2.2.1 (by simp only[scbL,scb,scbA,Bool.and_true]; exact blt_of hl)) hf2.2.2 hres
     have hfv:(ρ.act a).eval g=ρ1.val (.func fn first captured):=by rw[aeval_run r hg,val_ext s1.ext _ hfsc]
     have e1:ρ1.val (.func fn first captured)=.func (ρ1.fn fn) (first.map ρ1.val) (captured.map ρ1.val):=by rw[Ren.val,Ren.valA_eq,Ren.valA_eq]
     have e2:first.map ρ1.val++#[(.func (.yield (ρ1.blk l)) #[] #[]:Value)]=((first.toList++[(.func (.yield l) #[] #[]:Value)]).map ρ1.val).toArray:=by
      apply Array.ext'
      simp[Ren.val,Ren.fn,Ren.valA,Ren.valL]
     have e3:captured.map ρ1.val=(captured.toList.map ρ1.val).toArray:=by apply Array.ext'; simp
     simp only[NRun]at hinv
     have hs1:scA H2.next a:=hs.mono s1.le.next
     have hs2:scA H2.next {a with defers:=mark++a.defers}:=⟨hs1.1,fun d hd=>by
      rcases zC9.1 hd with hd|hd
      ·exact hmk d hd
      ·exact hs1.2 d hd⟩
     have hsame:({ρ.act a with defers:=mark.map ρ1.dfr++(ρ.act a).defers}:Act)=ρ1.act {a with defers:=mark++a.defers}:=by
      have h1:=act_ext s1.ext hs
      have h2:(ρ.act a).tmps=ρ1.tmps a.env:=by rw[<-h1]; rfl
      have h3:(ρ.act a).defers=a.defers.map ρ1.dfr:=by rw[<-h1]; rfl
      show (⟨(ρ.act a).tmps,mark.map ρ1.dfr++(ρ.act a).defers⟩:Act)=⟨ρ1.tmps a.env,(mark++a.defers).map ρ1.dfr⟩
      rw[h2,h3,List.map_append]
     refine⟨ρ1.blk l,mark.map ρ1.dfr,w1,{target:=.fn (ρ1.fn fn) (captured.map ρ1.val),args:=first.map ρ1.val++#[(.func (.yield (ρ1.blk l)) #[] #[]:Value)]},w1,f,_,w2,?_,?_,fun f' _=>hF.fn f',?_,hF.deep,hcall ρ2 w2 s2.rel hsa0 F _ _ hF ?_⟩
     ·rw[hFr]; exact hrun
     ·simp only[resolve,hfv,e1]
      simp[Act.eval,Deferred.ofValue]
     ·simp only[e2,e3]; exact hinv
     ·intro ρ3 w3 s3
      have hn2:H2.next<=H3.next:=(s2.trans s3).le.next
      have hl3:l<H3.next:=by omega
      have hlb:ρ3.blk l=ρ1.blk l:=((s2.trans s3).ext.blk l hl)
      have hs3:scA H3.next {a with defers:=mark++a.defers}:=hs2.mono hn2
      have hact3:ρ3.act {a with defers:=mark++a.defers}=ρ1.act {a with defers:=mark++a.defers}:=act_ext (s2.trans s3).ext hs2
      have stot:=(s1.trans s2).trans s3
      cases out with
      |ok v =>
       obtain⟨lp,le,hlp,hnb,hpe,rfl⟩:=hout
       obtain⟨fn3,hgl,w4,hset,s4⟩:=setLoop_run s3.rel (lp':={lp with state:=.exhausted}) hlp rfl
       rw[hlb]at hgl hset
       have hn4:(setLoop H3 l {lp with state:=.exhausted} le).next=H3.next:=rfl
       have hendl:(Instr.endLoop (ρ1.blk l)).run P w3=.ok lp.pending w4:=by
        have hb:(lp.state == .busy)=false:=by simpa using hnb
        simp only[Instr.endLoop,Sem.run_bind,hgl,Result.andThen_ok,hb,zB7,if_false]
        rw[show ({({lp with fn:=fn3,tmps:=ρ3.tmps le,defers:=ρ3.blk lp.defers}:Loop) with state:=.exhausted}:Loop) =
         {({lp with state:=.exhausted}:Loop) with fn:=fn3,tmps:=ρ3.tmps le,defers:=ρ3.blk lp.defers} from rfl,hset]
        simp
       intro _
       refine⟨lp.pending,w4,hendl,?_⟩
       rw[hsame,<-hact3]
       have hro4:∀ l0,ro=some l0->l0<(setLoop H3 l {lp with state:=.exhausted} le).next:=fun l0 h0=>by
        rw[hn4]; exact zC3 (hro l0 h0) stot.le.next
       have hFr4:F.round=ro.map ρ3.blk:=round_ext hFr hro stot
       generalize setLoop H3 l {lp with state:=.exhausted} le=H4 at s4 hn4 hro4 hQ
       split
       ·rename_i hpn
        rw[hpn]at hpe
        simp only[pendE,Option.some.injEq]at hpe
        subst hpe
        exact hQ ρ3 w4 (stot.trans s4) (hs3.mono (Nat.le_of_eq hn4.symm)) trivial
       ·rename_i c hpc
        rw[hpc]at hpe
        refine Runs.pend (P:=P) (ro:=ro) hpe ρ3 w4 F n Q hF hFr4 hro4 s4.rel (hs3.mono (Nat.le_of_eq hn4.symm)) ?_
        intro ρ5 w5 s5 h1 h2
        exact hQ ρ5 w5 ((stot.trans s4).trans s5) h1 h2
      |error ch =>
       intro hch
       obtain⟨rfl,rfl⟩:=hout
       show Q (.panic (ch.map ρ3.pe)) _ w3
       rw[hsame,<-hact3]
       exact hQ ρ3 w3 stot hs3 hch
    cases out with
    |ok v =>
     obtain⟨lp,le,e,h1,h2,h3,h4⟩:=h
     exact⟨e,_,_,key e _ ⟨lp,le,h1,h2,h3,rfl⟩,h4⟩
    |error ch=>exact⟨_,_,_,key _ _ ⟨rfl,rfl⟩,h⟩
   ·exact h.elim
  ·exact h.elim
 ·exact h.elim
def roundsA (W:(Exit->AAct->AHeap->Prop)->AAct->AHeap->Prop) (Q:Exit->AAct->AHeap->Prop):Nat->AAct->AHeap->Prop
 |0,_,_=>False
 |m+1,a,H=>W (fun e a1 H1=>match e with
  |.normal=>roundsA W Q m a1 H1
  |e=>Q e a1 H1) a H
def seqQ (W:AAct->AHeap->Prop) (Q:Exit->AAct->AHeap->Prop):Exit->AAct->AHeap->Prop
 |.normal,a,H=>W a H
 |e,a,H=>Q e a H
def scopeQ (Q:Exit->AAct->AHeap->Prop):Exit->AAct->AHeap->Prop
 |.goto _,_,_=>False
 |e,a,H=>Q e a H
def condA (v:Option Value) (X Y:Prop):Prop :=
 match v with
 |some (.bool true)=>X
 |some (.bool false)=>Y
 |_=>False
def wpA (P:Program) (ro:Option Nat):Code->(Exit->AAct->AHeap->Prop)->AAct->AHeap->Prop
 |.skip,Q,a,H=>Q .normal a H
 |.label _,Q,a,H=>Q .normal a H
 |.exit id,Q,a,H=>Q (.exit id) a H
 |.goto l,Q,a,H=>Q (.goto l) a H
 |.ret,Q,a,H=>Q .ret a H
 |.seq x y,Q,a,H=>wpA P ro x (seqQ (fun a1 H1=>wpA P ro y Q a1 H1) Q) a H
 |.cond c x y,Q,a,H=>condA (aeval P a c) (wpA P ro x Q a H) (wpA P ro y Q a H)
 |.block id b,Q,a,H=>wpA P ro b (fun e a1 H1=>Q (outB id e) a1 H1) a H
 |.scope b,Q,a,H=>wpA P ro b (scopeQ Q) a H
 |.loop b,Q,a,H=>∃ m,roundsA (fun Q' a' H'=>wpA P ro b Q' a' H') Q m a H
 |.region _ ops draw,Q,a,H=>(match draw with
  |true=>staticOk ops=true/\(wpDraw P ops (ancs ops) ops.toList 0 [] a H (Q .normal)\/∃ l o,ops.toList=l++[o]/\(List.range (ops.size-1)).all (fun j=>((ancs ops).getD (ops.size-1) 0).testBit j)=true/\isDef o.op=false/\wpDraw P ops (ancs ops) l 0 [] a H fun a1 H1=>wantA ops a1 o=some true/\wpOps P ro ops [o] a1 H1 Q)
  |false=>wpOps P ro ops ops.toList a H Q)
 |.rangeFunc f ps assign body,Q,a,H=>(match aeval P a f with
  |some fv=>rangeA P ro fv ps assign body a H Q
  |none=>False)
 |.refuse _,_,_,_=>False
theorem wpA_sound (hmix:P.follows .mixedOrders=true):∀ (c:Code) (Q:Exit->AAct->AHeap->Prop) (a:AAct) (H:AHeap),wpA P ro c Q a H->∃ e a1 H1,Runs P ro c a H e a1 H1/\Q e a1 H1:=by
 intro c
 induction c with
 |skip=>exact fun Q a H h=>⟨_,_,_,Runs.skip,h⟩
 |label l=>exact fun Q a H h=>⟨_,_,_,Runs.label,h⟩
 |exit id=>exact fun Q a H h=>⟨_,_,_,Runs.exit,h⟩
 |goto l=>exact fun Q a H h=>⟨_,_,_,Runs.goto,h⟩
 |ret=>exact fun Q a H h=>⟨_,_,_,Runs.ret,h⟩
 |seq x y ihx ihy =>
  intro Q a H h
  simp only[wpA]at h
  obtain⟨e,a2,H2,hx,h2⟩:=ihx _ a H h
  cases e with
  |normal =>
   obtain⟨e,a1,H1,hy,h3⟩:=ihy Q a2 H2 h2
   exact⟨e,a1,H1,hx.seq hy,h3⟩
  |exit id=>exact⟨_,a2,H2,hx.seq_out (by simp),h2⟩
  |goto l=>exact⟨_,a2,H2,hx.seq_out (by simp),h2⟩
  |ret=>exact⟨_,a2,H2,hx.seq_out (by simp),h2⟩
  |panic ch=>exact⟨_,a2,H2,hx.seq_out (by simp),h2⟩
  |outgrown=>exact⟨_,a2,H2,hx.seq_out (by simp),h2⟩
 |cond c x y ihx ihy =>
  intro Q a H h
  simp only[wpA,condA]at h
  split at h
  ·rename_i hc
   obtain⟨e,a1,H1,hx,h2⟩:=ihx Q a H h
   exact⟨e,a1,H1,Runs.cond hc hx,h2⟩
  ·rename_i hc
   obtain⟨e,a1,H1,hx,h2⟩:=ihy Q a H h
   exact⟨e,a1,H1,Runs.cond hc hx,h2⟩
  ·exact h.elim
 |block id b ih =>
  intro Q a H h
  simp only[wpA]at h
  obtain⟨e,a1,H1,hx,h2⟩:=ih _ a H h
  exact⟨_,a1,H1,hx.block,h2⟩
 |scope b ih =>
  intro Q a H h
  simp only[wpA]at h
  obtain⟨e,a1,H1,hx,h2⟩:=ih _ a H h
  cases e with
  |goto l=>exact h2.elim
  |normal=>exact⟨_,a1,H1,hx.scope (by simp),h2⟩
  |exit id=>exact⟨_,a1,H1,hx.scope (by simp),h2⟩
  |ret=>exact⟨_,a1,H1,hx.scope (by simp),h2⟩
  |panic ch=>exact⟨_,a1,H1,hx.scope (by simp),h2⟩
  |outgrown=>exact⟨_,a1,H1,hx.scope (by simp),h2⟩
 |loop b ih =>
  intro Q a H h
  simp only[wpA]at h
  obtain⟨m,h⟩:=h
  have key:∀ (m:Nat) (a:AAct) (H:AHeap),roundsA (fun Q' a' H'=>wpA P ro b Q' a' H') Q m a H->∃ e a1 H1,RoundsR P ro b m a H e a1 H1/\Q e a1 H1:=by
   intro m
   induction m with
   |zero=>exact fun a H h=>h.elim
   |succ m ihm =>
    intro a H h
    simp only[roundsA]at h
    obtain⟨e,a2,H2,hx,h2⟩:=ih _ a H h
    cases e with
    |normal =>
     obtain⟨e,a1,H1,hy,h3⟩:=ihm a2 H2 h2
     exact⟨e,a1,H1,hy.next hx,h3⟩
    |exit id=>exact⟨_,a2,H2,RoundsR.last hx (by simp),h2⟩
    |goto l=>exact⟨_,a2,H2,RoundsR.last hx (by simp),h2⟩
    |ret=>exact⟨_,a2,H2,RoundsR.last hx (by simp),h2⟩
    |panic ch=>exact⟨_,a2,H2,RoundsR.last hx (by simp),h2⟩
    |outgrown=>exact⟨_,a2,H2,RoundsR.last hx (by simp),h2⟩
  obtain⟨e,a1,H1,hx,h2⟩:=key m a H h
  exact⟨e,a1,H1,Runs.loop hx,h2⟩
 |region id ops draw =>
  intro Q a H h
  simp only[wpA]at h
  cases draw with
  |true =>
   obtain⟨hst,h|⟨l,o,hsp,hanc,hdf,h⟩⟩:=h
   ·obtain⟨a1,H1,hr,hq⟩:=wpDraw_sound (ro:=ro) (id:=id) hmix hst h
    exact⟨_,a1,H1,hr,hq⟩
   ·exact wpDrawP_sound hmix hst hsp hanc hdf h
  |false =>
   obtain⟨e,a1,H1,hr,hq⟩:=wpOps_sound ops.toList 0 a H (by simp) h
   refine⟨e,a1,H1,?_,hq⟩
   intro ρ w F n Q' hF hFr hro r hs hQ
   refine wpIn_region ?_
   rw[List.range_eq_range']
   have:=hr ρ w F n Q' hF hFr hro r hs hQ
   simpa using this
 |rangeFunc f ps assign body _ _ =>
  intro Q a H h
  simp only[wpA]at h
  split at h
  ·rename_i fv hfv
   exact rangeA_sound hfv h
  ·exact h.elim
 |refuse s=>exact fun Q a H h=>h.elim
def recX (P:Program):Rec:=exec P (fun _ _ _=>none) 60
theorem recX_sound (hmix:P.follows .mixedOrders=true):Sound P (recX P):=(exec_sound hmix (fun _ _ _ _ h=>(by cases h)) 60).1
def leaveA (P:Program) (fn:Func) (a1:AAct):List Deferred->FrameMode->AHeap->(Out->AHeap->Prop)->Prop
 |[],.returning,H,R=>∃ vs,resVal P H a1 fn.results.toList=some vs/\R (.ok (tup vs)) H
 |[],.panicking ch,H,R=>R (.error ch) H
 |⟨.collected r,_⟩::ds,.returning,H,R=>(∃ o v,H.get r=some ⟨.deferred (some []),o,v⟩)/\leaveA P fn a1 ds .returning (H.upd r (some ⟨.deferred none,false,⟨[],0⟩⟩)) R
 |⟨.collected r,_⟩::ds,.panicking ch,H,R=>(∃ o v,H.get r=some ⟨.deferred (some []),o,v⟩)/\leaveA P fn a1 ds (.panicking ch) (H.upd r (some ⟨.deferred none,false,⟨[],0⟩⟩)) R
 |⟨.fn (.func f) cap,as0⟩::ds,.returning,H,R=>hasBody P f=true/\∃ v u1 H1,enterD P (recX P) f (as0.toList++cap.toList) .returning H=some (.ok v,u1,H1)/\leaveA P fn a1 ds (settle u1) H1 R
 |⟨.fn (.func f) cap,as0⟩::ds,.panicking ch,H,R=>hasBody P f=true/\∃ v u1 H1,enterD P (recX P) f (as0.toList++cap.toList) (.panicking ch) H=some (.ok v,u1,H1)/\leaveA P fn a1 ds (settle u1) H1 R
 |_,_,_,_=>False
def endA (P:Program) (fn:Func) (R:Out->AHeap->Prop):Exit->AAct->AHeap->Prop
 |.normal,a1,H1=>leaveA P fn a1 a1.defers .returning H1 R
 |.ret,a1,H1=>leaveA P fn a1 a1.defers .returning H1 R
 |.panic ch,a1,H1=>leaveA P fn a1 a1.defers (.panicking ch) H1 R
 |_,_,_=>False
theorem leaveA_leave {fn:Func} {R:Out->AHeap->Prop}:∀ (ds:List Deferred) (u:FrameMode) (H:AHeap),leaveA P fn a1 ds u H R->∃ out H1,leaveF P (recX P) fn a1 ds u H=some (out,H1)/\R out H1
 |[],.returning,H,⟨vs,h1,h3⟩=>⟨_,_,by simp only[leaveF,h1,zA5]; exact⟨rfl,h3⟩⟩
 |[],.panicking ch,H,h=>⟨_,_,rfl,h⟩
 |[],.run,H,h=>h.elim
 |⟨.collected r,_⟩::ds,.returning,H,⟨⟨o,v,hg⟩,h⟩=>by
  obtain⟨out,H1,h1,h2⟩:=leaveA_leave ds .returning _ h
  exact⟨out,H1,by simp only[leaveF,hg]; exact h1,h2⟩
 |⟨.collected r,_⟩::ds,.panicking ch,H,⟨⟨o,v,hg⟩,h⟩=>by
  obtain⟨out,H1,h1,h2⟩:=leaveA_leave ds (.panicking ch) _ h
  exact⟨out,H1,by simp only[leaveF,hg]; exact h1,h2⟩
 |⟨.collected r,_⟩::ds,.run,H,h=>h.elim
 |⟨.fn (.func f) cap,as0⟩::ds,.returning,H,⟨hb,v,u1,H1,he,h⟩=>by
  obtain⟨out,H2,h1,h2⟩:=leaveA_leave ds _ _ h
  exact⟨out,H2,by simp only[leaveF,hb,if_true,he]; exact h1,h2⟩
 |⟨.fn (.func f) cap,as0⟩::ds,.panicking ch,H,⟨hb,v,u1,H1,he,h⟩=>by
  obtain⟨out,H2,h1,h2⟩:=leaveA_leave ds _ _ h
  exact⟨out,H2,by simp only[leaveF,hb,if_true,he]; exact h1,h2⟩
 |⟨.fn (.func f) cap,as0⟩::ds,.run,H,h=>h.elim
 |⟨.fn (.yield _) _,_⟩::_,u,H,h=>by cases u<;>exact h.elim
 |⟨.nil,_⟩::_,u,H,h=>by cases u<;>exact h.elim
 |⟨.builtin ..,_⟩::_,u,H,h=>by cases u<;>exact h.elim
 |⟨.coroexit ..,_⟩::_,u,H,h=>by cases u<;>exact h.elim
theorem CallA.mono {f:FuncId} {args:List Value} {R R':Out->AHeap->Prop} (h:CallA P f args H R) (hR:∀ out H1,R out H1->R' out H1):CallA P f args H R' :=
 let ⟨out,H1,h1,h3⟩:=h; ⟨out,H1,h1,hR _ _ h3⟩
end
abbrev Env:=Nat->Value
def upd (E:Env) (d:Nat) (v:Value):Env:=fun t=>if t=d then v else E t
theorem upd_same (E:Env) (d:Nat) (v:Value):upd E d v d=v:=by simp[upd]
theorem upd_ne (E:Env) {d t:Nat} (v:Value) (h:t≠d):upd E d v t=E t:=by simp[upd,h]
def env0:Env:=fun _=>undef
def entryE (E:Env) (k:Nat):List Value->Env
 |[]=>E
 |v::r=>entryE (upd E k v) (k+1) r
def chunk (E:Env) (k m:Nat):List Value:=(List.range m).map fun i=>E (k+i)
def chunks (E:Env) (k:Nat):Nat->List (List Value)
 |0=>[]
 |m+1=>chunk E k 16::chunks E (k+16) m
def rvOf (N:Nat) (E:Env):RV:=⟨chunks (fun t=>if t<N then E t else undef) 0 (N / 16+1),N⟩
theorem chunks_get (E:Env):∀ (m k i:Nat),i<m->(chunks E k m).getD i []=chunk E (k+16*i) 16
 |0,_,_,h=>by omega
 |m+1,k,0,_=>by simp[chunks]
 |m+1,k,i+1,h=>by
  have:=chunks_get E m (k+16) i (by omega)
  simp only[chunks,List.getD_cons_succ,this]
  congr 1; omega
theorem chunk_get (E:Env) (k m i:Nat) (h:i<m):(chunk E k m).getD i undef=E (k+i):=by
 simp[chunk,List.getD,h]
theorem rvOf_get (N:Nat) (E:Env) (t:Nat) (h:t<N):(rvOf N E).get t=E t:=by
 unfold rvOf RV.get
 simp only
 rw[chunks_get _ _ _ _ (by have:=Nat.div_le_div_right (c:=16) (Nat.le_of_lt h); omega),chunk_get _ _ _ _ (Nat.mod_lt _ (by omega))]
 have:0+16*(t / 16)+t % 16=t:=by omega
 rw[this,if_pos h]
def mkA (N:Nat) (E:Env) (ds:List Deferred):AAct:=⟨rvOf N E,ds⟩
theorem lset_map {α:Type} (d:α) (f:Nat->α) (v:α):∀ (m i:Nat),i<m->lset d ((List.range m).map f) i v=(List.range m).map fun j=>if j=i then v else f j:=by
 intro m i h
 apply List.ext_getElem?
 intro j
 have key:∀ (l:List α) (i:Nat),i<l.length->∀ j:Nat,(lset d l i v)[j]?=if j=i then some v else l[j]?:=by
  intro l
  induction l with
  |nil=>intro i h; simp at h
  |cons x l ih =>
   intro i h j
   cases i with
   |zero=>cases j<;>simp[lset]
   |succ i =>
    cases j with
    |zero=>simp[lset]
    |succ j=>simp only[lset,zD0]; rw[ih i (by simpa using h) j]; simp
 rw[key _ i (by simpa using h) j]
 by_cases e:j=i
 ·subst e; simp[h]
 ·rw[if_neg e]
  simp only[List.getElem?_map]
  by_cases hj:j<m
  ·simp[hj,e]
  ·simp[hj]
theorem chunks_set (E:Env) (d:Nat) (v:Value):∀ (m k i:Nat),i<m->(∀ t,k+16*i<=t->t<k+16*i+16->True)->k+16*i<=d->d<k+16*i+16 ->
  lset [] (chunks E k m) i (lset undef (chunk E (k+16*i) 16) (d-(k+16*i)) v)=chunks (upd E d v) k m
 |0,_,_,h,_,_,_=>by omega
 |m+1,k,0,_,_,h1,h2=>by
  simp only[chunks,lset,Nat.mul_zero,zD3]at *
  congr 1
  ·rw[chunk,lset_map _ _ _ _ _ (by omega),chunk]
   apply zD8
   intro j hj
   have hj:=List.mem_range.1 hj
   simp only[upd]
   by_cases e:k+j=d
   ·rw[if_pos (by omega),if_pos e]
   ·rw[if_neg (by omega),if_neg e]
  ·have:∀ (m k:Nat),d<k->chunks E k m=chunks (upd E d v) k m:=by
    intro m
    induction m with
    |zero=>intro k _; rfl
    |succ m ih =>
     intro k hk
     rw[chunks,chunks,ih (k+16) (by omega)]
     congr 1
     unfold chunk
     apply zD8
     intro j _
     rw[upd_ne _ _ (by omega)]
   exact this m (k+16) (by omega)
 |m+1,k,i+1,h,h0,h1,h2=>by
  have:=chunks_set E d v m (k+16) i (by omega) (fun _ _ _=>trivial) (by omega) (by omega)
  simp only[chunks,lset]
  rw[show k+16*(i+1)=k+16+16*i from by omega,this]
  congr 1
  unfold chunk
  apply zD8
  intro j hj
  have hj:=List.mem_range.1 hj
  rw[upd_ne _ _ (by omega)]
theorem rvOf_set (N:Nat) (E:Env) (d:Nat) (v:Value) (h:d<N):(rvOf N E).set d v=rvOf N (upd E d v):=by
 have hq:d / 16<N / 16+1:=by have:=Nat.div_le_div_right (c:=16) (Nat.le_of_lt h); omega
 unfold rvOf RV.set
 simp only
 rw[chunks_get _ _ _ _ hq]
 have:=chunks_set (fun t=>if t<N then E t else undef) d v (N / 16+1) 0 (d / 16) hq (fun _ _ _=>trivial) (by omega) (by omega)
 rw[show d-(0+16*(d / 16))=d % 16 from by omega]at this
 rw[this]
 congr 2
 funext t
 simp only[upd]
 by_cases e:t=d
 ·subst e; simp[h]
 ·simp[e]
theorem put_some (N:Nat) (E:Env) (ds:List Deferred) (d:Nat) (v:Value) (h:d<N):(mkA N E ds).put (some d) v=mkA N (upd E d v) ds:=by
 have hb:Nat.blt d (mkA N E ds).env.n=true:=blt_of h
 simp only[AAct.put_eq,hb,if_true]
 show (⟨(rvOf N E).set d v,ds⟩:AAct)=_
 rw[rvOf_set N E d v h]; rfl
theorem put_none (a:AAct) (v:Value):a.put none v=a:=rfl
theorem tmp_mk (N:Nat) (E:Env) (ds:List Deferred) (t:Nat) (h:t<N):(mkA N E ds).tmp t=E t:=by
 have hb:Nat.blt t (mkA N E ds).env.n=true:=blt_of h
 simp only[AAct.tmp,hb,if_true]
 exact rvOf_get N E t h
theorem aeval_tmp {P:Program} (N:Nat) (E:Env) (ds:List Deferred) (t:Nat) (h:t<N):aeval P (mkA N E ds) (.tmp t)=some (E t):=by rw[aeval,tmp_mk N E ds t h]
theorem entryE_get:∀ (l:List Value) (E:Env) (k t:Nat),entryE E k l t=if k<=t/\t<k+l.length then l.getD (t-k) undef else E t
 |[],E,k,t=>by rw[entryE,if_neg (by simp only[zD7]; omega)]
 |v::r,E,k,t=>by
  rw[entryE,entryE_get r]
  simp only[zB0]
  by_cases e:t=k
  ·subst e
   rw[if_neg (by omega),if_pos (by omega),upd_same,Nat.sub_self]; rfl
  ·by_cases h:k+1<=t/\t<k+1+r.length
   ·rw[if_pos h,if_pos (by omega)]
    obtain⟨j,hj⟩:∃ j,t-k=j+1:=⟨t-k-1,by omega⟩
    rw[hj,List.getD_cons_succ,show t-(k+1)=j from by omega]
   ·rw[if_neg h,if_neg (by omega),upd_ne _ _ e]
section
variable {P : Program} {ro : Option Nat} {H H1 : AHeap}
theorem Runs.congr {c:Code} {a a' a1:AAct} {e:Exit} (h:Runs P ro c a' H e a1 H1) (ha:∀ ρ:Ren,ρ.act a=ρ.act a') (hs:∀ N,scA N a->scA N a'):Runs P ro c a H e a1 H1:=by
 intro ρ w F n Q hF hFr hro r hsa hQ
 rw[ha]
 exact h ρ w F n Q hF hFr hro r (hs _ hsa) hQ
theorem callA_fn (hmix:P.follows .mixedOrders=true) {f:FuncId} {args:List Value} {fn:Func} {c:Code} {N:Nat} {R:Out->AHeap->Prop} (hfn:P.funcs[f]?=some fn) (hc:fn.body=some c) (hN:fn.ntmps=N) (hle:args.length<=N)
  (h:wpA P none c (endA P fn R) (mkA N (entryE env0 0 args) []) H):CallA P f args H R:=by
 obtain⟨e,a1,H2,hr,hq⟩:=wpA_sound hmix c _ _ _ h
 have hg:∀ t,t<N->({RV.ofList args with n:=N}:RV).get t=(rvOf N (entryE env0 0 args)).get t:=by
  intro t ht
  rw[rvOf_get _ _ _ ht,entryE_get]
  have h1:({RV.ofList args with n:=N}:RV).get t=args.getD t undef:=RV.get_ofList args t
  rw[h1]
  by_cases h2:t<args.length
  ·rw[if_pos (by omega)]; simp
  ·rw[if_neg (by omega),List.getD,zC6 (Nat.not_lt.1 h2)]; rfl
 have hr':Runs P none c ⟨{RV.ofList args with n:=fn.ntmps},[]⟩ H e a1 H2:=by
  rw[hN]
  refine hr.congr (fun ρ=>?_) (fun M hs=>?_)
  ·refine act_same ρ ρ rfl rfl (fun t ht=>?_)
   have:=hg t ht
   simp only[mkA]
   rw[this]
  ·refine⟨fun i hi=>?_,fun d hd=>by cases hd⟩
   have:=hs.1 i hi
   rw[hg i hi]at this
   exact this
 have key:∀ (u:FrameMode),leaveA P fn a1 a1.defers u H2 R->(∀ out H1,leaveF P (recX P) fn a1 a1.defers u H2=some (out,H1)->endF P (recX P) fn (e,a1,H2)=some (out,H1))->CallA P f args H R:=by
  intro u hl he
  obtain⟨out,H1,h1,h3⟩:=leaveA_leave _ _ _ hl
  exact⟨out,H1,enter_core (recX_sound hmix) hfn hc (by omega) hr' (he out H1 h1),h3⟩
 cases e with
 |normal=>exact key .returning hq (fun _ _ h=>h)
 |ret=>exact key .returning hq (fun _ _ h=>h)
 |panic ch=>exact key (.panicking ch) hq (fun _ _ h=>h)
 |exit id=>exact hq.elim
 |goto l=>exact hq.elim
 |outgrown=>exact hq.elim
theorem nextA_mono {x:ANext} {R R':Out->AHeap->Prop} (hR:∀ out H1,R out H1->R' out H1) (h:nextA P x H R):nextA P x H R':=by
 cases x with
 |value v=>exact hR _ _ h
 |skip=>exact hR _ _ h
 |enter f args=>exact CallA.mono h hR
 |round r=>obtain⟨out,H1,h2,h4⟩:=h; exact⟨out,H1,h2,hR _ _ h4⟩
 |panic v=>exact hR _ _ h
theorem opA_mono {op:Op} {a:AAct} {R R':Out->AHeap->Prop} (hR:∀ out H1,R out H1->R' out H1) (h:opA P op a H R):opA P op a H R':=by
 unfold opA at *
 split at h
 ·rename_i hx; exact nextA_mono hR h
 ·exact h.elim
theorem wpOps_mono {P:Program} {ro:Option Nat} {ops:Array Oper} {Q Q':Exit->AAct->AHeap->Prop} (hQ:∀ e a H,Q e a H->Q' e a H):∀ (l:List Oper) (a:AAct) (H:AHeap),wpOps P ro ops l a H Q->wpOps P ro ops l a H Q'
 |[],a,H,h=>hQ _ _ _ h
 |o::rest,a,H,h=>by
  simp only[wpOps]at *
  cases hw:wantA ops a o with
  |none=>rw[hw]at h; exact h.elim
  |some b =>
   rw[hw]at h
   cases b with
   |false=>exact wpOps_mono hQ rest _ _ h
   |true =>
    simp only at h ⊢
    have key:∀ {H:AHeap},opA P o.op a H (fun out H1=>match out with
      |.ok v=>wpOps P ro ops rest (a.put o.dst v) H1 Q
      |.error ch=>Q (.panic ch) a H1)->opA P o.op a H (fun out H1=>match out with
      |.ok v=>wpOps P ro ops rest (a.put o.dst v) H1 Q'
      |.error ch=>Q' (.panic ch) a H1):=fun h=>opA_mono (fun out H1 h=>by
     cases out with
     |ok v=>exact wpOps_mono hQ rest _ _ h
     |error ch=>exact hQ _ _ _ h) h
    cases ro with
    |some l=>exact key h
    |none =>
     cases hd:aDefer P a o.op with
     |none=>rw[hd]at h; exact key h
     |some d=>rw[hd]at h; exact wpOps_mono hQ rest _ _ h
theorem wpDraw_mono {ops:Array Oper} {anc:List Nat} {Q Q':AAct->AHeap->Prop} (hQ:∀ a H,Q a H->Q' a H):∀ (l:List Oper) (i:Nat) (fps:List Fp) (a:AAct) (H:AHeap),wpDraw P ops anc l i fps a H Q->wpDraw P ops anc l i fps a H Q'
 |[],_,_,a,H,h=>hQ _ _ h
 |o::rest,i,fps,a,H,h=>by
  simp only[wpDraw]at *
  cases hw:wantA ops a o with
  |none=>rw[hw]at h; exact h.elim
  |some b =>
   rw[hw]at h
   cases b with
   |false=>exact wpDraw_mono hQ rest _ _ _ _ h
   |true =>
    obtain⟨F,v,g,h1,h2,h3,h4,h5⟩:=h
    exact⟨F,v,g,h1,h2,h3,h4,wpDraw_mono hQ rest _ _ _ _ h5⟩
theorem rangeA_mono {fv:Value} {ps:Array Tmp} {assign body:Code} {a:AAct} {Q Q':Exit->AAct->AHeap->Prop} (hQ:∀ e a H,Q e a H->Q' e a H) (h:rangeA P ro fv ps assign body a H Q):rangeA P ro fv ps assign body a H Q':=by
 unfold rangeA at *
 split at h
 ·split at h
  ·rename_i l mark H1 hen
   split at h
   ·rename_i g args hin
    refine CallA.mono h fun out H2 h=>?_
    cases out with
    |ok v=>obtain⟨lp,le,e,h1,h2,h3,h4⟩:=h; exact⟨lp,le,e,h1,h2,h3,hQ _ _ _ h4⟩
    |error ch=>exact hQ _ _ _ h
   ·exact h.elim
  ·exact h.elim
 ·exact h.elim
theorem seqQ_mono {W W':AAct->AHeap->Prop} {Q Q':Exit->AAct->AHeap->Prop} (hW:∀ a H,W a H->W' a H) (hQ:∀ e a H,Q e a H->Q' e a H):∀ e a H,seqQ W Q e a H->seqQ W' Q' e a H:=by
 intro e a H h
 cases e with
 |normal=>exact hW _ _ h
 |_=>exact hQ _ _ _ h
theorem wpA_mono:∀ (c:Code) {Q Q':Exit->AAct->AHeap->Prop} (a:AAct) (H:AHeap),(∀ e a H,Q e a H->Q' e a H)->wpA P ro c Q a H->wpA P ro c Q' a H:=by
 intro c
 induction c with
 |skip=>exact fun a H hQ h=>hQ _ _ _ h
 |label l=>exact fun a H hQ h=>hQ _ _ _ h
 |exit id=>exact fun a H hQ h=>hQ _ _ _ h
 |goto l=>exact fun a H hQ h=>hQ _ _ _ h
 |ret=>exact fun a H hQ h=>hQ _ _ _ h
 |seq x y ihx ihy =>
  intro Q Q' a H hQ h
  simp only[wpA]at *
  exact ihx a H (seqQ_mono (fun a H=>ihy a H hQ) hQ) h
 |cond c x y ihx ihy =>
  intro Q Q' a H hQ h
  simp only[wpA,condA]at *
  split at h
  ·rename_i hc; exact ihx a H hQ h
  ·rename_i hc; exact ihy a H hQ h
  ·exact h.elim
 |block id b ih =>
  intro Q Q' a H hQ h
  simp only[wpA]at *
  exact ih a H (fun e a H h=>hQ _ _ _ h) h
 |scope b ih =>
  intro Q Q' a H hQ h
  simp only[wpA]at *
  refine ih a H (fun e a H h=>?_) h
  cases e with
  |goto l=>exact h
  |_=>exact hQ _ _ _ h
 |loop b ih =>
  intro Q Q' a H hQ h
  simp only[wpA]at *
  obtain⟨m,h⟩:=h
  refine⟨m,?_⟩
  have key:∀ (m:Nat) (a:AAct) (H:AHeap),roundsA (fun Q' a' H'=>wpA P ro b Q' a' H') Q m a H->roundsA (fun Q' a' H'=>wpA P ro b Q' a' H') Q' m a H:=by
   intro m
   induction m with
   |zero=>exact fun a H h=>h
   |succ m ihm =>
    intro a H h
    simp only[roundsA]at *
    refine ih a H (fun e a H h=>?_) h
    cases e with
    |normal=>exact ihm a H h
    |_=>exact hQ _ _ _ h
  exact key m a H h
 |region id ops draw =>
  intro Q Q' a H hQ h
  simp only[wpA]at *
  cases draw with
  |true =>
   refine⟨h.1,?_⟩
   rcases h.2 with h|⟨l,o,h1,h2,h3,h4⟩
   ·exact .inl (wpDraw_mono (fun a H=>hQ _ a H) _ _ _ _ _ h)
   ·exact .inr ⟨l,o,h1,h2,h3,wpDraw_mono (fun a H h=>⟨h.1,wpOps_mono hQ _ _ _ h.2⟩) _ _ _ _ _ h4⟩
  |false=>exact wpOps_mono hQ _ _ _ h
 |rangeFunc f ps assign body _ _ =>
  intro Q Q' a H hQ h
  simp only[wpA]at *
  split at h
  ·exact rangeA_mono hQ h
  ·exact h.elim
 |refuse s=>exact fun a H hQ h=>h.elim
theorem wpA_loop {b:Code} {Q:Exit->AAct->AHeap->Prop} (I:Nat->AAct->AHeap->Prop) {k:Nat} {a:AAct} (h0:I k a H)
  (h:∀ k a H,I k a H->wpA P ro b (seqQ (fun a1 H1=>∃ j,j<k/\I j a1 H1) Q) a H):wpA P ro (.loop b) Q a H:=by
 have key:∀ m k a H,k<m->I k a H->roundsA (fun Q' a' H'=>wpA P ro b Q' a' H') Q m a H:=by
  intro m
  induction m with
  |zero=>intro k a H hk; omega
  |succ m ih =>
   intro k a H hk hI
   simp only[roundsA]
   refine wpA_mono b a H (fun e a1 H1 h1=>?_) (h k a H hI)
   cases e with
   |normal =>
    obtain⟨j,hj,hI'⟩:=h1
    exact ih j a1 H1 (by omega) hI'
   |_=>exact h1
 exact⟨k+1,key (k+1) k a H (zC1 _) h0⟩
theorem merge_self (H:AHeap) (F:List Nat):H.merge (H.restrict F)=H:=by
 obtain⟨h1,h2,h3⟩:=restrict_next H F
 unfold AHeap.merge
 rw[h3,h1,Nat.sub_self]
 rfl
def pureOp:Op->Bool
 |.move _=>true
 |.assign _=>true
 |.pick _ _ _=>true
 |.build _ _=>true
 |.nilCheck _=>true
 |.unOp _ _ _=>true
 |.makeInterface _ _=>true
 |.makeFunc _ _ _=>true
 |.fieldAddr _ _ _=>true
 |.field _ _ _=>true
 |.indexAddr _ _ _=>true
 |.index _ _ _=>true
 |.typeAssert _ _ _ _=>true
 |.extract _ _=>true
 |_=>false
theorem pure_fun {op:Op} (hp:pureOp op=true) (a:AAct):∃ f:Option ANext,∀ G:AHeap,aop op P a G=f.map fun x=>(x,G):=by
 cases op with
 |move x=>exact⟨(aeval P a x).map .value,fun G=>by simp only[aop,xMove,rv]; cases aeval P a x<;>rfl⟩
 |assign x=>exact⟨(aeval P a x).map .value,fun G=>by simp only[aop,xMove,rv]; cases aeval P a x<;>rfl⟩
 |pick c x y =>
  refine⟨(match aeval P a c with
   |some (.bool true)=>(aeval P a x).map .value
   |some (.bool false)=>(aeval P a y).map .value
   |_=>none),fun G=>?_⟩
  simp only[aop,xPick,rv,zA1]
  cases aeval P a c with
  |none=>rfl
  |some v =>
   cases v with
   |bool b=>cases b<;>simp only[zA3]<;>(first|cases aeval P a x<;>rfl|cases aeval P a y<;>rfl)
   |_=>rfl
 |build t ps=>exact⟨((pairs P a ps.toList).bind (aBuild P t)).map .value,fun G=>by
   simp only[aop,xBuild,rv,zA1]
   cases pairs P a ps.toList with
   |none=>rfl
   |some l=>simp only[zA3]; cases aBuild P t l<;>rfl⟩
 |nilCheck x=>exact⟨(aeval P a x).bind fun v=>(nilV P (AHeap.none 0) v).map (·.1),fun G=>by
   simp only[aop,xNil,zA1]
   cases aeval P a x with
   |none=>rfl
   |some v =>
    simp only[zA3]
    unfold nilV
    split<;>rfl⟩
 |unOp op t x=>exact⟨(aeval P a x).bind fun v=>(unV P (AHeap.none 0) op v).map (·.1),fun G=>by
   simp only[aop,xUn,zA1]
   cases aeval P a x with
   |none=>rfl
   |some v =>
    simp only[zA3]
    unfold unV
    split
    ·rfl
    ·rfl
    ·split
     ·simp only[Option.map_map]; cases aPlain P (Op.unary op v)<;>rfl
     ·rfl⟩
 |makeInterface t x=>exact⟨(aeval P a x).bind fun v=>(ifaceV P (AHeap.none 0) t v).map (·.1),fun G=>by
   simp only[aop,xIface,zA1]
   cases aeval P a x with
   |none=>rfl
   |some v=>simp only[zA3]; unfold ifaceV; split<;>rfl⟩
 |makeFunc fn p q=>exact⟨(aevals P a p.toList).bind fun u=>(aevals P a q.toList).bind fun v=>(funcV (AHeap.none 0) fn u v).map (·.1),fun G=>by
   simp only[aop,xFunc,zA1]
   cases aevals P a p.toList with
   |none=>rfl
   |some u =>
    cases aevals P a q.toList with
    |none=>rfl
    |some v=>simp only[zA3]; unfold funcV; split<;>rfl⟩
 |fieldAddr t x f=>exact⟨(aeval P a x).bind fun v=>(aFieldAddr P t v f).map .value,fun G=>by
   simp only[aop,xFieldAddr,rv,zA1]
   cases aeval P a x with
   |none=>rfl
   |some v=>simp only[zA3]; cases aFieldAddr P t v f<;>rfl⟩
 |field t x f=>exact⟨(aeval P a x).bind fun v=>(aField P t v f).map .value,fun G=>by
   simp only[aop,xField,rv,zA1]
   cases aeval P a x with
   |none=>rfl
   |some v=>simp only[zA3]; cases aField P t v f<;>rfl⟩
 |indexAddr t x i=>exact⟨(aeval P a x).bind fun v=>(aeval P a i).bind fun j=>(aIndexAddr P t v j).map .value,fun G=>by
   simp only[aop,xIndexAddr,rv,zA1]
   cases aeval P a x with
   |none=>rfl
   |some v =>
    cases aeval P a i with
    |none=>rfl
    |some j=>simp only[zA3]; cases aIndexAddr P t v j<;>rfl⟩
 |index t x i=>exact⟨(aeval P a x).bind fun v=>(aeval P a i).bind fun j=>(indexV P (AHeap.none 0) t v j).map (·.1),fun G=>by
   simp only[aop,xIndex,zA1]
   cases aeval P a x with
   |none=>rfl
   |some v =>
    cases aeval P a i with
    |none=>rfl
    |some j =>
     simp only[zA3]
     unfold indexV
     split
     ·rfl
     ·split
      ·simp only[Option.map_map]; cases aPlain P (Instr.index t v j)<;>rfl
      ·rfl⟩
 |typeAssert x t u ok=>exact⟨(aeval P a x).bind fun v=>(aTypeAssert P v u ok).map .value,fun G=>by
   simp only[aop,xTypeAssert,rv,zA1]
   cases aeval P a x with
   |none=>rfl
   |some v=>simp only[zA3]; cases aTypeAssert P v u ok<;>rfl⟩
 |extract x i=>exact⟨(aeval P a x).bind fun v=>(extractV (AHeap.none 0) i v).map (·.1),fun G=>by
   simp only[aop,xExtract,zA1]
   cases aeval P a x with
   |none=>rfl
   |some v =>
    simp only[zA3]
    unfold extractV
    split
    ·rename_i vs; simp only[rv]; cases vs.toList[i]?<;>rfl
    ·rfl⟩
 |_=>cases hp
def Meets (anc:Nat) (F:List Nat) (W O:List Nat) (r:Fp):Prop :=
 anc.testBit r.i=true\/((∀ n∈r.W,n∉F)/\(∀ n∈r.F,n∉W)/\(r.lo<r.hi->(∀ n∈F,n<r.lo\/r.hi<=n)/\(∀ n∈O,n<r.lo\/r.hi<=n)))
theorem disj_of {a b:List Nat} (h:∀ n∈a,n∉b):disj a b=true:=by
 refine zC4.2 fun n hn=>?_
 cases hm:memN n b with
 |false=>rfl
 |true=>exact absurd (memN_iff.1 hm) (h n hn)
theorem avoids_of {lo hi:Nat} {l:List Nat} (h:∀ n∈l,n<lo\/hi<=n):avoids lo hi l=true:=by
 refine zC4.2 fun n hn=>?_
 rcases h n hn with h|h
 ·rw[blt_of h]; rfl
 ·rw[show Nat.ble hi n=true from Nat.ble_eq▸h]; simp
theorem fpOk_of {anc:Nat} {F:List Nat} {v:Value} {g:AHeap} {next:Nat} {r:Fp} (h:Meets anc F g.dirty (outIds v g next) r):fpOk anc F v g next r=true:=by
 rcases h with h|⟨h1,h2,h3⟩
 ·simp[fpOk,h]
 ·have e1:=disj_of h1
  have e2:=disj_of h2
  by_cases hlt:r.lo<r.hi
  ·obtain⟨h4,h5⟩:=h3 hlt
   simp[fpOk,e1,e2,avoids_of h4,avoids_of h5]
  ·have e3:Nat.ble r.hi r.lo=true:=Nat.ble_eq▸Nat.not_lt.1 hlt
   simp[fpOk,e1,e2,e3]
def NoFp (r:Fp):Prop:=r.F=[]/\r.W=[]/\r.hi<=r.lo
theorem fpOk_no {anc:Nat} {F:List Nat} {v:Value} {g:AHeap} {next:Nat} {r:Fp} (h:NoFp r):fpOk anc F v g next r=true:=by
 refine fpOk_of (.inr ⟨?_,?_,fun hlt=>?_⟩)
 ·rw[h.2.1]; simp
 ·rw[h.1]; simp
 ·have:=h.2.2; omega
theorem wpDraw_weaken {ops:Array Oper} {anc:List Nat} {Q:AAct->AHeap->Prop}:∀ (rest:List Oper) (i:Nat) (fps fps':List Fp) (a:AAct) (H:AHeap),(∀ r∈fps',r∈fps\/NoFp r)->wpDraw P ops anc rest i fps a H Q->wpDraw P ops anc rest i fps' a H Q
 |[],_,_,_,a,H,_,h=>h
 |o::rest,i,fps,fps',a,H,hf,h=>by
  simp only[wpDraw]at *
  cases hw:wantA ops a o with
  |none=>rw[hw]at h; exact h.elim
  |some b =>
   rw[hw]at h
   cases b with
   |false=>exact wpDraw_weaken rest _ fps fps' _ _ hf h
   |true =>
    obtain⟨F,v,g,h1,h2,h3,h4,h5⟩:=h
    refine⟨F,v,g,h1,h2,h3,fun r hr=>?_,wpDraw_weaken rest _ _ _ _ _ (fun r hr=>?_) h5⟩
    ·rcases hf r hr with h|h
     ·exact h4 r h
     ·exact fpOk_no h
    ·rcases zB1.1 hr with rfl|hr
     ·exact .inl (zB9 ..)
     ·rcases hf r hr with h|h
      ·exact .inl (zB5 _ h)
      ·exact .inr h
def IdsOk (anc:Nat) (fps:List Fp) (O:List Nat):Prop:=∀ r∈fps,r.lo<r.hi->anc.testBit r.i=true\/∀ n∈O,n<r.lo\/r.hi<=n
theorem wpDraw_reg {ops:Array Oper} {anc:List Nat} {o:Oper} {rest:List Oper} {i:Nat} {fps:List Fp} {a:AAct} {Q:AAct->AHeap->Prop} {v:Value} (hw:wantA ops a o=some true)
  (hx:∀ G,aop o.op P a G=some (.value v,G)) (hids:IdsOk (anc.getD i 0) fps (idsV v))
  (h:wpDraw P ops anc rest (i+1) fps (a.put o.dst v) H Q):wpDraw P ops anc (o::rest) i fps a H Q:=by
 have hn:=restrict_next H []
 simp only[wpDraw,hw]
 refine⟨[],v,H.restrict [],opS_of (x:=.value v) (g:=H.restrict []) (hx _) ⟨rfl,rfl⟩,(by simp),(by rw[hn.2.2]; simp),?_,?_⟩
 ·intro r hr
  refine fpOk_of ?_
  by_cases hlt:r.lo<r.hi
  ·rcases hids r hr hlt with h|h
   ·exact .inl h
   ·refine .inr ⟨by simp,by rw[hn.2.2]; simp,fun _=>⟨by simp,fun n hn'=>h n ?_⟩⟩
    simp only[outIds,hn.2.2,hn.1,Nat.sub_self,rangeFrom,zE2,List.flatMap_nil]at hn'
    exact hn'
  ·exact .inr ⟨by simp,by rw[hn.2.2]; simp,fun h=>absurd h hlt⟩
 ·rw[merge_self]
  refine wpDraw_weaken rest _ fps _ _ _ (fun r hr=>?_) h
  rcases zB1.1 hr with rfl|hr
  ·exact .inr ⟨rfl,hn.2.2,by simp[hn.1]⟩
  ·exact .inl hr
theorem wpDraw_pure {ops:Array Oper} {anc:List Nat} {o:Oper} {rest:List Oper} {i:Nat} {fps:List Fp} {a:AAct} {Q:AAct->AHeap->Prop} {v:Value} (hp:pureOp o.op=true) (hw:wantA ops a o=some true)
  (hx:aop o.op P a H=some (.value v,H)) (hids:IdsOk (anc.getD i 0) fps (idsV v))
  (h:wpDraw P ops anc rest (i+1) fps (a.put o.dst v) H Q):wpDraw P ops anc (o::rest) i fps a H Q:=by
 obtain⟨f,hf⟩:=pure_fun (P:=P) hp a
 refine wpDraw_reg hw (fun G=>?_) hids h
 have h1:=hf H
 rw[hx]at h1
 rw[hf]
 cases hfv:f with
 |none=>rw[hfv]at h1; cases h1
 |some y=>rw[hfv]at h1; simp only[zA5,Option.some.injEq,Prod.mk.injEq]at h1 ⊢; exact⟨h1.1.symm,trivial⟩
theorem wpDraw_quiet {ops:Array Oper} {anc:List Nat} {o:Oper} {rest:List Oper} {i:Nat} {fps:List Fp} {a:AAct} {Q:AAct->AHeap->Prop} {v:Value} (F:List Nat) (hw:wantA ops a o=some true)
  (hop:OpS P a (H.restrict F) o (.ok v) (H.restrict F)) (hF:∀ n∈F,H.get n≠none) (hm:∀ r∈fps,Meets (anc.getD i 0) F [] (idsV v) r)
  (h:wpDraw P ops anc rest (i+1) (⟨i,F,[],H.next,H.next⟩::fps) (a.put o.dst v) H Q):wpDraw P ops anc (o::rest) i fps a H Q:=by
 have hn:=restrict_next H F
 simp only[wpDraw,hw]
 refine⟨F,v,H.restrict F,hop,hF,(by rw[hn.2.2]; simp),fun r hr=>fpOk_of ?_,?_⟩
 ·simp only[outIds,hn.2.2,hn.1,Nat.sub_self,rangeFrom,zE2,List.flatMap_nil]
  exact hm r hr
 ·rw[merge_self,hn.2.2,hn.1]; exact h
theorem wpDraw_load {ops:Array Oper} {anc:List Nat} {o:Oper} {rest:List Oper} {i:Nat} {fps:List Fp} {a:AAct} {Q:AAct->AHeap->Prop} {t:TypeId} {x:Operand} {v:Value} {n off:Nat} (ho:o.op=.load t x) (hw:wantA ops a o=some true)
  (hx:aeval P a x=some (.pointer (some ⟨n,off,none⟩))) (hl:aLoad P H t (.pointer (some ⟨n,off,none⟩))=some v) (hm:∀ r∈fps,Meets (anc.getD i 0) [n] [] (idsV v) r)
  (h:wpDraw P ops anc rest (i+1) (⟨i,[n],[],H.next,H.next⟩::fps) (a.put o.dst v) H Q):wpDraw P ops anc (o::rest) i fps a H Q:=by
 have hne:H.get n≠none:=by
  intro hg
  simp[aLoad,cellsR,hg]at hl
 refine wpDraw_quiet [n] hw ?_ (by simpa using hne) hm h
 have hg:(H.restrict [n]).get n=H.get n:=by rw[restrict_get]; simp
 have hl':aLoad P (H.restrict [n]) t (.pointer (some ⟨n,off,none⟩))=some v:=by
  rw[<-hl]
  simp only[aLoad,cellsR,hg]
 refine opS_of (x:=.value v) (g:=H.restrict [n]) ?_ ⟨rfl,rfl⟩
 rw[ho]
 simp only[aop,xLoad,hx,zA1,zA3,hl']
 rfl
end
section
variable {P : Program} {H : AHeap}
def Blk (H:AHeap) (n:Nat) (e:TypeId) (o:Bool) (l:List Value):Prop:=∃ rv,cellsAt H n=some (rv,e,o)/\rv.n=l.length/\∀ i,i<l.length->rv.get i=l.getD i undef
theorem Blk.gets {rv:RV} {l:List Value} (h2:rv.n=l.length) (h3:∀ i,i<l.length->rv.get i=l.getD i undef) (off sz:Nat) (h:off+sz<=l.length):rv.gets off sz=(l.drop off).take sz:=by
 rw[RV.gets_eq]
 apply List.ext_getElem?
 intro i
 by_cases hi:i<sz
 ·rw[List.getElem?_map,List.getElem?_range hi,List.getElem?_take_of_lt hi,List.getElem?_drop]
  have:off+i<l.length:=by omega
  simp[h3 _ this,List.getD,this]
 ·rw[zC6 (by simpa using hi),zC6 (by simp; omega)]
def nw (H:AHeap) (e:TypeId) (l:List Value) (o:Bool):AHeap:=H.new ⟨.cells #[] e,o,RV.ofList l⟩
theorem aNew_nw {e:TypeId} {l:List Value} {o:Bool} (h:scbL H.next l=true):aNew H e l o=some (nw H e l o):=by simp only[aNew,h,if_true,nw]
theorem nw_next (e:TypeId) (l:List Value) (o:Bool):(nw H e l o).next=H.next+1:=rfl
theorem nw_base (e:TypeId) (l:List Value) (o:Bool):(nw H e l o).base=H.base:=rfl
theorem nw_dirty (e:TypeId) (l:List Value) (o:Bool):(nw H e l o).dirty=H.dirty:=rfl
theorem nw_get (e:TypeId) (l:List Value) (o:Bool) {m:Nat} (h:m≠H.next):(nw H e l o).get m=H.get m:=by rw[nw,AHeap.get_new,if_neg h]
end
section
variable {P : Program} {ro : Option Nat} {H : AHeap} {Q : Exit -> AAct -> AHeap -> Prop} {a : AAct} {N : Nat} {E : Env} {ds : List Deferred}
def seqC (P:Program) (ro:Option Nat) (y:Code) (Q:Exit->AAct->AHeap->Prop):Exit->AAct->AHeap->Prop:=seqQ (fun a1 H1=>wpA P ro y Q a1 H1) Q
def blockC (id:Nat) (Q:Exit->AAct->AHeap->Prop):Exit->AAct->AHeap->Prop:=fun e a1 H1=>Q (outB id e) a1 H1
def condC (P:Program) (ro:Option Nat) (x y:Code) (Q:Exit->AAct->AHeap->Prop) (a:AAct) (H:AHeap) (v:Value):Prop:=condA (some v) (wpA P ro x Q a H) (wpA P ro y Q a H)
theorem w_seq {x y:Code}:wpA P ro (.seq x y) Q a H=wpA P ro x (seqC P ro y Q) a H:=Eq.trans rfl rfl
theorem w_skip:wpA P ro .skip Q a H=Q .normal a H:=Eq.trans rfl rfl
theorem w_ret:wpA P ro .ret Q a H=Q .ret a H:=Eq.trans rfl rfl
theorem w_exit {id:Nat}:wpA P ro (.exit id) Q a H=Q (.exit id) a H:=Eq.trans rfl rfl
theorem w_block {id:Nat} {b:Code}:wpA P ro (.block id b) Q a H=wpA P ro b (blockC id Q) a H:=Eq.trans rfl rfl
theorem w_cond {t:Nat} {x y:Code} (ht:t<N):wpA P ro (.cond (.tmp t) x y) Q (mkA N E ds) H=condC P ro x y Q (mkA N E ds) H (E t):=by
 simp only[wpA,condC,aeval_tmp N E ds t ht]
theorem w_region {id:Nat} {l:List Oper}:wpA P ro (.region id ⟨l⟩ false) Q a H=wpOps P ro ⟨l⟩ l a H Q:=Eq.trans rfl rfl
theorem seqC_normal {y:Code}:seqC P ro y Q .normal a H=wpA P ro y Q a H:=Eq.trans rfl rfl
theorem seqC_ret {y:Code}:seqC P ro y Q .ret a H=Q .ret a H:=Eq.trans rfl rfl
theorem seqC_exit {y:Code} {id:Nat}:seqC P ro y Q (.exit id) a H=Q (.exit id) a H:=Eq.trans rfl rfl
theorem blockC_normal {id:Nat}:blockC id Q .normal a H=Q .normal a H:=Eq.trans rfl rfl
theorem blockC_ret {id:Nat}:blockC id Q .ret a H=Q .ret a H:=Eq.trans rfl rfl
theorem blockC_exit {id:Nat}:blockC id Q (.exit id) a H=Q .normal a H:=by simp[blockC,outB]
theorem blockC_other {id k:Nat} (h:k≠id):blockC id Q (.exit k) a H=Q (.exit k) a H:=by simp[blockC,outB,h]
theorem condC_true {x y:Code}:condC P ro x y Q a H (.bool true)=wpA P ro x Q a H:=Eq.trans rfl rfl
theorem condC_false {x y:Code}:condC P ro x y Q a H (.bool false)=wpA P ro y Q a H:=Eq.trans rfl rfl
theorem endA_normal {fn:Func} {R:Out->AHeap->Prop}:endA P fn R .normal (mkA N E ds) H=leaveA P fn (mkA N E ds) ds .returning H R:=Eq.trans rfl rfl
theorem endA_ret {fn:Func} {R:Out->AHeap->Prop}:endA P fn R .ret (mkA N E ds) H=leaveA P fn (mkA N E ds) ds .returning H R:=Eq.trans rfl rfl
def opC (P:Program) (ro:Option Nat) (ops:Array Oper) (rest:List Oper) (a:AAct) (dst:Option Tmp) (Q:Exit->AAct->AHeap->Prop):Out->AHeap->Prop
 |.ok v,H1=>wpOps P ro ops rest (a.put dst v) H1 Q
 |.error ch,H1=>Q (.panic ch) a H1
def isDefer:Op->Bool
 |.defer _=>true
 |_=>false
theorem aDefer_none {a:AAct} {op:Op} (h:isDefer op=false):aDefer P a op=none:=by
 cases op<;>first|rfl|cases h
theorem w_op {ops:Array Oper} {o:Oper} {rest:List Oper} (hg:o.guard=none) (hd:isDefer o.op=false):wpOps P ro ops (o::rest) a H Q=opA P o.op a H (opC P ro ops rest a o.dst Q):=by
 have e : (fun out H1 => match out with
    |.ok v=>wpOps P ro ops rest (a.put o.dst v) H1 Q
    |.error ch=>Q (.panic ch) a H1)=opC P ro ops rest a o.dst Q:=by
  funext out H1
  cases out<;>rfl
 simp only[wpOps,wantA,hg,aDefer_none hd,<-e]<;>(cases ro<;>rfl)
theorem w_nil {ops:Array Oper}:wpOps P ro ops [] a H Q=Q .normal a H:=Eq.trans rfl rfl
def guardC (P:Program) (ro:Option Nat) (ops:Array Oper) (o:Oper) (rest:List Oper) (N:Nat) (E:Env) (ds:List Deferred) (H:AHeap) (Q:Exit->AAct->AHeap->Prop) (want:Bool):Value->Prop
 |.bool b=>if b=want then wpOps P ro ops (o::rest) (mkA N E ds) H Q else wpOps P ro ops rest ((mkA N E ds).put o.dst undef) H Q
 |_=>wpOps P ro ops rest ((mkA N E ds).put o.dst undef) H Q
def dstOf (ops:Array Oper) (j:Nat):Option Nat:=(ops[j]?).bind (·.dst)
theorem w_guard {ops:Array Oper} {dst:Option Tmp} {op:Op} {ty:TypeId} {pos:String} {after:Array Edge} {j d:Nat} {want:Bool} {rest:List Oper} (hj:dstOf ops j=some d) (hd:d<N) :
  wpOps P ro ops (⟨dst,op,ty,pos,after,some (j,want)⟩::rest) (mkA N E ds) H Q=guardC P ro ops ⟨dst,op,ty,pos,after,none⟩ rest N E ds H Q want (E d):=by
 unfold dstOf at hj
 cases ho:ops[j]? with
 |none=>rw[ho]at hj; cases hj
 |some oj =>
  rw[ho]at hj
  simp only[zA3]at hj
  have hw:wantA ops (mkA N E ds) ⟨dst,op,ty,pos,after,some (j,want)⟩=(match E d with
    |.bool b=>some (b == want)
    |_=>some false):=by
   simp only[wantA,ho,hj,tmp_mk N E ds d hd]
   cases E d<;>rfl
  have hn:wantA ops (mkA N E ds) ⟨dst,op,ty,pos,after,none⟩=some true:=Eq.trans rfl rfl
  cases hv:E d with
  |bool b =>
   rw[hv]at hw
   simp only[guardC]
   by_cases h:b=want
   ·rw[if_pos h]
    have:(b == want)=true:=by simpa using h
    simp only[wpOps,hw,this,hn]
   ·rw[if_neg h]
    have:(b == want)=false:=by simpa using h
    simp only[wpOps,hw,this]
  |_=>rw[hv]at hw; simp only[wpOps,hw,guardC]
def valC (P:Program) (ro:Option Nat) (ops:Array Oper) (rest:List Oper) (N:Nat) (E:Env) (ds:List Deferred) (d:Nat) (H:AHeap) (Q:Exit->AAct->AHeap->Prop):Option Value->Prop
 |some v=>wpOps P ro ops rest (mkA N (upd E d v) ds) H Q
 |none=>False
theorem valC_some {ops:Array Oper} {rest:List Oper} {d:Nat} {v:Value}:valC P ro ops rest N E ds d H Q (some v)=wpOps P ro ops rest (mkA N (upd E d v) ds) H Q:=Eq.trans rfl rfl
def heapC (P:Program) (ro:Option Nat) (ops:Array Oper) (rest:List Oper) (N:Nat) (E:Env) (ds:List Deferred) (dst:Option Nat) (Q:Exit->AAct->AHeap->Prop):Option (Value × AHeap)->Prop
 |some (v,H1)=>wpOps P ro ops rest ((mkA N E ds).put dst v) H1 Q
 |none=>False
theorem heapC_some {ops:Array Oper} {rest:List Oper} {d:Nat} {v:Value} {H1:AHeap} (hd:d<N):heapC P ro ops rest N E ds (some d) Q (some (v,H1))=wpOps P ro ops rest (mkA N (upd E d v) ds) H1 Q:=by
 simp only[heapC,put_some N E ds d v hd]
section
variable {ops : Array Oper} {d : Nat} {ty : TypeId} {pos : String} {after : Array Edge} {rest : List Oper}
theorem w_rv {op:Op} {x:Option Value} (hx:isDefer op=false) (h:aop op P (mkA N E ds) H=rv H x) (hd:d<N):wpOps P ro ops (⟨some d,op,ty,pos,after,none⟩::rest) (mkA N E ds) H Q=valC P ro ops rest N E ds d H Q x:=by
 rw[w_op rfl hx]
 simp only[opA,h,rv]
 cases x with
 |none=>rfl
 |some v=>simp only[zA5,nextA,opC,valC,put_some N E ds d v hd]
theorem w_rvh {op:Op} {dst:Option Nat} {x:Option (Value × AHeap)} (hx:isDefer op=false) (h:aop op P (mkA N E ds) H=rvh x):wpOps P ro ops (⟨dst,op,ty,pos,after,none⟩::rest) (mkA N E ds) H Q=heapC P ro ops rest N E ds dst Q x:=by
 rw[w_op rfl hx]
 simp only[opA,h,rvh]
 cases x with
 |none=>rfl
 |some v=>obtain⟨v,H1⟩:=v; rfl
def opv (E:Env):Operand->Value
 |.tmp t=>E t
 |.const v=>v
 |.func f=>.func (.func f) #[] #[]
 |.global g=>.pointer (some ⟨g,0,none⟩)
def opOk (P:Program) (N:Nat):Operand->Bool
 |.tmp t=>Nat.blt t N
 |.const v=>af v
 |.func _=>true
 |.global g=>Nat.blt g P.globals.size
theorem aeval_opv {x:Operand} (h:opOk P N x=true):aeval P (mkA N E ds) x=some (opv E x):=by
 cases x with
 |tmp t=>exact aeval_tmp N E ds t (blt_lt h)
 |const v=>simp only[opOk]at h; simp only[aeval,h,if_true,opv]
 |func f=>rfl
 |global g=>simp only[opOk]at h; simp only[aeval,h,if_true,opv]
theorem aevals_opv:∀ {xs:List Operand},xs.all (opOk P N)=true->aevals P (mkA N E ds) xs=some (xs.map (opv E))
 |[],_=>rfl
 |x::xs,h=>by
  simp only[List.all_cons,zA4]at h
  simp only[aevals,aeval_opv h.1,aevals_opv h.2,zA1,zA3,zB3]
theorem ok_tmp {t:Nat} (h:t<N):opOk P N (.tmp t)=true:=blt_of h
theorem ok_int {k:IntKind} {n:Int}:opOk P N (.const (.int k n))=true:=by simp only[opOk,af]
theorem ok_bool {b:Bool}:opOk P N (.const (.bool b))=true:=by simp only[opOk,af]
theorem ok_string {s:ByteArray}:opOk P N (.const (.string s))=true:=by simp only[opOk,af]
theorem ok_nilslice {n m:Nat}:opOk P N (.const (.slice none n m))=true:=by simp only[opOk,af]
theorem ok_func {f:FuncId}:opOk P N (.func f)=true:=by simp only[opOk]
theorem all_nil:([]:List Operand).all (opOk P N)=true:=by simp only[List.all_nil]
theorem all_cons {x:Operand} {r:List Operand}:(x::r).all (opOk P N)=(opOk P N x&&r.all (opOk P N)):=by simp only[List.all_cons]
theorem and_tt {b:Bool}:(true&&b)=b:=by simp only[Bool.true_and]
theorem opv_tmp {t:Nat}:opv E (.tmp t)=E t:=by simp only[opv]
theorem opv_const {v:Value}:opv E (.const v)=v:=by simp only[opv]
theorem opv_func {f:FuncId}:opv E (.func f)=.func (.func f) #[] #[]:=by simp only[opv]
theorem w_move {x:Operand} (hx:opOk P N x=true) (hd:d<N):wpOps P ro ops (⟨some d,.move x,ty,pos,after,none⟩::rest) (mkA N E ds) H Q=wpOps P ro ops rest (mkA N (upd E d (opv E x)) ds) H Q :=
 (w_rv (x:=some (opv E x)) rfl (by simp only[aop,xMove,aeval_opv hx]) hd).trans valC_some
theorem w_assign {x:Operand} (hx:opOk P N x=true) (hd:d<N):wpOps P ro ops (⟨some d,.assign x,ty,pos,after,none⟩::rest) (mkA N E ds) H Q=wpOps P ro ops rest (mkA N (upd E d (opv E x)) ds) H Q :=
 (w_rv (x:=some (opv E x)) rfl (by simp only[aop,xMove,aeval_opv hx]) hd).trans valC_some
theorem w_fieldAddr {x:Operand} {t:TypeId} {f:Nat} (hx:opOk P N x=true) (hd:d<N):wpOps P ro ops (⟨some d,.fieldAddr t x f,ty,pos,after,none⟩::rest) (mkA N E ds) H Q=valC P ro ops rest N E ds d H Q (aFieldAddr P t (opv E x) f) :=
 w_rv rfl (by simp only[aop,xFieldAddr,aeval_opv hx,zA1,zA3]) hd
theorem w_indexAddr {x i:Operand} {t:TypeId} (hx:opOk P N x=true) (hi:opOk P N i=true) (hd:d<N):wpOps P ro ops (⟨some d,.indexAddr t x i,ty,pos,after,none⟩::rest) (mkA N E ds) H Q=valC P ro ops rest N E ds d H Q (aIndexAddr P t (opv E x) (opv E i)) :=
 w_rv rfl (by simp only[aop,xIndexAddr,aeval_opv hx,aeval_opv hi,zA1,zA3]) hd
theorem w_load {x:Operand} {t:TypeId} (hx:opOk P N x=true) (hd:d<N):wpOps P ro ops (⟨some d,.load t x,ty,pos,after,none⟩::rest) (mkA N E ds) H Q=valC P ro ops rest N E ds d H Q (aLoad P H t (opv E x)) :=
 w_rv rfl (by simp only[aop,xLoad,aeval_opv hx,zA1,zA3]) hd
def exV (i:Nat):Value->Option Value
 |.tuple l=>l.toList[i]?
 |_=>none
theorem exV_tuple {i:Nat} {l:List Value}:exV i (.tuple ⟨l⟩)=l[i]?:=by simp only[exV]
theorem w_extract {x:Operand} {i:Nat} (hx:opOk P N x=true) (hd:d<N):wpOps P ro ops (⟨some d,.extract x i,ty,pos,after,none⟩::rest) (mkA N E ds) H Q=valC P ro ops rest N E ds d H Q (exV i (opv E x)) :=
 w_rv rfl (by
  simp only[aop,xExtract,aeval_opv hx,zA1,zA3,extractV]
  cases opv E x<;>rfl) hd
def pickV (x y:Value):Value->Option Value
 |.bool true=>some x
 |.bool false=>some y
 |_=>none
theorem pickV_true {x y:Value}:pickV x y (.bool true)=some x:=by simp only[pickV]
theorem pickV_false {x y:Value}:pickV x y (.bool false)=some y:=by simp only[pickV]
theorem w_pick {c x y:Operand} (hc:opOk P N c=true) (hx:opOk P N x=true) (hy:opOk P N y=true) (hd:d<N):wpOps P ro ops (⟨some d,.pick c x y,ty,pos,after,none⟩::rest) (mkA N E ds) H Q=valC P ro ops rest N E ds d H Q (pickV (opv E x) (opv E y) (opv E c)) :=
 w_rv rfl (by
  simp only[aop,xPick,aeval_opv hc,aeval_opv hx,aeval_opv hy,zA1,zA3]
  cases opv E c with
  |bool b=>cases b<;>rfl
  |_=>rfl) hd
def nilW (P:Program) (v:Value):Option Value :=
 match nilV P (AHeap.none 0) v with
 |some (.value y,_)=>some y
 |_=>none
theorem nilW_ptr {p:Addr}:nilW P (.pointer (some p))=some (.pointer (some p)):=by simp only[nilW,nilV]
theorem w_nilCheck {x:Operand} (hx:opOk P N x=true) (hd:d<N) (h:(nilW P (opv E x)).isSome=true):wpOps P ro ops (⟨some d,.nilCheck x,ty,pos,after,none⟩::rest) (mkA N E ds) H Q=valC P ro ops rest N E ds d H Q (nilW P (opv E x)) :=
 w_rv rfl (by
  simp only[aop,xNil,aeval_opv hx,zA1,zA3]
  simp only[nilW]at h ⊢
  unfold nilV at h ⊢
  split<;>simp_all [rv]) hd
def notV:Value->Option Value
 |.bool b=>some (.bool !b)
 |_=>none
theorem notV_bool {b:Bool}:notV (.bool b)=some (.bool !b):=by simp only[notV]
theorem w_not {x:Operand} {t:TypeId} (hx:opOk P N x=true) (hd:d<N) (h:(notV (opv E x)).isSome=true):wpOps P ro ops (⟨some d,.unOp .not t x,ty,pos,after,none⟩::rest) (mkA N E ds) H Q=valC P ro ops rest N E ds d H Q (notV (opv E x)) :=
 w_rv rfl (by
  simp only[aop,xUn,aeval_opv hx,zA1,zA3]
  cases hv:opv E x with
  |bool b=>rfl
  |_=>rw[hv]at h; cases h) hd
theorem w_bin {op:BinOp} {t u:TypeId} {x y:Operand} (hx:opOk P N x=true) (hy:opOk P N y=true) (hd:d<N) (h:(aBin P H op t (opv E x) (opv E y)).isSome=true):wpOps P ro ops (⟨some d,.binOp op t x y u,ty,pos,after,none⟩::rest) (mkA N E ds) H Q=valC P ro ops rest N E ds d H Q (aBin P H op t (opv E x) (opv E y)):=by
 cases hv:aBin P H op t (opv E x) (opv E y) with
 |none=>rw[hv]at h; cases h
 |some v=>exact w_rv (x:=some v) rfl (by simp only[aop,xBin,aeval_opv hx,aeval_opv hy,zA1,zA3,binV,hv]; rfl) hd
theorem isSome_some {α:Type} {v:α}:(some v).isSome=true:=by simp only[Option.isSome_some]
theorem bin_add {t:TypeId} {k:IntKind} {x y:Int}:aBin P H .add t (.int k x) (.int k y)=some (.int k (k.wrap (x+y))):=by simp[aBin,intBin]
theorem bin_sub {t:TypeId} {k:IntKind} {x y:Int}:aBin P H .sub t (.int k x) (.int k y)=some (.int k (k.wrap (x-y))):=by simp[aBin,intBin]
theorem bin_eql {t:TypeId} {k:IntKind} {x y:Int}:aBin P H .eql t (.int k x) (.int k y)=some (.bool (decide (x=y))):=by simp[aBin,intBin]; rfl
theorem bin_neq {t:TypeId} {k:IntKind} {x y:Int}:aBin P H .neq t (.int k x) (.int k y)=some (.bool (decide (x≠y))):=by
 have:(x != y)=decide (x≠y):=by by_cases h:x=y<;>simp[h]
 simp[aBin,intBin,this]
theorem bin_lss {t:TypeId} {k:IntKind} {x y:Int}:aBin P H .lss t (.int k x) (.int k y)=some (.bool (decide (x<y))):=by simp[aBin,intBin]
theorem bin_leq {t:TypeId} {k:IntKind} {x y:Int}:aBin P H .leq t (.int k x) (.int k y)=some (.bool (decide (x<=y))):=by simp[aBin,intBin]
theorem bin_gtr {t:TypeId} {k:IntKind} {x y:Int}:aBin P H .gtr t (.int k x) (.int k y)=some (.bool (decide (y<x))):=by simp[aBin,intBin]
theorem bin_geq {t:TypeId} {k:IntKind} {x y:Int}:aBin P H .geq t (.int k x) (.int k y)=some (.bool (decide (y<=x))):=by simp[aBin,intBin]
theorem w_build {t:TypeId} {l:List (Nat × Operand)} (hd:d<N):wpOps P ro ops (⟨some d,.build t ⟨l⟩,ty,pos,after,none⟩::rest) (mkA N E ds) H Q=valC P ro ops rest N E ds d H Q ((pairs P (mkA N E ds) l).bind (aBuild P t)) :=
 w_rv rfl (by
  simp only[aop,xBuild,zA1]
  cases pairs P (mkA N E ds) l<;>rfl) hd
def ifaceW (P:Program) (t:TypeId) (v:Value):Option Value :=
 match P.underlying t with
 |some (.interface _)=>none
 |some _=>some (.iface t v)
 |none=>none
def allocV (H:AHeap) (t:TypeId):Option Value->Option (Value × AHeap)
 |some z=>(aNew H t z.cells.toList false).map fun g=>(.pointer (some ⟨H.next,0,none⟩),g)
 |none=>none
theorem allocV_some {t:TypeId} {z:Value} (hs:scbL H.next z.cells.toList=true):allocV H t (some z)=some (.pointer (some ⟨H.next,0,none⟩),nw H t z.cells.toList false):=by simp only[allocV,aNew_nw hs,zA5]
theorem w_alloc {t:TypeId} {dst:Option Nat}:wpOps P ro ops (⟨dst,.alloc t,ty,pos,after,none⟩::rest) (mkA N E ds) H Q=heapC P ro ops rest N E ds dst Q (allocV H t (zeroOf P t)) :=
 w_rvh rfl (by
  simp only[aop,xAlloc,zA1]
  cases zeroOf P t with
  |none=>rfl
  |some z =>
   simp only[zA3,xBox,allocV,rvh,zA1]
   cases aNew H t z.cells.toList false<;>rfl)
def storeC (P:Program) (ro:Option Nat) (ops:Array Oper) (rest:List Oper) (a:AAct) (Q:Exit->AAct->AHeap->Prop):Option AHeap->Prop
 |some H1=>wpOps P ro ops rest a H1 Q
 |none=>False
theorem storeC_some {H1:AHeap}:storeC P ro ops rest a Q (some H1)=wpOps P ro ops rest a H1 Q:=by simp only[storeC]
theorem w_store {x y:Operand} {t:TypeId} (hx:opOk P N x=true) (hy:opOk P N y=true):wpOps P ro ops (⟨none,.store t x y,ty,pos,after,none⟩::rest) (mkA N E ds) H Q=storeC P ro ops rest (mkA N E ds) Q (aStore P H t (opv E x) (opv E y)):=by
 rw[w_op rfl rfl]
 simp only[opA,aop,xStore,aeval_opv hx,aeval_opv hy,ruh,zA1,zA3]
 cases aStore P H t (opv E x) (opv E y) with
 |none=>rfl
 |some H1=>simp only[zA5,nextA,opC,put_none,storeC]
def pok (P:Program) (N:Nat):List (Nat × Operand)->Bool
 |[]=>true
 |(_,x)::r=>opOk P N x&&pok P N r
def pmap (E:Env):List (Nat × Operand)->List (Nat × Value)
 |[]=>[]
 |(i,x)::r=>(i,opv E x)::pmap E r
theorem pok_nil:pok P N []=true:=by simp only[pok]
theorem pok_cons {i:Nat} {x:Operand} {r:List (Nat × Operand)}:pok P N ((i,x)::r)=(opOk P N x&&pok P N r):=by simp only[pok]
theorem pmap_nil:pmap E []=[]:=by simp only[pmap]
theorem pmap_cons {i:Nat} {x:Operand} {r:List (Nat × Operand)}:pmap E ((i,x)::r)=(i,opv E x)::pmap E r:=by simp only[pmap]
theorem pairs_ok:∀ {l:List (Nat × Operand)},pok P N l=true->pairs P (mkA N E ds) l=some (pmap E l)
 |[],_=>rfl
 |(i,x)::r,h=>by
  simp only[pok,zA4]at h
  simp only[pairs,aeval_opv h.1,pairs_ok h.2,zA1,zA3,pmap]
theorem w_call {f:FuncId} {args:List Operand} {ts:Array TypeId} {dst:Option Nat} (ha:args.all (opOk P N)=true) (hb:hasBody P f=true) :
  wpOps P ro ops (⟨dst,.call ⟨.value (.func f),⟨args⟩,ts⟩,ty,pos,after,none⟩::rest) (mkA N E ds) H Q=CallA P f (args.map (opv E)) H (opC P ro ops rest (mkA N E ds) dst Q):=by
 rw[w_op rfl rfl]
 simp only[opA,aop,xCall,aevals_opv ha,aeval,zA1,zA3,callV,aInvoke,enterN,hb,if_true,zD5,zE2,zA5,nextA]
theorem opC_ok {v:Value} (hd:d<N):opC P ro ops rest (mkA N E ds) (some d) Q (.ok v) H=wpOps P ro ops rest (mkA N (upd E d v) ds) H Q:=by simp only[opC,put_some N E ds d v hd]
theorem w_builtin {b:Builtin} {args:List Operand} {ts:Array TypeId} {dst:Option Nat} (ha:args.all (opOk P N)=true) :
  wpOps P ro ops (⟨dst,.call ⟨.builtin b,⟨args⟩,ts⟩,ty,pos,after,none⟩::rest) (mkA N E ds) H Q=heapC P ro ops rest N E ds dst Q (aBuiltin P H b ts (args.map (opv E))) :=
 w_rvh rfl (by simp only[aop,xCall,aevals_opv ha,zA1,zA3])
theorem w_box {x:Operand} {t:TypeId} (hx:opOk P N x=true) (hd:d<N) (hs:scbL H.next (opv E x).cells.toList=true):wpOps P ro ops (⟨some d,.box t x,ty,pos,after,none⟩::rest) (mkA N E ds) H Q =
  wpOps P ro ops rest (mkA N (upd E d (.pointer (some ⟨H.next,0,none⟩))) ds) (nw H t (opv E x).cells.toList false) Q:=by
 rw[w_op rfl rfl]
 simp only[opA,aop,xBoxOp,aeval_opv hx,zA1,zA3,xBox,aNew_nw hs,nextA,opC,put_some N E ds d _ hd]
end
end
section
variable {P : Program} {ro : Option Nat} {H : AHeap} {N : Nat} {E : Env} {ds : List Deferred}
def genD (P:Program) (o:Oper) (a:AAct) (H:AHeap) (anc i:Nat) (fps:List Fp) (K:List Fp->Value->AHeap->Prop):Prop :=
 ∃ F v g,OpS P a (H.restrict F) o (.ok v) g/\(∀ n∈F,H.get n≠none)/\(∀ n∈g.dirty,n∈F)/\(∀ r∈fps,fpOk anc F v g H.next r=true)/\K (⟨i,F,g.dirty,H.next,g.next⟩::fps) v (H.merge g)
def loadD (P:Program) (t:TypeId) (H:AHeap) (anc i:Nat) (fps:List Fp) (K:List Fp->Value->AHeap->Prop):Option Value->Prop
 |some (.pointer (some ⟨n,off,none⟩))=>(match aLoad P H t (.pointer (some ⟨n,off,none⟩)) with
  |some v=>(∀ r∈fps,Meets anc [n] [] (idsV v) r)/\K (⟨i,[n],[],H.next,H.next⟩::fps) v H
  |none=>False)
 |_=>False
def pureD (K:List Fp->Value->AHeap->Prop) (H:AHeap) (anc:Nat) (fps:List Fp):ARes->Prop
 |some (.value v,_)=>IdsOk anc fps (idsV v)/\K fps v H
 |_=>False
def regBin (P:Program) (op:BinOp) (t:TypeId):Value->Value->Option Value
 |.int k p,.int k' q=>if k=k' then intBin op k p q else none
 |.bool p,.bool q=>(match P.underlying t with
  |some .bool=>eqOp op (p == q)
  |_=>none)
 |_,_=>none
theorem regBin_aBin {op:BinOp} {t:TypeId} {p q v:Value} (h:regBin P op t p q=some v) (G:AHeap):aBin P G op t p q=some v:=by
 unfold regBin at h
 split at h
 ·simp only[aBin]; exact h
 ·simp only[aBin]; exact h
 ·cases h
def binD (P:Program) (op:BinOp) (t:TypeId) (K:List Fp->Value->AHeap->Prop) (H:AHeap) (anc:Nat) (fps:List Fp) (D:Prop):Option Value->Option Value->Prop
 |some p,some q=>(match regBin P op t p q with
  |some v=>IdsOk anc fps (idsV v)/\K fps v H
  |none=>D)
 |_,_=>D
def storeD (P:Program) (t:TypeId) (H:AHeap) (anc i:Nat) (fps:List Fp) (K:List Fp->Value->AHeap->Prop):Option Value->Option Value->Prop
 |some (.pointer (some ⟨n,off,none⟩)),some v=>(match aStore P H t (.pointer (some ⟨n,off,none⟩)) v with
  |some H1=>n<H.next/\(∀ r∈fps,Meets anc [n] [n] (idsAt H1 n) r)/\K (⟨i,[n],[n],H.next,H.next⟩::fps) undef H1
  |none=>False)
 |_,_=>False
def newOp:Op->Bool
 |.alloc _=>true
 |.box _ _=>true
 |.buildSlice _ _ _=>true
 |.makeSlice _ _ _=>true
 |_=>false
theorem new_fun {op:Op} (hp:newOp op=true) (a:AAct):∃ f:Nat->Option (Value × AObj),∀ G:AHeap,aop op P a G=(f G.next).map fun x=>(.value x.1,G.new x.2):=by
 have key:∀ (t:TypeId) (v:Value),∃ f:Nat->Option (Value × AObj),∀ G:AHeap,xBox t v G=(f G.next).map fun x=>(.value x.1,G.new x.2):=by
  intro t v
  refine⟨fun n=>if scbL n v.cells.toList then some (.pointer (some ⟨n,0,none⟩),⟨.cells #[] t,false,RV.ofList v.cells.toList⟩) else none,fun G=>?_⟩
  simp only[xBox,aNew,zA1]
  split<;>rfl
 cases op with
 |alloc t =>
  simp only[aop,xAlloc]
  cases zeroOf P t with
  |none=>exact⟨fun _=>none,fun G=>rfl⟩
  |some z=>exact key t z
 |box t x =>
  simp only[aop,xBoxOp]
  cases aeval P a x with
  |none=>exact⟨fun _=>none,fun G=>rfl⟩
  |some z=>exact key t z
 |buildSlice t n ps =>
  simp only[aop,xBuildSlice]
  cases pairs P a ps.toList with
  |none=>exact⟨fun _=>none,fun G=>rfl⟩
  |some l =>
   simp only[zA1,zA3,aBuildSlice]
   cases hu:P.underlying t with
   |none=>exact⟨fun _=>none,fun G=>rfl⟩
   |some td =>
    cases td with
    |slice e =>
     simp only[zA3]
     cases hsz:szOf P e with
     |none=>exact⟨fun _=>none,fun G=>rfl⟩
     |some sz =>
      cases hz:zeroOf P e with
      |none=>exact⟨fun _=>none,fun G=>rfl⟩
      |some z =>
       simp only[zA3]
       split
       ·cases hf:Instr.fill (fun i=>some (i*sz,sz)) (zerosL z.cells.toList n).toArray l with
        |none=>exact⟨fun _=>none,fun G=>rfl⟩
        |some cells =>
         refine⟨fun m=>if scbL m cells.toList then some (.slice (some ⟨m,0,some 0⟩) n n,⟨.cells #[] e,false,RV.ofList cells.toList⟩) else none,fun G=>?_⟩
         simp only[zA3,aNew,rvh]
         split<;>rfl
       ·exact⟨fun _=>none,fun G=>rfl⟩
    |_=>exact⟨fun _=>none,fun G=>rfl⟩
 |makeSlice t l c =>
  simp only[aop,xMakeSlice]
  cases aeval P a l with
  |none=>exact⟨fun _=>none,fun G=>rfl⟩
  |some l =>
   cases aeval P a c with
   |none=>exact⟨fun _=>none,fun G=>rfl⟩
   |some c =>
    simp only[zA1,zA3]
    unfold aMakeSlice
    split
    ·rename_i l c
     cases hu:P.underlying t with
     |none=>exact⟨fun _=>none,fun G=>rfl⟩
     |some td =>
      cases td with
      |slice e =>
       simp only[zA1,zA3]
       cases hby:bytesOf P e with
       |none=>exact⟨fun _=>none,fun G=>rfl⟩
       |some by1 =>
        cases hsz:szOf P e with
        |none=>exact⟨fun _=>none,fun G=>rfl⟩
        |some sz =>
         cases hz:zeroOf P e with
         |none=>exact⟨fun _=>none,fun G=>rfl⟩
         |some z =>
          simp only[zA3]
          split
          ·refine⟨fun m=>if scbL m (zerosL z.cells.toList c.toNat) then some (.slice (some ⟨m,0,some 0⟩) l.toNat c.toNat,⟨.cells #[] e,false,RV.ofList (zerosL z.cells.toList c.toNat)⟩) else none,fun G=>?_⟩
           simp only[aNew,rvh]
           split<;>rfl
          ·exact⟨fun _=>none,fun G=>rfl⟩
      |_=>exact⟨fun _=>none,fun G=>rfl⟩
    ·exact⟨fun _=>none,fun G=>rfl⟩
 |_=>cases hp
def newD (H:AHeap) (anc i:Nat) (fps:List Fp) (K:List Fp->Value->AHeap->Prop):ARes->Prop
 |some (.value v,H1)=>(∀ r∈fps,Meets anc [] [] (idsV v++idsAt H1 H.next) r)/\K (⟨i,[],[],H.next,H.next+1⟩::fps) v H1
 |_=>False
def regBt (P:Program) (b:Builtin) (ts:Array TypeId) (vs:List Value):Option Value :=
 match b with
 |.len=>(match ts.toList,vs with
  |t::_,[x]=>(match P.underlying t,x with
   |some (.slice _),.slice _ n _=>some (goInt n)
   |some .string,.string s=>some (goInt s.size)
   |_,_=>none)
  |_,_=>none)
 |.max=>aMinMax true vs
 |.min=>aMinMax false vs
 |_=>none
theorem regBt_aBuiltin {b:Builtin} {ts:Array TypeId} {vs:List Value} {v:Value} (h:regBt P b ts vs=some v) (G:AHeap):aBuiltin P G b ts vs=some (v,G):=by
 unfold regBt at h
 split at h
 ·split at h
  ·rename_i t _ x hts
   split at h
   ·rename_i hu
    simp only[aBuiltin,hts,aLen,hu]
    simp only[Option.some.injEq]at h
    rw[h]; rfl
   ·rename_i hu
    simp only[aBuiltin,hts,aLen,hu]
    simp only[Option.some.injEq]at h
    rw[h]; rfl
   ·cases h
  ·cases h
 ·simp only[aBuiltin,h,zA5]
 ·simp only[aBuiltin,h,zA5]
 ·cases h
def btD (P:Program) (b:Builtin) (ts:Array TypeId) (K:List Fp->Value->AHeap->Prop) (H:AHeap) (anc:Nat) (fps:List Fp) (D:Prop):Option (List Value)->Prop
 |some vs=>(match regBt P b ts vs with
  |some v=>IdsOk anc fps (idsV v)/\K fps v H
  |none=>D)
 |none=>D
def restD (P:Program) (o:Oper) (a:AAct) (H:AHeap) (anc i:Nat) (fps:List Fp) (K:List Fp->Value->AHeap->Prop):Prop :=
 match newOp o.op with
 |true=>newD H anc i fps K (aop o.op P a H)
 |false=>(match o.op with
  |.call ⟨.builtin b,args,ts⟩=>btD P b ts K H anc fps (genD P o a H anc i fps K) (aevals P a args.toList)
  |_=>genD P o a H anc i fps K)
def stepD (P:Program) (o:Oper) (a:AAct) (H:AHeap) (anc i:Nat) (fps:List Fp) (K:List Fp->Value->AHeap->Prop):Prop :=
 match pureOp o.op with
 |true=>pureD K H anc fps (aop o.op P a H)
 |false=>(match o.op with
  |.load t x=>loadD P t H anc i fps K (aeval P a x)
  |.store t x y=>storeD P t H anc i fps K (aeval P a x) (aeval P a y)
  |.binOp op t x y _=>binD P op t K H anc fps (genD P o a H anc i fps K) (aeval P a x) (aeval P a y)
  |_=>restD P o a H anc i fps K)
def wkD (P:Program) (ops:Array Oper) (anc:List Nat):List Oper->Nat->List Fp->AAct->AHeap->(AAct->AHeap->Prop)->Prop
 |[],_,_,a,H,Q=>Q a H
 |o::rest,i,fps,a,H,Q =>
  match wantA ops a o with
  |some true=>stepD P o a H (anc.getD i 0) i fps fun fps' v H1=>wkD P ops anc rest (i+1) fps' (a.put o.dst v) H1 Q
  |some false=>wkD P ops anc rest (i+1) fps (a.put o.dst undef) H Q
  |none=>False
theorem wpDraw_store {ops:Array Oper} {anc:List Nat} {o:Oper} {rest:List Oper} {i:Nat} {fps:List Fp} {a:AAct} {Q:AAct->AHeap->Prop} {t:TypeId} {x y:Operand} {v:Value} {n off:Nat} {H1:AHeap} (ho:o.op=.store t x y) (hw:wantA ops a o=some true)
  (hx:aeval P a x=some (.pointer (some ⟨n,off,none⟩))) (hy:aeval P a y=some v) (hs:aStore P H t (.pointer (some ⟨n,off,none⟩)) v=some H1) (hlt:n<H.next) (hm:∀ r∈fps,Meets (anc.getD i 0) [n] [n] (idsAt H1 n) r)
  (h:wpDraw P ops anc rest (i+1) (⟨i,[n],[n],H.next,H.next⟩::fps) (a.put o.dst undef) H1 Q):wpDraw P ops anc (o::rest) i fps a H Q:=by
 have hn:=restrict_next H [n]
 have hgn:(H.restrict [n]).get n=H.get n:=by rw[restrict_get]; simp
 simp only[aStore,zA1]at hs
 cases hsz:szOf P t with
 |none=>rw[hsz]at hs; cases hs
 |some sz =>
  rw[hsz]at hs
  simp only[zA3]at hs
  split at hs
  ·rename_i hl
   subst hl
   simp only[aWrite,zA1]at hs
   cases hc:cellsAt H n with
   |none=>rw[hc]at hs; cases hs
   |some z =>
    obtain⟨rv,e,ob⟩:=z
    rw[hc]at hs
    simp only[zA3]at hs
    split at hs
    ·rename_i hcond
     simp only[Option.some.injEq]at hs
     subst hs
     have hcr:cellsAt (H.restrict [n]) n=some (rv,e,ob):=by rw[<-hc]; simp only[cellsAt,hgn]
     have hst:aStore P (H.restrict [n]) t (.pointer (some ⟨n,off,none⟩)) v=some ((H.restrict [n]).upd n (some ⟨.cells #[] e,ob,rv.sets off v.cells.toList⟩)):=by
      simp only[aStore,hsz,zA1,zA3,if_true,aWrite,hcr,hn.1,hcond]
     have hd:((H.restrict [n]).upd n (some ⟨.cells #[] e,ob,rv.sets off v.cells.toList⟩)).dirty=[n]:=by
      simp only[AHeap.upd_eq,hn.2.1,hn.2.2,blt_of hlt,if_true]
     have hnx:((H.restrict [n]).upd n (some ⟨.cells #[] e,ob,rv.sets off v.cells.toList⟩)).next=H.next:=hn.1
     have hgg:((H.restrict [n]).upd n (some ⟨.cells #[] e,ob,rv.sets off v.cells.toList⟩)).get n=some ⟨.cells #[] e,ob,rv.sets off v.cells.toList⟩:=by rw[AHeap.get_upd,if_pos rfl]
     have hmg:H.merge ((H.restrict [n]).upd n (some ⟨.cells #[] e,ob,rv.sets off v.cells.toList⟩))=H.upd n (some ⟨.cells #[] e,ob,rv.sets off v.cells.toList⟩):=by
      unfold AHeap.merge
      rw[hd,hnx,Nat.sub_self]
      simp only[AHeap.mergeW,AHeap.mergeN,hgg]
      rfl
     simp only[wpDraw,hw]
     refine⟨[n],undef,_,opS_of (x:=.skip) (g:=(H.restrict [n]).upd n (some ⟨.cells #[] e,ob,rv.sets off v.cells.toList⟩)) ?_ ⟨rfl,rfl⟩,?_,by rw[hd]; simp,fun r hr=>fpOk_of ?_,?_⟩
     ·rw[ho]
      simp only[aop,xStore,hx,hy,hst,ruh,zA1,zA3,zA5]
     ·intro m hm'
      simp only[zB4]at hm'
      subst hm'
      intro hg
      simp[cellsAt,hg]at hc
     ·have hi:idsAt ((H.restrict [n]).upd n (some ⟨.cells #[] e,ob,rv.sets off v.cells.toList⟩)) n=idsAt (H.upd n (some ⟨.cells #[] e,ob,rv.sets off v.cells.toList⟩)) n:=by
       simp only[idsAt,AHeap.get_upd,if_true]
      have:outIds undef ((H.restrict [n]).upd n (some ⟨.cells #[] e,ob,rv.sets off v.cells.toList⟩)) H.next=idsAt (H.upd n (some ⟨.cells #[] e,ob,rv.sets off v.cells.toList⟩)) n:=by
       simp only[outIds,hnx,hd,Nat.sub_self,rangeFrom,zE2,zE1,List.flatMap_nil,undef,idsV,idsA,idsL,zD5]
       exact hi
      rw[hd,this]
      exact hm r hr
     ·rw[hmg,hd,hnx]; exact h
    ·cases hs
  ·cases hs
theorem wpDraw_new {ops:Array Oper} {anc:List Nat} {o:Oper} {rest:List Oper} {i:Nat} {fps:List Fp} {a:AAct} {Q:AAct->AHeap->Prop} {v:Value} {H1:AHeap} (hp:newOp o.op=true) (hw:wantA ops a o=some true)
  (hx:aop o.op P a H=some (.value v,H1)) (hm:∀ r∈fps,Meets (anc.getD i 0) [] [] (idsV v++idsAt H1 H.next) r)
  (h:wpDraw P ops anc rest (i+1) (⟨i,[],[],H.next,H.next+1⟩::fps) (a.put o.dst v) H1 Q):wpDraw P ops anc (o::rest) i fps a H Q:=by
 obtain⟨f,hf⟩:=new_fun (P:=P) hp a
 have hn:=restrict_next H []
 rw[hf H]at hx
 cases hfn:f H.next with
 |none=>rw[hfn]at hx; cases hx
 |some z =>
  obtain⟨u,ob⟩:=z
  rw[hfn]at hx
  simp only[zA5,Option.some.injEq,Prod.mk.injEq,ANext.value.injEq]at hx
  obtain⟨rfl,rfl⟩:=hx
  have hd:((H.restrict []).new ob).dirty=[]:=hn.2.2
  have hnx:((H.restrict []).new ob).next=H.next+1:=by simp only[AHeap.new_eq,hn.1]
  have hg:((H.restrict []).new ob).get H.next=some ob:=by rw[AHeap.get_new,if_pos hn.1.symm]
  have hmg:H.merge ((H.restrict []).new ob)=H.new ob:=by
   unfold AHeap.merge
   rw[hd,hnx,Nat.add_sub_cancel_left]
   simp only[AHeap.mergeW,AHeap.mergeN,hg]
   rfl
  simp only[wpDraw,hw]
  refine⟨[],u,(H.restrict []).new ob,opS_of (x:=.value u) (g:=(H.restrict []).new ob) ?_ ⟨rfl,rfl⟩,by simp,by rw[hd]; simp,fun r hr=>fpOk_of ?_,?_⟩
  ·rw[hf,hn.1,hfn]; rfl
  ·have hi:idsAt ((H.restrict []).new ob) H.next=idsAt (H.new ob) H.next:=by
    simp only[idsAt,hg,AHeap.get_new,if_true]
   have:outIds u ((H.restrict []).new ob) H.next=idsV u++idsAt (H.new ob) H.next:=by
    simp only[outIds,hnx,hd,Nat.add_sub_cancel_left,rangeFrom,zD5,zE1,List.flatMap_nil,zE2,hi]
   rw[hd,this]
   exact hm r hr
  ·rw[hmg,hd,hnx]; exact h
theorem wkD_draw {ops:Array Oper} {anc:List Nat} {Q:AAct->AHeap->Prop}:∀ (rest:List Oper) (i:Nat) (fps:List Fp) (a:AAct) (H:AHeap),wkD P ops anc rest i fps a H Q->wpDraw P ops anc rest i fps a H Q
 |[],_,_,_,_,h=>h
 |o::rest,i,fps,a,H,h=>by
  simp only[wkD]at h
  split at h
  ·rename_i hw
   unfold stepD at h
   split at h
   ·rename_i hp
    unfold pureD at h
    split at h
    ·rename_i v g hx
     obtain⟨f,hf⟩:=pure_fun (P:=P) hp a
     have hg:g=H:=by
      have:=hf H
      rw[hx]at this
      cases f with
      |none=>cases this
      |some y=>simp only[zA5,Option.some.injEq,Prod.mk.injEq]at this; exact this.2
     subst hg
     exact wpDraw_pure hp hw hx h.1 (wkD_draw rest _ _ _ _ h.2)
    ·exact h.elim
   ·split at h
    ·rename_i t x hop
     unfold loadD at h
     split at h
     ·rename_i n off hx
      split at h
      ·rename_i v hl
       exact wpDraw_load hop hw hx hl h.1 (wkD_draw rest _ _ _ _ h.2)
      ·exact h.elim
     ·exact h.elim
    ·rename_i t x y hop
     unfold storeD at h
     split at h
     ·rename_i n off v hx hy
      split at h
      ·rename_i H1 hs
       exact wpDraw_store hop hw hx hy hs h.1 h.2.1 (wkD_draw rest _ _ _ _ h.2.2)
      ·exact h.elim
     ·exact h.elim
    ·rename_i op t x y u hop
     have gen:genD P o a H (anc.getD i 0) i fps (fun fps' v H1=>wkD P ops anc rest (i+1) fps' (a.put o.dst v) H1 Q)->wpDraw P ops anc (o::rest) i fps a H Q:=by
      rintro⟨F,v,g,h1,h2,h3,h4,h5⟩
      simp only[wpDraw,hw]
      exact⟨F,v,g,h1,h2,h3,h4,wkD_draw rest _ _ _ _ h5⟩
     unfold binD at h
     split at h
     ·rename_i p q hx hy
      split at h
      ·rename_i v hv
       refine wpDraw_reg hw (fun G=>?_) h.1 (wkD_draw rest _ _ _ _ h.2)
       rw[hop]
       simp only[aop,xBin,hx,hy,zA1,zA3,binV,regBin_aBin hv G]
      ·exact gen h
     ·exact gen h
    ·have gen:genD P o a H (anc.getD i 0) i fps (fun fps' v H1=>wkD P ops anc rest (i+1) fps' (a.put o.dst v) H1 Q)->wpDraw P ops anc (o::rest) i fps a H Q:=by
      rintro⟨F,v,g,h1,h2,h3,h4,h5⟩
      simp only[wpDraw,hw]
      exact⟨F,v,g,h1,h2,h3,h4,wkD_draw rest _ _ _ _ h5⟩
     unfold restD at h
     split at h
     ·rename_i hp
      unfold newD at h
      split at h
      ·rename_i v H1 hx
       exact wpDraw_new hp hw hx h.1 (wkD_draw rest _ _ _ _ h.2)
      ·exact h.elim
     ·split at h
      ·rename_i b args ts hop
       unfold btD at h
       split at h
       ·rename_i vs hvs
        split at h
        ·rename_i v hv
         refine wpDraw_reg hw (fun G=>?_) h.1 (wkD_draw rest _ _ _ _ h.2)
         rw[hop]
         simp only[aop,xCall,hvs,zA1,zA3,regBt_aBuiltin hv G,rvh,zA5]
        ·exact gen h
       ·exact gen h
      ·exact gen h
  ·rename_i hw
   simp only[wpDraw,hw]
   exact wkD_draw rest _ _ _ _ h
  ·exact h.elim
section
variable {ops : Array Oper} {anc : List Nat} {d : Nat} {ty : TypeId} {pos : String} {after : Array Edge} {rest : List Oper} {i : Nat} {fps : List Fp} {Q : AAct -> AHeap -> Prop}
def valD (P:Program) (ops:Array Oper) (anc:List Nat) (rest:List Oper) (i:Nat) (fps:List Fp) (N:Nat) (E:Env) (ds:List Deferred) (d:Nat) (H:AHeap) (Q:AAct->AHeap->Prop):Option Value->Prop
 |some v=>IdsOk (anc.getD i 0) fps (idsV v)/\wkD P ops anc rest (i+1) fps (mkA N (upd E d v) ds) H Q
 |none=>False
theorem valD_some {v:Value}:valD P ops anc rest i fps N E ds d H Q (some v)=(IdsOk (anc.getD i 0) fps (idsV v)/\wkD P ops anc rest (i+1) fps (mkA N (upd E d v) ds) H Q):=by simp only[valD]
theorem w_draw {Q:Exit->AAct->AHeap->Prop} {id:Nat} {l:List Oper} {a:AAct} (hst:staticOk ⟨l⟩=true) (h:wkD P ⟨l⟩ (ancs ⟨l⟩) l 0 [] a H (Q .normal)):wpA P ro (.region id ⟨l⟩ true) Q a H :=
 ⟨hst,.inl (wkD_draw l 0 [] a H h)⟩
theorem wd_nil {a:AAct}:wkD P ops anc [] i fps a H Q=Q a H:=by simp only[wkD]
theorem wd_rv {op:Op} {x:Option Value} (hp:pureOp op=true) (h:aop op P (mkA N E ds) H=rv H x) (hd:d<N):wkD P ops anc (⟨some d,op,ty,pos,after,none⟩::rest) i fps (mkA N E ds) H Q=valD P ops anc rest i fps N E ds d H Q x:=by
 simp only[wkD,wantA,stepD,hp,h,rv]
 cases x with
 |none=>rfl
 |some v=>simp only[zA5,pureD,put_some N E ds d v hd,valD]
theorem wd_move {x:Operand} (hx:opOk P N x=true) (hd:d<N):wkD P ops anc (⟨some d,.move x,ty,pos,after,none⟩::rest) i fps (mkA N E ds) H Q=valD P ops anc rest i fps N E ds d H Q (some (opv E x)) :=
 wd_rv rfl (by simp only[aop,xMove,aeval_opv hx]) hd
theorem wd_assign {x:Operand} (hx:opOk P N x=true) (hd:d<N):wkD P ops anc (⟨some d,.assign x,ty,pos,after,none⟩::rest) i fps (mkA N E ds) H Q=valD P ops anc rest i fps N E ds d H Q (some (opv E x)) :=
 wd_rv rfl (by simp only[aop,xMove,aeval_opv hx]) hd
theorem wd_fieldAddr {x:Operand} {t:TypeId} {f:Nat} (hx:opOk P N x=true) (hd:d<N):wkD P ops anc (⟨some d,.fieldAddr t x f,ty,pos,after,none⟩::rest) i fps (mkA N E ds) H Q=valD P ops anc rest i fps N E ds d H Q (aFieldAddr P t (opv E x) f) :=
 wd_rv rfl (by simp only[aop,xFieldAddr,aeval_opv hx,zA1,zA3]) hd
theorem wd_indexAddr {x y:Operand} {t:TypeId} (hx:opOk P N x=true) (hi:opOk P N y=true) (hd:d<N):wkD P ops anc (⟨some d,.indexAddr t x y,ty,pos,after,none⟩::rest) i fps (mkA N E ds) H Q=valD P ops anc rest i fps N E ds d H Q (aIndexAddr P t (opv E x) (opv E y)) :=
 wd_rv rfl (by simp only[aop,xIndexAddr,aeval_opv hx,aeval_opv hi,zA1,zA3]) hd
theorem wd_nilCheck {x:Operand} (hx:opOk P N x=true) (hd:d<N) (h:(nilW P (opv E x)).isSome=true):wkD P ops anc (⟨some d,.nilCheck x,ty,pos,after,none⟩::rest) i fps (mkA N E ds) H Q=valD P ops anc rest i fps N E ds d H Q (nilW P (opv E x)) :=
 wd_rv rfl (by
  simp only[aop,xNil,aeval_opv hx,zA1,zA3]
  simp only[nilW]at h ⊢
  unfold nilV at h ⊢
  split<;>simp_all [rv]) hd
theorem wd_build {t:TypeId} {l:List (Nat × Operand)} (hd:d<N):wkD P ops anc (⟨some d,.build t ⟨l⟩,ty,pos,after,none⟩::rest) i fps (mkA N E ds) H Q=valD P ops anc rest i fps N E ds d H Q ((pairs P (mkA N E ds) l).bind (aBuild P t)) :=
 wd_rv rfl (by
  simp only[aop,xBuild,zA1]
  cases pairs P (mkA N E ds) l<;>rfl) hd
theorem wd_pick {c x y:Operand} (hc:opOk P N c=true) (hx:opOk P N x=true) (hy:opOk P N y=true) (hd:d<N):wkD P ops anc (⟨some d,.pick c x y,ty,pos,after,none⟩::rest) i fps (mkA N E ds) H Q=valD P ops anc rest i fps N E ds d H Q (pickV (opv E x) (opv E y) (opv E c)) :=
 wd_rv rfl (by
  simp only[aop,xPick,aeval_opv hc,aeval_opv hx,aeval_opv hy,zA1,zA3]
  cases opv E c with
  |bool b=>cases b<;>rfl
  |_=>rfl) hd
theorem wd_bin {op:BinOp} {t u:TypeId} {x y:Operand} (hx:opOk P N x=true) (hy:opOk P N y=true) (hd:d<N) (h:(regBin P op t (opv E x) (opv E y)).isSome=true):wkD P ops anc (⟨some d,.binOp op t x y u,ty,pos,after,none⟩::rest) i fps (mkA N E ds) H Q=valD P ops anc rest i fps N E ds d H Q (regBin P op t (opv E x) (opv E y)):=by
 cases hv:regBin P op t (opv E x) (opv E y) with
 |none=>rw[hv]at h; cases h
 |some v=>simp only[wkD,wantA,stepD,pureOp,binD,aeval_opv hx,aeval_opv hy,hv,put_some N E ds d v hd,valD]
def loadV (P:Program) (ops:Array Oper) (anc:List Nat) (rest:List Oper) (i:Nat) (fps:List Fp) (N:Nat) (E:Env) (ds:List Deferred) (d:Nat) (H:AHeap) (Q:AAct->AHeap->Prop) (n:Nat):Option Value->Prop
 |some v=>(∀ r∈fps,Meets (anc.getD i 0) [n] [] (idsV v) r)/\wkD P ops anc rest (i+1) (⟨i,[n],[],H.next,H.next⟩::fps) (mkA N (upd E d v) ds) H Q
 |none=>False
theorem loadV_some {n:Nat} {v:Value}:loadV P ops anc rest i fps N E ds d H Q n (some v)=((∀ r∈fps,Meets (anc.getD i 0) [n] [] (idsV v) r)/\wkD P ops anc rest (i+1) (⟨i,[n],[],H.next,H.next⟩::fps) (mkA N (upd E d v) ds) H Q):=by simp only[loadV]
def ptrB:Value->Nat
 |.pointer (some a)=>a.block
 |_=>0
def plainPtr:Value->Bool
 |.pointer (some ⟨_,_,none⟩)=>true
 |_=>false
theorem ptrB_eq {n off:Nat}:ptrB (.pointer (some ⟨n,off,none⟩))=n:=by simp only[ptrB]
theorem plainPtr_eq {n off:Nat}:plainPtr (.pointer (some ⟨n,off,none⟩))=true:=by simp only[plainPtr]
theorem wd_load {x:Operand} {t:TypeId} (hx:opOk P N x=true) (hd:d<N) (hp:plainPtr (opv E x)=true):wkD P ops anc (⟨some d,.load t x,ty,pos,after,none⟩::rest) i fps (mkA N E ds) H Q=loadV P ops anc rest i fps N E ds d H Q (ptrB (opv E x)) (aLoad P H t (opv E x)):=by
 simp only[wkD,wantA,stepD,pureOp,aeval_opv hx]
 unfold plainPtr at hp
 split at hp
 ·rename_i n off heq
  rw[heq]
  simp only[loadD,ptrB]
  cases aLoad P H t (.pointer (some ⟨n,off,none⟩)) with
  |none=>rfl
  |some v=>simp only[put_some N E ds d v hd,loadV]
 ·cases hp
def genV (P:Program) (ops:Array Oper) (anc:List Nat) (o:Oper) (rest:List Oper) (i:Nat) (fps:List Fp) (a:AAct) (H:AHeap) (Q:AAct->AHeap->Prop):Prop :=
 genD P o a H (anc.getD i 0) i fps fun fps' v H1=>wkD P ops anc rest (i+1) fps' (a.put o.dst v) H1 Q
theorem wd_call {f:Operand} {args:Array Operand} {ts:Array TypeId} {dst:Option Nat}:wkD P ops anc (⟨dst,.call ⟨.value f,args,ts⟩,ty,pos,after,none⟩::rest) i fps (mkA N E ds) H Q=genV P ops anc ⟨dst,.call ⟨.value f,args,ts⟩,ty,pos,after,none⟩ rest i fps (mkA N E ds) H Q:=by
 simp only[wkD,wantA,stepD,pureOp,restD,newOp,genV]
theorem genV_quiet {f:FuncId} {args:List Operand} {ts:Array TypeId} {v:Value} (F:List Nat) (ha:args.all (opOk P N)=true) (hb:hasBody P f=true) (hd:d<N) (hF:∀ n∈F,H.get n≠none)
  (hc:∀ G:AHeap,G.next=H.next->(∀ n∈F,G.get n=H.get n)->CallS P f (args.map (opv E)) G (.ok v) G) (hm:∀ r∈fps,Meets (anc.getD i 0) F [] (idsV v) r)
  (h:wkD P ops anc rest (i+1) (⟨i,F,[],H.next,H.next⟩::fps) (mkA N (upd E d v) ds) H Q):genV P ops anc ⟨some d,.call ⟨.value (.func f),⟨args⟩,ts⟩,ty,pos,after,none⟩ rest i fps (mkA N E ds) H Q:=by
 have hn:=restrict_next H F
 refine⟨F,v,H.restrict F,?_,hF,(by rw[hn.2.2]; simp),fun r hr=>fpOk_of ?_,?_⟩
 ·refine opS_of (x:=.enter f (args.map (opv E))) (g:=H.restrict F) ?_ (hc _ hn.1 (fun n hn'=>by rw[restrict_get,if_pos hn']))
  simp only[aop,xCall,aevals_opv ha,aeval,zA1,zA3,callV,aInvoke,enterN,hb,if_true,zD5,zE2,zA5]
 ·simp only[outIds,hn.2.2,hn.1,Nat.sub_self,rangeFrom,zE2,List.flatMap_nil]
  exact hm r hr
 ·rw[merge_self,hn.2.2,hn.1]
  simp only[put_some N E ds d v hd]
  exact h
theorem reg_add {t:TypeId} {k:IntKind} {x y:Int}:regBin P .add t (.int k x) (.int k y)=some (.int k (k.wrap (x+y))):=by simp[regBin,intBin]
theorem reg_sub {t:TypeId} {k:IntKind} {x y:Int}:regBin P .sub t (.int k x) (.int k y)=some (.int k (k.wrap (x-y))):=by simp[regBin,intBin]
theorem reg_lss {t:TypeId} {k:IntKind} {x y:Int}:regBin P .lss t (.int k x) (.int k y)=some (.bool (decide (x<y))):=by simp[regBin,intBin]
theorem reg_leq {t:TypeId} {k:IntKind} {x y:Int}:regBin P .leq t (.int k x) (.int k y)=some (.bool (decide (x<=y))):=by simp[regBin,intBin]
theorem reg_gtr {t:TypeId} {k:IntKind} {x y:Int}:regBin P .gtr t (.int k x) (.int k y)=some (.bool (decide (y<x))):=by simp[regBin,intBin]
theorem reg_geq {t:TypeId} {k:IntKind} {x y:Int}:regBin P .geq t (.int k x) (.int k y)=some (.bool (decide (y<=x))):=by simp[regBin,intBin]
theorem reg_eql {t:TypeId} {k:IntKind} {x y:Int}:regBin P .eql t (.int k x) (.int k y)=some (.bool (decide (x=y))):=by simp[regBin,intBin]; rfl
theorem reg_neq {t:TypeId} {k:IntKind} {x y:Int}:regBin P .neq t (.int k x) (.int k y)=some (.bool (decide (x≠y))):=by
 have:(x != y)=decide (x≠y):=by by_cases h:x=y<;>simp[h]
 simp[regBin,intBin,this]
theorem reg_neb {t:TypeId} {x y:Bool} (h:P.underlying t=some .bool):regBin P .neq t (.bool x) (.bool y)=some (.bool (decide (x≠y))):=by simp only[regBin,h,eqOp]; cases x<;>cases y<;>rfl
theorem bt_min {ts:Array TypeId} {k:IntKind} {x y:Int}:aBuiltin P H .min ts [.int k x,.int k y]=some (.int k (min x y),H):=by
 have:(if y<x then y else x)=min x y:=by split<;>omega
 simp[aBuiltin,aMinMax,this]
def storeV (P:Program) (ops:Array Oper) (anc:List Nat) (rest:List Oper) (i:Nat) (fps:List Fp) (a:AAct) (H:AHeap) (Q:AAct->AHeap->Prop) (n:Nat):Option AHeap->Prop
 |some H1=>n<H.next/\(∀ r∈fps,Meets (anc.getD i 0) [n] [n] (idsAt H1 n) r)/\wkD P ops anc rest (i+1) (⟨i,[n],[n],H.next,H.next⟩::fps) a H1 Q
 |none=>False
theorem storeV_some {n:Nat} {a:AAct} {H1:AHeap}:storeV P ops anc rest i fps a H Q n (some H1)=(n<H.next/\(∀ r∈fps,Meets (anc.getD i 0) [n] [n] (idsAt H1 n) r)/\wkD P ops anc rest (i+1) (⟨i,[n],[n],H.next,H.next⟩::fps) a H1 Q):=by simp only[storeV]
theorem wd_store {x y:Operand} {t:TypeId} (hx:opOk P N x=true) (hy:opOk P N y=true) (hp:plainPtr (opv E x)=true):wkD P ops anc (⟨none,.store t x y,ty,pos,after,none⟩::rest) i fps (mkA N E ds) H Q=storeV P ops anc rest i fps (mkA N E ds) H Q (ptrB (opv E x)) (aStore P H t (opv E x) (opv E y)):=by
 simp only[wkD,wantA,stepD,pureOp,aeval_opv hx,aeval_opv hy]
 unfold plainPtr at hp
 split at hp
 ·rename_i n off heq
  rw[heq]
  simp only[storeD,ptrB]
  cases aStore P H t (.pointer (some ⟨n,off,none⟩)) (opv E y) with
  |none=>rfl
  |some H1=>simp only[put_none,storeV]
 ·cases hp
def newV (P:Program) (ops:Array Oper) (anc:List Nat) (rest:List Oper) (i:Nat) (fps:List Fp) (N:Nat) (E:Env) (ds:List Deferred) (d:Nat) (H:AHeap) (Q:AAct->AHeap->Prop):Option (Value × AHeap)->Prop
 |some (v,H1)=>(∀ r∈fps,Meets (anc.getD i 0) [] [] (idsV v++idsAt H1 H.next) r)/\wkD P ops anc rest (i+1) (⟨i,[],[],H.next,H.next+1⟩::fps) (mkA N (upd E d v) ds) H1 Q
 |none=>False
theorem newV_some {v:Value} {H1:AHeap}:newV P ops anc rest i fps N E ds d H Q (some (v,H1))=((∀ r∈fps,Meets (anc.getD i 0) [] [] (idsV v++idsAt H1 H.next) r)/\wkD P ops anc rest (i+1) (⟨i,[],[],H.next,H.next+1⟩::fps) (mkA N (upd E d v) ds) H1 Q):=by simp only[newV]
theorem wd_rvh {op:Op} {x:Option (Value × AHeap)} (hp:newOp op=true) (h:aop op P (mkA N E ds) H=rvh x) (hd:d<N):wkD P ops anc (⟨some d,op,ty,pos,after,none⟩::rest) i fps (mkA N E ds) H Q=newV P ops anc rest i fps N E ds d H Q x:=by
 have h1:pureOp op=false:=by cases op<;>first|rfl|cases hp
 have h2:stepD P ⟨some d,op,ty,pos,after,none⟩ (mkA N E ds) H=restD P ⟨some d,op,ty,pos,after,none⟩ (mkA N E ds) H:=by
  funext anc i fps K
  cases op<;>first|rfl|cases hp
 simp only[wkD,wantA,h2,restD,hp,h,rvh]
 cases x with
 |none=>rfl
 |some v=>simp only[zA5,newD,put_some N E ds d v.1 hd,newV]
theorem wd_buildSlice {t:TypeId} {n:Nat} {l:List (Nat × Operand)} (hd:d<N):wkD P ops anc (⟨some d,.buildSlice t n ⟨l⟩,ty,pos,after,none⟩::rest) i fps (mkA N E ds) H Q=newV P ops anc rest i fps N E ds d H Q ((pairs P (mkA N E ds) l).bind (aBuildSlice P H t n)) :=
 wd_rvh rfl (by
  simp only[aop,xBuildSlice,zA1]
  cases pairs P (mkA N E ds) l<;>rfl) hd
theorem wd_builtin {b:Builtin} {args:List Operand} {ts:Array TypeId} (ha:args.all (opOk P N)=true) (hd:d<N) (h:(regBt P b ts (args.map (opv E))).isSome=true) :
  wkD P ops anc (⟨some d,.call ⟨.builtin b,⟨args⟩,ts⟩,ty,pos,after,none⟩::rest) i fps (mkA N E ds) H Q=valD P ops anc rest i fps N E ds d H Q (regBt P b ts (args.map (opv E))):=by
 cases hv:regBt P b ts (args.map (opv E)) with
 |none=>rw[hv]at h; cases h
 |some v=>simp only[wkD,wantA,stepD,pureOp,restD,newOp,btD,aevals_opv ha,hv,put_some N E ds d v hd,valD]
def guardV (P:Program) (ops:Array Oper) (anc:List Nat) (o:Oper) (rest:List Oper) (i:Nat) (fps:List Fp) (N:Nat) (E:Env) (ds:List Deferred) (H:AHeap) (Q:AAct->AHeap->Prop) (want:Bool):Value->Prop
 |.bool b=>if b=want then wkD P ops anc (o::rest) i fps (mkA N E ds) H Q else wkD P ops anc rest (i+1) fps ((mkA N E ds).put o.dst undef) H Q
 |_=>wkD P ops anc rest (i+1) fps ((mkA N E ds).put o.dst undef) H Q
theorem genD_guard {op:Op} {dst:Option Nat} {g:Option (Nat × Bool)} {a:AAct} {anc i:Nat} {K:List Fp->Value->AHeap->Prop}:genD P ⟨dst,op,ty,pos,after,g⟩ a H anc i fps K=genD P ⟨dst,op,ty,pos,after,none⟩ a H anc i fps K:=rfl
theorem stepD_guard {op:Op} {dst:Option Nat} {g:Option (Nat × Bool)} {a:AAct} {anc i:Nat} {K:List Fp->Value->AHeap->Prop}:stepD P ⟨dst,op,ty,pos,after,g⟩ a H anc i fps K=stepD P ⟨dst,op,ty,pos,after,none⟩ a H anc i fps K:=by
 unfold stepD restD
 simp only[genD_guard (g:=g)]
theorem wd_guard {dst:Option Tmp} {op:Op} {j d:Nat} {want:Bool} (hj:dstOf ops j=some d) (hd:d<N) :
  wkD P ops anc (⟨dst,op,ty,pos,after,some (j,want)⟩::rest) i fps (mkA N E ds) H Q=guardV P ops anc ⟨dst,op,ty,pos,after,none⟩ rest i fps N E ds H Q want (E d):=by
 unfold dstOf at hj
 cases ho:ops[j]? with
 |none=>rw[ho]at hj; cases hj
 |some oj =>
  rw[ho]at hj
  simp only[zA3]at hj
  have hw:wantA ops (mkA N E ds) ⟨dst,op,ty,pos,after,some (j,want)⟩=(match E d with
    |.bool b=>some (b == want)
    |_=>some false):=by
   simp only[wantA,ho,hj,tmp_mk N E ds d hd]
   cases E d<;>rfl
  have hn:wantA ops (mkA N E ds) ⟨dst,op,ty,pos,after,none⟩=some true:=rfl
  cases hv:E d with
  |bool b =>
   rw[hv]at hw
   simp only[guardV]
   by_cases h:b=want
   ·rw[if_pos h]
    have:(b == want)=true:=by simpa using h
    simp only[wkD,hw,this,hn]
    exact stepD_guard
   ·rw[if_neg h]
    have:(b == want)=false:=by simpa using h
    simp only[wkD,hw,this]
  |_=>rw[hv]at hw; simp only[wkD,hw,guardV]
theorem idsOk_nil {anc:Nat} {O:List Nat}:IdsOk anc [] O=True:=by simp[IdsOk]
theorem idsOk_quiet {anc j n:Nat} {F W O:List Nat}:IdsOk anc (⟨j,F,W,n,n⟩::fps) O=IdsOk anc fps O:=by simp[IdsOk]
end
end
structure Grow (H H1:AHeap):Prop where
 next:H.next<=H1.next
 get:∀ n,n<H.next->H1.get n=H.get n
 base:H1.base=H.base
 dirty:H1.dirty=H.dirty
theorem idsOk_empty {anc:Nat} {fps:List Fp}:IdsOk anc fps []=True:=by simp[IdsOk]
theorem ids_int {k:IntKind} {n:Int}:idsV (.int k n)=[]:=by simp only[idsV]
theorem ids_bool {b:Bool}:idsV (.bool b)=[]:=by simp only[idsV]
theorem ids_ptr {a:Addr}:idsV (.pointer (some a))=[a.block]:=by simp only[idsV]
theorem ids_agg {l:List Value}:idsV (.agg ⟨l⟩)=idsL l:=by simp only[idsV,idsA]
theorem idsL_nil:idsL []=[]:=by simp only[idsL]
theorem idsL_cons {v:Value} {r:List Value}:idsL (v::r)=idsV v++idsL r:=by simp only[idsL]
section
variable {P : Program} {H : AHeap} {N : Nat} {E : Env} {ds : List Deferred} {ops : Array Oper} {anc : List Nat} {d : Nat} {ty : TypeId} {pos : String} {after : Array Edge} {rest : List Oper} {i : Nat} {fps : List Fp} {Q : AAct -> AHeap -> Prop}
end
theorem lset_same {α:Type} (d v w:α):∀ (l:List α) (i:Nat),lset d (lset d l i v) i w=lset d l i w
 |[],0=>rfl
 |[],i+1=>by simp only[lset,lset_same d v w [] i]
 |_::_,0=>rfl
 |x::r,i+1=>by simp only[lset,lset_same d v w r i]
theorem lset_comm {α:Type} (d v w:α):∀ (l:List α) (i j:Nat),i≠j->lset d (lset d l i v) j w=lset d (lset d l j w) i v
 |[],0,0,h=>absurd rfl h
 |[],0,_+1,_=>rfl
 |[],_+1,0,_=>rfl
 |[],i+1,j+1,h=>by simp only[lset,lset_comm d v w [] i j (by omega)]
 |_::_,0,0,h=>absurd rfl h
 |_::_,0,_+1,_=>rfl
 |_::_,_+1,0,_=>rfl
 |x::r,i+1,j+1,h=>by simp only[lset,lset_comm d v w r i j (by omega)]
theorem rootPut_same (R:List (List (List (Option AObj)))) (n:Nat) (o o':Option AObj):rootPut (rootPut R n o) n o'=rootPut R n o':=by
 simp only[rootPut,lset_getD,if_true,lset_same]
theorem rootPut_comm (R:List (List (List (Option AObj)))) {n m:Nat} (o o':Option AObj) (h:n≠m):rootPut (rootPut R n o) m o'=rootPut (rootPut R m o') n o:=by
 simp only[rootPut,lset_getD]
 by_cases h1:m / 256=n / 256
 ·rw[if_pos h1,if_pos h1.symm]
  simp only[lset_getD]
  by_cases h2:m / 16 % 16=n / 16 % 16
  ·rw[if_pos h2,if_pos h2.symm,h1,h2,lset_same,lset_same,lset_same,lset_same,lset_comm none o o' _ _ _ (by omega)]
  ·rw[if_neg h2,if_neg (fun e=>h2 e.symm),h1,lset_same,lset_same,lset_comm _ _ _ _ _ _ (fun e=>h2 e.symm)]
 ·rw[if_neg h1,if_neg (fun e=>h1 e.symm),lset_comm _ _ _ _ _ _ (fun e=>h1 e.symm)]
theorem RV.set_same (v:RV) (i:Nat) (x y:Value):(v.set i x).set i y=v.set i y:=by
 simp only[RV.set_eq,lset_getD,if_true,lset_same]
theorem RV.set_comm (v:RV) {i j:Nat} (x y:Value) (h:i≠j):(v.set i x).set j y=(v.set j y).set i x:=by
 simp only[RV.set_eq,lset_getD]
 by_cases h1:j / 16=i / 16
 ·rw[if_pos h1,if_pos h1.symm,h1,lset_same,lset_same,lset_comm _ _ _ _ _ _ (by omega)]
 ·rw[if_neg h1,if_neg (fun e=>h1 e.symm),lset_comm _ _ _ _ _ _ (fun e=>h1 e.symm)]
theorem RV.sets_set (l:List Value):∀ (v:RV) (i j:Nat) (y:Value),j<i->(v.sets i l).set j y=(v.set j y).sets i l:=by
 induction l with
 |nil=>intros; rfl
 |cons x r ih =>
  intro v i j y h
  simp only[RV.sets]
  rw[ih _ _ _ _ (by omega),RV.set_comm _ _ _ (by omega)]
def putL:List Value->Nat->List Value->List Value
 |[],_,_=>[]
 |x::r,0,[]=>x::r
 |_::r,0,y::ys=>y::putL r 0 ys
 |x::r,k+1,vs=>x::putL r k vs
theorem putL_nil (l:List Value):putL l 0 []=l:=by cases l<;>rfl
theorem putL_length:∀ (l:List Value) (off:Nat) (vs:List Value),(putL l off vs).length=l.length
 |[],_,_=>rfl
 |_::_,0,[]=>rfl
 |_::r,0,y::ys=>by simp only[putL,zB0,putL_length r 0 ys]
 |x::r,k+1,vs=>by simp only[putL,zB0,putL_length r k vs]
theorem RV.sets_put:∀ (l:List Value) (v:RV) (k off:Nat) (vs:List Value),off+vs.length<=l.length->(v.sets k l).sets (k+off) vs=v.sets k (putL l off vs)
 |[],v,k,off,vs,h=>by
  have h2:vs=[]:=List.length_eq_zero_iff.1 (by simp only[zD7]at h; omega)
  subst h2
  rfl
 |x::r,v,k,0,[],_=>rfl
 |x::r,v,k,0,y::ys,h=>by
  have ih:=RV.sets_put r (v.set k y) (k+1) 0 ys (by simp only[zB0]at h; omega)
  simp only[RV.sets,putL,zD3]at ih ⊢
  rw[RV.sets_set _ _ _ _ _ (zC1 k),RV.set_same]
  exact ih
 |x::r,v,k,off+1,vs,h=>by
  have ih:=RV.sets_put r (v.set k x) (k+1) off vs (by simp only[zB0]at h; omega)
  simp only[RV.sets,putL]
  rw[show k+(off+1)=k+1+off by omega]
  exact ih
theorem RV.sets_n (l:List Value):∀ (t:List (List Value)) (n m i:Nat),({RV.sets ⟨t,n⟩ i l with n:=m}:RV)=RV.sets ⟨t,m⟩ i l:=by
 induction l with
 |nil=>intros; rfl
 |cons x r ih=>intro t n m i; simp only[RV.sets,RV.set_eq]; exact ih _ n m _
theorem RV.ofList_sets (l:List Value) (off:Nat) (vs:List Value) (h:off+vs.length<=l.length):(RV.ofList l).sets off vs=RV.ofList (putL l off vs):=by
 rw[RV.ofList_eq,RV.ofList_eq]
 rw[RV.sets_n,RV.sets_n,putL_length]
 have:=RV.sets_put l ⟨[],l.length⟩ 0 off vs h
 rw[zC0]at this
 exact this
theorem RV.gets_ofList (l:List Value):(RV.ofList l).gets 0 l.length=l:=by
 apply List.ext_getElem?
 intro i
 rw[RV.gets_eq]
 by_cases hi:i<l.length
 ·simp[hi,RV.get_ofList,List.getD]
 ·rw[zC6 (by simpa using hi),zC6 (by omega)]
structure Bl where
 e:TypeId
 o:Bool
 l:List Value
def Bl.obj (b:Bl):AObj:=⟨.cells #[] b.e,b.o,RV.ofList b.l⟩
def ext (H:AHeap):List Bl->AHeap
 |[]=>H
 |b::r=>ext (nw H b.e b.l b.o) r
section
variable {P : Program} {H : AHeap} {L : List Bl}
theorem ext_nil:ext H []=H:=rfl
theorem ext_next:∀ {L:List Bl} {H:AHeap},(ext H L).next=H.next+L.length
 |[],_=>rfl
 |b::r,H=>by rw[ext,ext_next,nw_next,zB0]; omega
theorem ext_base:∀ {L:List Bl} {H:AHeap},(ext H L).base=H.base
 |[],_=>rfl
 |b::r,H=>by rw[ext,ext_base,nw_base]
theorem ext_dirty:∀ {L:List Bl} {H:AHeap},(ext H L).dirty=H.dirty
 |[],_=>rfl
 |b::r,H=>by rw[ext,ext_dirty,nw_dirty]
theorem ext_get_old:∀ {L:List Bl} {H:AHeap} {n:Nat},n<H.next->(ext H L).get n=H.get n
 |[],_,_,_=>rfl
 |b::r,H,n,h=>by rw[ext,ext_get_old (by rw[nw_next]; omega),nw_get _ _ _ (by omega)]
theorem ext_get_new:∀ {L:List Bl} {H:AHeap} {i:Nat},i<L.length->(ext H L).get (H.next+i)=L[i]?.map Bl.obj
 |[],_,_,h=>absurd h (by simp)
 |b::r,H,0,_=>by
  rw[ext,ext_get_old (by rw[nw_next]; omega),nw,AHeap.get_new,if_pos (by omega)]
  rfl
 |b::r,H,i+1,h=>by
  have:=ext_get_new (L:=r) (H:=nw H b.e b.l b.o) (i:=i) (by simpa using h)
  rw[nw_next]at this
  rw[ext,show H.next+(i+1)=H.next+1+i by omega,this]
  simp
theorem ext_get_far:∀ {L:List Bl} {H:AHeap} {n:Nat},H.next+L.length<=n->(ext H L).get n=H.get n
 |[],_,_,_=>rfl
 |b::r,H,n,h=>by
  rw[zB0]at h
  rw[ext,ext_get_far (by rw[nw_next]; omega),nw_get _ _ _ (by omega)]
theorem ext_snoc:∀ {L:List Bl} {H:AHeap} (e:TypeId) (l:List Value) (o:Bool),nw (ext H L) e l o=ext H (L++[⟨e,o,l⟩])
 |[],_,_,_,_=>rfl
 |b::r,H,e,l,o=>by rw[ext,ext_snoc,List.cons_append,ext]
theorem ext_append:∀ {L M:List Bl} {H:AHeap},ext (ext H L) M=ext H (L++M)
 |[],_,_=>rfl
 |b::r,M,H=>by rw[ext,ext_append,List.cons_append,ext]
theorem upd_new {n:Nat} {o:Option AObj} {x:AObj} (h:n<H.next):(H.new x).upd n o=(H.upd n o).new x:=by
 simp only[AHeap.upd_eq,AHeap.new_eq]
 rw[rootPut_comm _ _ _ (Nat.ne_of_gt h)]
theorem ext_upd_old:∀ {L:List Bl} {H:AHeap} {n:Nat} {o:Option AObj},n<H.next->(ext H L).upd n o=ext (H.upd n o) L
 |[],_,_,_,_=>rfl
 |b::r,H,n,o,h=>by
  rw[ext,ext_upd_old (by rw[nw_next]; omega),ext]
  congr 1
  exact upd_new h
theorem new_upd {o x:AObj} (h:H.base<=H.next):(H.new x).upd H.next (some o)=H.new o:=by
 have:Nat.blt H.next H.base=false:=by
  cases hb:Nat.blt H.next H.base with
  |false=>rfl
  |true=>have:=blt_lt hb; omega
 simp only[AHeap.upd_eq,AHeap.new_eq,rootPut_same,this,zB7,if_false]
theorem ext_upd_new:∀ {L:List Bl} {H:AHeap} {i:Nat} {b:Bl},H.base<=H.next->i<L.length->(ext H L).upd (H.next+i) (some b.obj)=ext H (L.set i b)
 |[],_,_,_,_,h=>absurd h (by simp)
 |c::r,H,0,b,hb,_=>by
  rw[ext,ext_upd_old (by rw[nw_next]; omega),List.set_cons_zero,ext]
  congr 1
  exact new_upd hb
 |c::r,H,i+1,b,hb,h=>by
  have:=ext_upd_new (L:=r) (H:=nw H c.e c.l c.o) (i:=i) (b:=b) (by rw[nw_next,nw_base]; omega) (by simpa using h)
  rw[nw_next]at this
  rw[ext,show H.next+(i+1)=H.next+1+i by omega,this,List.set_cons_succ,ext]
def bk (H:AHeap) (n:Nat):Option Bl:=(cellsAt H n).map fun x=>⟨x.2.1,x.2.2,x.1.gets 0 x.1.n⟩
theorem bk_get {H G:AHeap} {n:Nat} (h:H.get n=G.get n):bk H n=bk G n:=by simp only[bk,cellsAt,h]
theorem bk_ne {n:Nat} {b:Bl} (h:bk H n=some b):H.get n≠none:=by
 intro hg
 simp[bk,cellsAt,hg]at h
theorem bk_blk {n:Nat} {b:Bl} (h:bk H n=some b):Blk H n b.e b.o b.l:=by
 unfold bk at h
 cases hc:cellsAt H n with
 |none=>rw[hc]at h; cases h
 |some x =>
  rw[hc]at h
  obtain⟨rv,e,o⟩:=x
  cases h
  exact⟨rv,hc,by simp,fun i hi=>by rw[RV.length_gets]at hi; rw[RV.gets_getD _ _ _ _ hi,zC0]⟩
theorem blk_bk {n:Nat} {e:TypeId} {o:Bool} {l:List Value} (h:Blk H n e o l):bk H n=some ⟨e,o,l⟩:=by
 obtain⟨rv,hc,hn,hg⟩:=h
 simp only[bk,hc,zA5]
 rw[hn,Blk.gets hn hg 0 l.length (by omega)]
 simp
theorem bk_old {n:Nat} (h:n<H.next):bk (ext H L) n=bk H n:=bk_get (ext_get_old h)
theorem bk_new {b i:Nat} (h:H.next=b):bk (ext H L) (b+i)=if i<L.length then L[i]? else bk H (b+i):=by
 subst h
 by_cases hi:i<L.length
 ·rw[if_pos hi]
  simp only[bk,cellsAt,ext_get_new hi]
  rw[zA7 hi]
  simp only[zA5,Bl.obj,RV.n_ofList,RV.gets_ofList]
 ·rw[if_neg hi]
  exact bk_get (ext_get_far (by omega))
def qk (H:AHeap) (n:Nat):Option Bl :=
 match H.get n with
 |some ⟨.cells _ e (_+1,_),o,v⟩=>some ⟨e,o,v.gets 0 v.n⟩
 |_=>none
def orr:Option Bl->Option Bl->Option Bl
 |some b,_=>some b
 |none,x=>x
theorem orr_some {b:Bl} {x:Option Bl}:orr (some b) x=some b:=rfl
abbrev rk (H:AHeap) (n:Nat):Option Bl:=orr (bk H n) (qk H n)
theorem qk_get {H G:AHeap} {n:Nat} (h:H.get n=G.get n):qk H n=qk G n:=by simp only[qk,h]
theorem rk_get {H G:AHeap} {n:Nat} (h:H.get n=G.get n):rk H n=rk G n:=by simp only[rk,bk_get h,qk_get h]
theorem rk_of {n:Nat} {b:Bl} (h:bk H n=some b):rk H n=some b:=by simp only[rk,h,orr]
theorem rk_eq {n:Nat}:rk H n=(cellsR H n).map fun x=>⟨x.2.1,x.2.2,x.1.gets 0 x.1.n⟩:=by
 unfold rk bk qk cellsAt cellsR
 cases H.get n with
 |none=>rfl
 |some o =>
  obtain⟨ob,op,v⟩:=o
  cases ob with
  |cells c e f =>
   obtain⟨k,g⟩:=f
   cases k<;>rfl
  |_=>rfl
theorem rk_ne {n:Nat} {b:Bl} (h:rk H n=some b):H.get n≠none:=by
 intro hg
 rw[rk_eq]at h
 simp[cellsR,hg]at h
theorem rk_blk {n:Nat} {b:Bl} (h:rk H n=some b):∃ rv,cellsR H n=some (rv,b.e,b.o)/\rv.n=b.l.length/\∀ i,i<b.l.length->rv.get i=b.l.getD i undef:=by
 rw[rk_eq]at h
 cases hc:cellsR H n with
 |none=>rw[hc]at h; cases h
 |some x =>
  rw[hc]at h
  obtain⟨rv,e,o⟩:=x
  cases h
  exact⟨rv,rfl,by simp,fun i hi=>by rw[RV.length_gets]at hi; rw[RV.gets_getD _ _ _ _ hi,zC0]⟩
theorem qk_old {n:Nat} (h:n<H.next):qk (ext H L) n=qk H n:=qk_get (ext_get_old h)
def ldB (P:Program) (t:TypeId) (off:Nat):Option Bl->Option Value
 |none=>none
 |some b=>(match aggT P t with
  |some true=>(szOf P t).bind fun sz=>if off+sz<=b.l.length then some (.agg ⟨(b.l.drop off).take sz⟩) else none
  |some false=>b.l[off]?
  |none=>none)
theorem load_bk {t:TypeId} {n off:Nat}:aLoad P H t (.pointer (some ⟨n,off,none⟩))=ldB P t off (orr (bk H n) (qk H n)):=by
 show _=ldB P t off (rk H n)
 cases hb:rk H n with
 |none =>
  have:cellsR H n=none:=by
   rw[rk_eq]at hb
   simpa using hb
  simp only[aLoad,this,ldB,zA1,Option.bind_none]
 |some b =>
  have hblk:=rk_blk hb
  simp only[ldB]
  obtain⟨rv,h1,h2,h3⟩:=hblk
  simp only[aLoad,h1,zA1,zA3]
  cases aggT P t with
  |none=>rfl
  |some x =>
   cases x with
   |false =>
    simp only[zA3]
    by_cases h:off<b.l.length
    ·rw[if_pos (blt_of (by omega)),h3 off h]
     simp[List.getD,h]
    ·rw[if_neg (fun e=>h (by have:=blt_lt e; omega)),zC6 (by omega)]
   |true =>
    simp only[zA3]
    cases szOf P t with
    |none=>rfl
    |some sz =>
     simp only[zA3]
     by_cases h:off+sz<=b.l.length
     ·rw[if_pos (by rw[Nat.ble_eq]; omega),if_pos h,Blk.gets h2 h3 off sz h]
     ·rw[if_neg (by rw[Nat.ble_eq]; omega),if_neg h]
theorem ld_one {t e:TypeId} {o:Bool} {l:List Value} {off:Nat} (h:aggT P t=some false):ldB P t off (some ⟨e,o,l⟩)=l[off]?:=by simp only[ldB,h]
theorem ld_agg {t e:TypeId} {o:Bool} {l:List Value} {off:Nat} (h:aggT P t=some true):ldB P t off (some ⟨e,o,l⟩)=(szOf P t).bind fun sz=>if off+sz<=l.length then some (.agg ((l.drop off).take sz).toArray) else none:=by simp only[ldB,h]
structure WF (P:Program) (H:AHeap):Prop where
 base:H.base<=H.next
 glob:P.globals.size<=H.next
 dom:∀ n o,H.get n=some o->n<H.next/\sco H.next o
theorem WF.lt (w:WF P H) {n:Nat} {b:Bl} (h:bk H n=some b):n<H.next:=by
 cases hg:H.get n with
 |none=>exact absurd hg (bk_ne h)
 |some o=>exact (w.dom n o hg).1
theorem new_ext {e:TypeId} {l:List Value} {o:Bool} (h:scbL (H.next+L.length) l=true):aNew (ext H L) e l o=some (ext H (L++[⟨e,o,l⟩])):=by
 rw[aNew_nw (by rw[ext_next]; exact h),ext_snoc]
theorem write_new {b i off:Nat} {vs:List Value} {e:TypeId} {o:Bool} {l:List Value} (hH:H.next=b) (hb:H.base<=H.next) (hi:L[i]?=some ⟨e,o,l⟩) (hoff:off+vs.length<=l.length) (h1:vs.all one=true) (h2:scbL (b+L.length) vs=true) :
  aWrite (ext H L) (b+i) off vs=some (ext H (L.set i ⟨e,o,putL l off vs⟩)):=by
 subst hH
 have hlt:i<L.length:=by
  rcases zB6 i L.length with h|h
  ·exact h
  ·rw[zC6 h]at hi; cases hi
 have hg:cellsAt (ext H L) (H.next+i)=some (RV.ofList l,e,o):=by
  simp only[cellsAt,ext_get_new hlt,hi,zA5,Bl.obj]
 have hble:Nat.ble (off+vs.length) (RV.ofList l).n=true:=by rw[Nat.ble_eq]; exact hoff
 simp only[aWrite,hg,zA1,zA3,hble,h1,ext_next,h2,zD6,if_true]
 rw[RV.ofList_sets l off vs hoff]
 exact congrArg some (ext_upd_new (b:=⟨e,o,putL l off vs⟩) hb hlt)
def uw (H:AHeap) (n off:Nat) (vs:List Value):AHeap :=
 match cellsAt H n with
 |some (rv,e,o)=>H.upd n (some ⟨.cells #[] e,o,rv.sets off vs⟩)
 |none=>H
theorem uw_next {n off:Nat} {vs:List Value}:(uw H n off vs).next=H.next:=by unfold uw; split<;>rfl
theorem uw_base {n off:Nat} {vs:List Value}:(uw H n off vs).base=H.base:=by unfold uw; split<;>rfl
theorem uw_dirty {n off:Nat} {vs:List Value} {m:Nat} (h:m∈(uw H n off vs).dirty):m∈H.dirty\/(m=n/\n<H.base):=by
 unfold uw at h
 split at h
 ·simp only[AHeap.upd_eq]at h
  split at h
  ·rename_i hb
   rcases zB1.1 h with h|h
   ·exact .inr ⟨h,blt_lt hb⟩
   ·exact .inl h
  ·exact .inl h
 ·exact .inl h
theorem uw_get {n off:Nat} {vs:List Value} {m:Nat} (h:m≠n):(uw H n off vs).get m=H.get m:=by
 unfold uw
 split
 ·rw[AHeap.get_upd,if_neg h]
 ·rfl
theorem bk_uw_ne {n m off:Nat} {vs:List Value} (h:m≠n):bk (uw H n off vs) m=bk H m:=bk_get (uw_get h)
def putB (off:Nat) (vs:List Value) (b:Bl):Bl:=⟨b.e,b.o,putL b.l off vs⟩
theorem putB_eq {off:Nat} {vs:List Value} {e:TypeId} {o:Bool} {l:List Value}:putB off vs ⟨e,o,l⟩=⟨e,o,putL l off vs⟩:=rfl
theorem putL_get:∀ (l:List Value) (off:Nat) (vs:List Value) (j:Nat),j<l.length->(putL l off vs)[j]?=if off<=j/\j<off+vs.length then vs[j-off]? else l[j]?
 |[],_,_,j,h=>absurd h (by simp)
 |x::r,0,[],j,_=>by simp only[putL,zD7,zD3]; rw[if_neg (by omega)]
 |x::r,0,y::ys,0,_=>by simp[putL]
 |x::r,0,y::ys,j+1,h=>by
  have:=putL_get r 0 ys j (by simpa using h)
  simp only[putL,zD0,zB0,zC0,zA9,true_and,Nat.add_lt_add_iff_right,Nat.sub_zero]at this ⊢
  exact this
 |x::r,k+1,vs,0,_=>by simp[putL]
 |x::r,k+1,vs,j+1,h=>by
  have:=putL_get r k vs j (by simpa using h)
  simp only[putL,zD0,Nat.add_le_add_iff_right,Nat.add_right_comm k 1,Nat.add_lt_add_iff_right,Nat.add_sub_add_right]
  exact this
theorem bk_uw_eq {n off:Nat} {vs:List Value}:bk (uw H n off vs) n=(bk H n).map (putB off vs):=by
 unfold bk
 cases hc:cellsAt H n with
 |none=>simp[uw,hc]
 |some x =>
  obtain⟨rv,e,o⟩:=x
  have h1:uw H n off vs=H.upd n (some ⟨.cells #[] e,o,rv.sets off vs⟩):=by simp only[uw,hc]
  have h2:cellsAt (uw H n off vs) n=some (rv.sets off vs,e,o):=by rw[h1]; simp[cellsAt,AHeap.get_upd]
  rw[h2]
  simp only[zA5,putB,RV.n_sets]
  congr 2
  apply List.ext_getElem?
  intro j
  by_cases hj:j<rv.n
  ·rw[putL_get _ _ _ _ (by simpa using hj),RV.gets_eq,RV.gets_eq]
   simp only[List.getElem?_map,List.getElem?_range hj,zA5,zC0,RV.get_sets]
   split
   ·rename_i hh
    rw[zA7 (by omega)]
    simp[List.getD,zA7 (show j-off<vs.length by omega)]
   ·rfl
  ·rw[zC6 (by simpa using hj),zC6 (by rw[putL_length]; simpa using hj)]
theorem write_old {n off:Nat} {vs:List Value} {b:Bl} (hn:n<H.next) (h:bk H n=some b) (hoff:off+vs.length<=b.l.length) (h1:vs.all one=true) (h3:scbL (H.next+L.length) vs=true) :
  aWrite (ext H L) n off vs=some (ext (uw H n off vs) L):=by
 obtain⟨rv,hc,hn2,_⟩:=bk_blk h
 have hc':cellsAt (ext H L) n=some (rv,b.e,b.o):=by
  rw[<-hc]; simp only[cellsAt,ext_get_old hn]
 have hb:Nat.ble (off+vs.length) rv.n=true:=by rw[Nat.ble_eq]; omega
 simp only[aWrite,hc',zA1,zA3,hb,h1,ext_next,h3,zD6,if_true]
 rw[ext_upd_old hn]
 simp only[uw,hc]
def stB (P:Program) (t:TypeId) (N off:Nat) (v:Value):Option Bl->Option Bl
 |some ⟨e,o,l⟩=>if szOf P t=some v.cells.toList.length/\off+v.cells.toList.length<=l.length/\v.cells.toList.all one=true/\scbL N v.cells.toList=true then some ⟨e,o,putL l off v.cells.toList⟩ else none
 |none=>none
theorem stB_ok {t e:TypeId} {o:Bool} {l:List Value} {N off:Nat} {v:Value} (h1:szOf P t=some v.cells.toList.length) (h2:off+v.cells.toList.length<=l.length) (h3:v.cells.toList.all one=true) (h4:scbL N v.cells.toList=true) :
  stB P t N off v (some ⟨e,o,l⟩)=some ⟨e,o,putL l off v.cells.toList⟩:=by simp only[stB,h1,h2,h3,h4,and_self,if_true]
theorem write_none {n off:Nat} {vs:List Value} {rv:RV} {e:TypeId} {o:Bool} (hc:cellsAt H n=some (rv,e,o)) (h:¬(off+vs.length<=rv.n/\vs.all one=true/\scbL H.next vs=true)):aWrite H n off vs=none:=by
 simp only[aWrite,hc,zA1,zA3]
 rw[if_neg]
 intro hh
 simp only[zA4,Nat.ble_eq]at hh
 exact h ⟨hh.1.1,hh.1.2,hh.2⟩
theorem store_new {t:TypeId} {b i off:Nat} {v:Value} (hH:H.next=b) (hb:H.base<=H.next) (hi:i<L.length) :
  aStore P (ext H L) t (.pointer (some ⟨b+i,off,none⟩)) v=(stB P t (b+L.length) off v L[i]?).map fun x=>ext H (L.set i x):=by
 obtain⟨⟨e,o,l⟩,hL⟩:∃ x,L[i]?=some x:=⟨_,zA7 hi⟩
 rw[hL]
 simp only[stB]
 split
 ·rename_i hc
  simp only[aStore,hc.1,zA1,zA3,if_true,zA5]
  exact write_new hH hb hL hc.2.1 hc.2.2.1 hc.2.2.2
 ·rename_i hc
  simp only[aStore,zA1,Option.map_none]
  cases hsz:szOf P t with
  |none=>rfl
  |some sz =>
   simp only[zA3]
   split
   ·rename_i hl
    subst hH
    refine write_none (rv:=RV.ofList l) (e:=e) (o:=o) (by simp only[cellsAt,ext_get_new hi,hL,zA5,Bl.obj]) ?_
    rw[ext_next]
    exact fun hh=>hc ⟨by rw[hsz,hl],hh.1,hh.2.1,hh.2.2⟩
   ·rfl
theorem store_old {t:TypeId} {n off:Nat} {v:Value} (hn:n<H.next) :
  aStore P (ext H L) t (.pointer (some ⟨n,off,none⟩)) v=(stB P t (H.next+L.length) off v (bk H n)).map fun _=>ext (uw H n off v.cells.toList) L:=by
 cases hbk:bk H n with
 |none =>
  have:cellsAt H n=none:=by unfold bk at hbk; simpa using hbk
  have hc':cellsAt (ext H L) n=none:=by rw[<-this]; simp only[cellsAt,ext_get_old hn]
  simp only[aStore,stB,zA1,Option.map_none]
  cases szOf P t with
  |none=>rfl
  |some sz=>simp only[zA3,aWrite,hc',zA1,Option.bind_none,ite_self]
 |some bl =>
  obtain⟨e,o,l⟩:=bl
  simp only[stB]
  split
  ·rename_i hc
   simp only[aStore,hc.1,zA1,zA3,if_true,zA5]
   exact write_old hn hbk hc.2.1 hc.2.2.1 hc.2.2.2
  ·rename_i hc
   simp only[aStore,zA1,Option.map_none]
   cases hsz:szOf P t with
   |none=>rfl
   |some sz =>
    simp only[zA3]
    split
    ·rename_i hl
     obtain⟨rv,hc2,hn2,_⟩:=bk_blk hbk
     refine write_none (rv:=rv) (e:=e) (o:=o) (by rw[<-hc2]; simp only[cellsAt,ext_get_old hn]) ?_
     rw[ext_next,hn2]
     exact fun hh=>hc ⟨by rw[hsz,hl],hh.1,hh.2.1,hh.2.2⟩
    ·rfl
end
def rnF (σ:Nat->Nat):Fn->Fn
 |.yield l=>.yield (σ l)
 |f=>f
mutual
def rnV (σ:Nat->Nat):Value->Value
 |.pointer (some a)=>.pointer (some ⟨σ a.block,a.off,a.spot⟩)
 |.slice (some a) len cap=>.slice (some ⟨σ a.block,a.off,a.spot⟩) len cap
 |.map (some r)=>.map (some (σ r))
 |.func f a b=>.func (rnF σ f) (rnA σ a) (rnA σ b)
 |.iface t v=>.iface t (rnV σ v)
 |.agg cs=>.agg (rnA σ cs)
 |.tuple cs=>.tuple (rnA σ cs)
 |.bool b=>.bool b
 |.int k n=>.int k n
 |.float k b=>.float k b
 |.complex k a b=>.complex k a b
 |.string s=>.string s
 |.pointer none=>.pointer none
 |.slice none len cap=>.slice none len cap
 |.map none=>.map none
 |.chan none=>.chan none
 |.chan (some k)=>.chan (some (σ k))
 |.nilFunc=>.nilFunc
 |.nilIface=>.nilIface
def rnA (σ:Nat->Nat):Array Value->Array Value
 |⟨l⟩=>⟨rnL σ l⟩
def rnL (σ:Nat->Nat):List Value->List Value
 |[]=>[]
 |v::r=>rnV σ v::rnL σ r
end
def Ren.comp (ρ:Ren) (σ:Nat->Nat):Ren:=⟨fun n=>ρ.blk (σ n),fun n=>ρ.sh (σ n),fun n=>ρ.ex (σ n),fun n=>ρ.op (σ n),fun n=>ρ.op1 (σ n)⟩
theorem comp_fn (ρ:Ren) (σ:Nat->Nat) (f:Fn):ρ.fn (rnF σ f)=(ρ.comp σ).fn f:=by cases f<;>rfl
mutual
theorem comp_val (ρ:Ren) (σ:Nat->Nat):∀ v,ρ.val (rnV σ v)=(ρ.comp σ).val v
 |.bool _=>by rw[rnV,Ren.val,Ren.val]
 |.int _ _=>by rw[rnV,Ren.val,Ren.val]
 |.float _ _=>by rw[rnV,Ren.val,Ren.val]
 |.complex _ _ _=>by rw[rnV,Ren.val,Ren.val]
 |.string _=>by rw[rnV,Ren.val,Ren.val]
 |.pointer none=>by rw[rnV,Ren.val,Ren.val]
 |.pointer (some a)=>by rw[rnV,Ren.val,Ren.val]; rfl
 |.slice none _ _=>by rw[rnV,Ren.val,Ren.val]
 |.slice (some a) _ _=>by rw[rnV,Ren.val,Ren.val]; rfl
 |.map none=>by rw[rnV,Ren.val,Ren.val]
 |.map (some r)=>by rw[rnV,Ren.val,Ren.val]; rfl
 |.chan none=>by rw[rnV,Ren.val,Ren.val]
 |.chan (some k)=>by rw[rnV,Ren.val,Ren.val]; rfl
 |.func f a b=>by rw[rnV,Ren.val,Ren.val,comp_valA ρ σ a,comp_valA ρ σ b,comp_fn]
 |.nilFunc=>by rw[rnV,Ren.val,Ren.val]
 |.iface t v=>by rw[rnV,Ren.val,Ren.val,comp_val ρ σ v]
 |.nilIface=>by rw[rnV,Ren.val,Ren.val]
 |.agg cs=>by rw[rnV,Ren.val,Ren.val,comp_valA ρ σ cs]
 |.tuple cs=>by rw[rnV,Ren.val,Ren.val,comp_valA ρ σ cs]
theorem comp_valA (ρ:Ren) (σ:Nat->Nat):∀ c,ρ.valA (rnA σ c)=(ρ.comp σ).valA c
 |⟨l⟩=>by rw[rnA,Ren.valA,Ren.valA,comp_valL ρ σ l]
theorem comp_valL (ρ:Ren) (σ:Nat->Nat):∀ l,ρ.valL (rnL σ l)=(ρ.comp σ).valL l
 |[]=>rfl
 |v::r=>by rw[rnL,Ren.valL,Ren.valL,comp_val ρ σ v,comp_valL ρ σ r]
end
mutual
theorem rnV_low {σ:Nat->Nat} {N:Nat} (h:∀ n,n<N->σ n=n):∀ v,scb N v=true->rnV σ v=v
 |.bool _,_=>by rw[rnV]
 |.int _ _,_=>by rw[rnV]
 |.float _ _,_=>by rw[rnV]
 |.complex _ _ _,_=>by rw[rnV]
 |.string _,_=>by rw[rnV]
 |.pointer none,_=>by rw[rnV]
 |.pointer (some a),hs=>by
  have h':=blt_lt (by simpa[scb]using hs)
  simp only[rnV,h _ h']
 |.slice none _ _,_=>by rw[rnV]
 |.slice (some a) _ _,hs=>by
  have h':=blt_lt (by simpa[scb]using hs)
  simp only[rnV,h _ h']
 |.map none,_=>by rw[rnV]
 |.map (some r),hs=>by
  have h':=blt_lt (by simpa[scb]using hs)
  simp only[rnV,h _ h']
 |.chan none,_=>by rw[rnV]
 |.chan (some k),hs=>by
  have h':=blt_lt (by simpa[scb]using hs)
  simp only[rnV,h _ h']
 |.func f a b,hs=>by
  cases f with
  |yield l =>
   simp only[scb,zA4]at hs
   simp only[rnV,rnF,h _ (blt_lt hs.1.1),rnA_low h a hs.1.2,rnA_low h b hs.2]
  |_ =>
   simp only[scb,zA4]at hs
   simp only[rnV,rnF,rnA_low h a hs.1,rnA_low h b hs.2]
 |.nilFunc,_=>by rw[rnV]
 |.iface t v,hs=>by rw[rnV,rnV_low h v (by simpa[scb]using hs)]
 |.nilIface,_=>by rw[rnV]
 |.agg cs,hs=>by rw[rnV,rnA_low h cs (by simpa[scb]using hs)]
 |.tuple cs,hs=>by rw[rnV,rnA_low h cs (by simpa[scb]using hs)]
theorem rnA_low {σ:Nat->Nat} {N:Nat} (h:∀ n,n<N->σ n=n):∀ c,scbA N c=true->rnA σ c=c
 |⟨l⟩,hs=>by rw[rnA,rnL_low h l (by simpa[scbA]using hs)]
theorem rnL_low {σ:Nat->Nat} {N:Nat} (h:∀ n,n<N->σ n=n):∀ l,scbL N l=true->rnL σ l=l
 |[],_=>rfl
 |v::r,hs=>by
  simp only[scbL,zA4]at hs
  rw[rnL,rnV_low h v hs.1,rnL_low h r hs.2]
end
def CellsRn (σ:Nat->Nat) (o1 o2:AObj):Prop :=
 (∃ c e k z c' z',o1.obj=.cells c e (k,z)/\o2.obj=.cells c' e (k,z'))/\o1.opn=o2.opn/\o1.rv.n=o2.rv.n/\∀ i,i<o2.rv.n->o1.rv.get i=rnV σ (o2.rv.get i)
theorem fits_rn {P:Program} {ρ:Ren} {σ:Nat->Nat} {n:Nat} {o1 o2:AObj} {o':Obj} (h:Fits P ρ (σ n) o1 o') (hc:CellsRn σ o1 o2):Fits P (ρ.comp σ) n o2 o':=by
 obtain⟨⟨c,e,k,z,c',z',h1,h2⟩,h3,h4,h5⟩:=hc
 unfold Fits at h ⊢
 rw[h1]at h
 rw[h2]
 obtain⟨d,fz,hd,hv,ha,hb⟩:=h
 refine⟨d,fz,hd,fun i hi=>?_,?_,?_⟩
 ·have:=hv i (by omega)
  rw[h5 i hi,comp_val]at this
  exact this
 ·rw[h3,h4]at ha
  exact ha
 ·rw[h3,h4]at hb
  exact hb
theorem frz_rn {σ:Nat->Nat} {o1 o2:AObj} (hc:CellsRn σ o1 o2):frz o2=frz o1:=by
 obtain⟨⟨c,e,k,z,c',z',h1,h2⟩,h3,_⟩:=hc
 obtain⟨a,b,d⟩:=o1
 obtain⟨a',b',d'⟩:=o2
 simp only at h1 h2 h3
 subst h1 h2 h3
 cases k<;>cases b<;>rfl
section
variable {P : Program} {H H1 H2 : AHeap} {f : FuncId} {args : List Value}
structure Rn (σ:Nat->Nat) (H H1 H2:AHeap):Prop where
 low:∀ n,n<H.next->σ n=n
 next:H.next<=H2.next
 base:H2.base=H.base
 dirty:∀ n,n∈H.dirty->n∈H2.dirty
 dirt1:∀ n,n∈H1.dirty->n∈H2.dirty
 get:∀ n o2,H2.get n=some o2->(n<H.next/\H.get n=some o2/\H1.get n=some o2) \/
  (n<H2.next/\sco H2.next o2/\(n<H.base->n∈H2.dirty)/\(n<H.next->H.get n≠none)/\(H.next<=n->H.next<=σ n)/\∃ o1,H1.get (σ n)=some o1/\CellsRn σ o1 o2)
 keep:∀ n,n<H.base->H2.get n=none->H.get n=none\/n∈H2.dirty
 inj:∀ m n,H2.get m≠none->H2.get n≠none->σ m=σ n->m=n
 ro:∀ n,Fz (H.get n)->(n∈H2.dirty->n∈H.dirty\/n∈H1.dirty)/\(H1.get n=H.get n->H2.get n=H.get n)
theorem sco_mono {N M:Nat} (h:N<=M) {o:AObj} (hs:sco N o):sco M o:=by
 unfold sco at *
 split at hs
 ·exact fun i hi=>scb_mono h _ (hs i hi)
 ·exact fun e he=>⟨(hs e he).1,scb_mono h _ (hs e he).2⟩
 ·exact⟨by omega,fun i hi=>scb_mono h _ (hs.2 i hi)⟩
 ·trivial
theorem Rel.wf {ρ:Ren} {w:World} (r:Rel P ρ H w):WF P H:=⟨r.base,r.glob.1,r.dom⟩
theorem Rn.st {σ:Nat->Nat} {ρ ρ1:Ren} {w w1:World} (c:Rn σ H H1 H2) (r:Rel P ρ H w) (s:St P ρ H w ρ1 H1 w1):St P ρ H w (ρ1.comp σ) H2 w1:=by
 have ext1:Ext H.next ρ1 (ρ1.comp σ):=⟨fun n hn=>by simp only[Ren.comp,c.low n hn],fun n hn=>by simp only[Ren.comp,c.low n hn],fun n hn=>by simp only[Ren.comp,c.low n hn],fun n hn=>by simp only[Ren.comp,c.low n hn]⟩
 have g1:∀ n,H2.get n≠none->H1.get (σ n)≠none:=by
  intro n hn
  cases h2:H2.get n with
  |none=>exact absurd h2 hn
  |some o2 =>
   rcases c.get n o2 h2 with⟨hlt,_,h1⟩|⟨_,_,_,_,_,o1,h1,_⟩
   ·rw[c.low n hlt,h1]; simp
   ·rw[h1]; simp
 refine⟨s.ext.trans ext1 (zA8 _),⟨c.next,c.base,c.dirty,fun n hb hd=>?_,fun n hn hg=>?_⟩,⟨?_,?_,?_,?_,?_⟩,s.os,s.tape,s.output,s.size,?_,?_,fun n hz=>?_⟩
 ·cases h2:H2.get n with
  |none =>
   rcases c.keep n hb h2 with h|h
   ·rw[h]
   ·exact absurd h hd
  |some o2 =>
   rcases c.get n o2 h2 with⟨_,h,_⟩|⟨_,_,h,_⟩
   ·rw[h]
   ·exact absurd (h hb) hd
 ·cases h2:H2.get n with
  |none=>rfl
  |some o2 =>
   rcases c.get n o2 h2 with⟨_,h,_⟩|⟨_,_,_,h,_⟩
   ·rw[hg]at h; cases h
   ·exact absurd hg (h hn)
 ·have:=r.base; have:=c.next; rw[c.base]; omega
 ·refine⟨zB8 r.glob.1 c.next,fun g hg=>?_⟩
  have hlt:g<H.next:=zC3 hg r.glob.1
  have:=s.rel.glob.2 g hg
  simp only[Ren.comp,c.low g hlt]
  exact this
 ·intro m n hm hn he
  have back:∀ m,H2.get m≠none->Fz (H1.get (σ m))->Fz (H2.get m):=fun m hm hz=>by
   cases h2:H2.get m with
   |none=>exact absurd h2 hm
   |some o2 =>
    obtain⟨o,ho,hf⟩:=hz
    rcases c.get m o2 h2 with⟨hlt,_,h1⟩|⟨_,_,_,_,_,o1,h1,hc⟩
    ·rw[c.low m hlt,h1]at ho
     cases ho
     exact⟨_,rfl,hf⟩
    ·rw[h1]at ho
     cases ho
     exact⟨_,rfl,(frz_rn hc).trans hf⟩
  exact (s.rel.inj _ _ (g1 m hm) (g1 n hn) he).imp (c.inj m n hm hn) fun⟨a,b⟩=>⟨back m hm a,back n hn b⟩
 ·intro n o2 h2
  rcases c.get n o2 h2 with⟨hlt,h,_⟩|⟨h1,h2',_⟩
  ·exact⟨zC3 hlt c.next,sco_mono c.next (r.dom n o2 h).2⟩
  ·exact⟨h1,h2'⟩
 ·intro n o2 h2
  rcases c.get n o2 h2 with⟨hlt,h,h1⟩|⟨_,_,_,_,_,o1,h1,hc⟩
  ·obtain⟨o',ho,hf⟩:=s.rel.obj n o2 h1
   exact⟨o',by simp only[Ren.comp,c.low n hlt]; exact ho,hf.ext hlt (r.dom n o2 h).2 ext1⟩
  ·obtain⟨o',ho,hf⟩:=s.rel.obj (σ n) o1 h1
   exact⟨o',ho,fits_rn hf hc⟩
 ·intro b hb hh
  exact s.old b hb fun n hn hd hg=>hh n hn (hd.imp id (c.dirt1 n)) hg
 ·intro n hn hg
  have hσ:H.next<=σ n:=by
   cases h2:H2.get n with
   |none=>exact absurd h2 hg
   |some o2 =>
    rcases c.get n o2 h2 with⟨hlt,_⟩|⟨_,_,_,_,h,_⟩
    ·omega
    ·exact h hn
  rcases s.fresh (σ n) hσ (g1 n hg) with h|⟨m,h1,h2,h3,h4⟩
  ·exact .inl h
  ·exact .inr ⟨m,h1,h2,h3.imp id (c.dirt1 m),h4⟩
 ·obtain⟨a,b⟩:=c.ro n hz
  obtain⟨a',b'⟩:=s.ro n hz
  exact⟨fun h=>(a h).elim id a',b b'⟩
theorem CallS.rn {σ:Nat->Nat} {v:Value} (h:CallS P f args H (.ok (rnV σ v)) H1) (c:WF P H->Rn σ H H1 H2) (hv:scb H2.next v=true):CallS P f args H (.ok v) H2:=by
 intro ρ w r hsc F n R hF hR
 refine h ρ w r hsc F n R hF fun ρ1 w1 s _=>?_
 have:=hR (ρ1.comp σ) w1 ((c r.wf).st r s) hv
 rw[comp_val]
 exact this
theorem Rn.drop {L:List Bl} (w:WF P H):Rn id H (ext H L) H where
 low:=fun _ _=>rfl
 next:=zA8 _
 base:=rfl
 dirty:=fun _ h=>h
 dirt1:=fun n h=>by rw[ext_dirty]at h; exact h
 get:=fun n o2 h=>.inl ⟨(w.dom n o2 h).1,h,by rw[ext_get_old (w.dom n o2 h).1,h]⟩
 keep:=fun n _ h=>.inl h
 inj:=fun m n _ _ h=>h
 ro:=fun n _=>⟨.inl,fun _=>rfl⟩
theorem rnV_id {N:Nat} {v:Value} (h:scb N v=true):rnV id v=v:=rnV_low (fun _ _=>rfl) v h
theorem CallS.drop {L:List Bl} {v:Value} (h:CallS P f args H (.ok v) (ext H L)) (hv:scb H.next v=true):CallS P f args H (.ok v) H:=by
 refine CallS.rn (σ:=id) (H1:=ext H L) ?_ Rn.drop hv
 rw[rnV_id hv]; exact h
def Fin (P:Program) (f:FuncId) (args:List Value) (H:AHeap) (v:Value) (H2:AHeap):Out->AHeap->Prop:=fun out H1=>CallS P f args H out H1->CallS P f args H (.ok v) H2
theorem Fin.same {v:Value}:Fin P f args H v H2 (.ok v) H2:=fun h=>h
theorem Fin.pure {L:List Bl} {v:Value} (hv:scb H.next v=true):Fin P f args H v H (.ok v) (ext H L):=fun h=>h.drop hv
theorem Fin.pureE {L:List Bl} {v v1:Value} (he:v1=v) (hv:scb H.next v=true):Fin P f args H v H (.ok v1) (ext H L):=by rw[he]; exact Fin.pure hv
theorem callS_fn (hmix:P.follows .mixedOrders=true) {fn:Func} {c:Code} {N:Nat} {v:Value} (hfn:P.funcs[f]?=some fn) (hc:fn.body=some c) (hN:fn.ntmps=N) (hle:args.length<=N)
  (h:WF P H->scbL H.next args=true->wpA P none c (endA P fn (Fin P f args H v H2)) (mkA N (entryE env0 0 args) []) (ext H [])):CallS P f args H (.ok v) H2:=by
 intro ρ w r hsc
 obtain⟨out,H1,h1,h2⟩:=callA_fn hmix hfn hc hN hle (h r.wf hsc)
 exact h2 h1 ρ w r hsc
theorem callE_fn (hmix:P.follows .mixedOrders=true) {fn:Func} {c:Code} {N:Nat} {R:Out->AHeap->Prop} (hfn:P.funcs[f]?=some fn) (hc:fn.body=some c) (hN:fn.ntmps=N) (hle:args.length<=N)
  (h:wpA P none c (endA P fn R) (mkA N (entryE env0 0 args) []) (ext H [])):CallA P f args H R:=callA_fn hmix hfn hc hN hle h
theorem CallS.to {v:Value} {R:Out->AHeap->Prop} (h:CallS P f args H (.ok v) H1) (k:R (.ok v) H1):CallA P f args H R:=⟨_,_,h,k⟩
end
section
variable {P : Program} {ro : Option Nat} {H : AHeap} {L : List Bl} {N : Nat} {E : Env} {ds : List Deferred}
def leaveO (R:Out->AHeap->Prop) (H:AHeap):Option (List Value)->Prop
 |some vs=>R (.ok (tup vs)) H
 |none=>False
theorem leaveO_some {R:Out->AHeap->Prop} {vs:List Value}:leaveO R H (some vs)=R (.ok (tup vs)) H:=by simp only[leaveO]
theorem lv_nil {fn:Func} {a:AAct} {R:Out->AHeap->Prop}:leaveA P fn a [] .returning H R=leaveO R H (resVal P H a fn.results.toList):=by
 simp only[leaveA]
 cases resVal P H a fn.results.toList with
 |none=>simp[leaveO]
 |some vs=>simp[leaveO]
theorem rs_nil:resVal P H (mkA N E ds) []=some []:=by simp only[resVal]
theorem rs_tmp {t:Nat} {rs:List ResultVar} (ht:t<N):resVal P H (mkA N E ds) (.tmp t::rs)=(resVal P H (mkA N E ds) rs).map (E t::·):=by
 simp only[resVal,zA1,tmp_mk N E ds t ht]
 cases resVal P H (mkA N E ds) rs<;>rfl
theorem rs_cell {t:Nat} {u:TypeId} {rs:List ResultVar} (ht:t<N):resVal P H (mkA N E ds) (.cell t u::rs)=(aLoad P H u (E t)).bind fun v=>(resVal P H (mkA N E ds) rs).map (v::·):=by
 simp only[resVal,zA1,tmp_mk N E ds t ht]
 cases aLoad P H u (E t) with
 |none=>rfl
 |some v=>cases resVal P H (mkA N E ds) rs<;>rfl
theorem tup_nil:tup []=.tuple ⟨[]⟩:=by simp only[tup]
theorem tup_one {v:Value}:tup [v]=v:=by simp only[tup]
theorem tup_two {v u:Value} {r:List Value}:tup (v::u::r)=.tuple ⟨v::u::r⟩:=by simp only[tup]
theorem cells_int {k:IntKind} {n:Int}:(Value.int k n).cells.toList=[.int k n]:=by simp only[Value.cells]
theorem cells_slice {a:Option Addr} {n c:Nat}:(Value.slice a n c).cells.toList=[.slice a n c]:=by simp only[Value.cells]
theorem cells_agg {l:List Value}:(Value.agg ⟨l⟩).cells.toList=l:=by simp only[Value.cells]
theorem allOne_nil:([]:List Value).all one=true:=by simp only[List.all_nil]
theorem allOne_cons {v:Value} {l:List Value}:(v::l).all one=(one v&&l.all one):=by simp only[List.all_cons]
theorem one_int {k:IntKind} {n:Int}:one (.int k n)=true:=by simp only[one]
theorem one_bool {b:Bool}:one (.bool b)=true:=by simp only[one]
theorem one_slice {a:Option Addr} {n c:Nat}:one (.slice a n c)=true:=by simp only[one]
theorem one_string {s:ByteArray}:one (.string s)=true:=by simp only[one]
theorem sc_nil {M:Nat}:scbL M []=true:=by simp only[scbL]
theorem sc_cons {M:Nat} {v:Value} {l:List Value}:scbL M (v::l)=(scb M v&&scbL M l):=by simp only[scbL]
theorem sc_int {M:Nat} {k:IntKind} {n:Int}:scb M (.int k n)=true:=by simp only[scb]
theorem sc_bool {M:Nat} {b:Bool}:scb M (.bool b)=true:=by simp only[scb]
theorem sc_string {M:Nat} {s:ByteArray}:scb M (.string s)=true:=by simp only[scb]
theorem sc_nilslice {M n c:Nat}:scb M (.slice none n c)=true:=by simp only[scb]
theorem sc_slice {M n off l c:Nat} {s:Option Nat} (h:n<M):scb M (.slice (some ⟨n,off,s⟩) l c)=true:=by simp only[scb,blt_of h]
theorem sc_add {b k:Nat} {v:Value} (h:scb b v=true):scb (b+k) v=true:=scb_mono (Nat.le_add_right _ _) v h
theorem lt_new {b i k:Nat}:(b+i<b+k)=(i<k):=by simp
theorem lt_old {n b k:Nat} (h:n<b):(n<b+k)=True:=by simp; omega
theorem ne_new {b i k:Nat}:(b+i=b+k)=(i=k):=by simp
theorem add_add {b i k:Nat}:b+i+k=b+(i+k):=Nat.add_assoc b i k
theorem bk_at {b i:Nat} (h:H.next=b) (hi:i<L.length):bk (ext H L) (b+i)=L[i]?:=by rw[bk_new h,if_pos hi]
theorem new_nw {e:TypeId} {l:List Value} {o:Bool}:nw (ext H L) e l o=ext H (L++[⟨e,o,l⟩]):=ext_snoc e l o
theorem meets_eq {anc j n:Nat} {F W O F' W':List Nat}:Meets anc F W O ⟨j,F',W',n,n⟩=(anc.testBit j=true\/((∀ n∈W',n∉F)/\(∀ n∈F',n∉W))):=by simp[Meets]
theorem meets_newer {anc j lo hi:Nat} {F W O F' W':List Nat}:Meets anc F W O ⟨j,F',W',lo,hi⟩=(anc.testBit j=true\/((∀ n∈W',n∉F)/\(∀ n∈F',n∉W)/\(lo<hi->(∀ n∈F,n<lo\/hi<=n)/\(∀ n∈O,n<lo\/hi<=n)))):=by simp only[Meets]
theorem ids_new {b i:Nat} (h:H.next=b) (hi:i<L.length):idsAt (ext H L) (b+i)=(match L[i]? with
  |some x=>idsL x.l
  |none=>[]):=by
 subst h
 simp only[idsAt,ext_get_new hi,zA7 hi,zA5,Bl.obj,idsO,RV.n_ofList,RV.gets_ofList]
theorem w_drawB {Q:Exit->AAct->AHeap->Prop} {id:Nat} {l:List Oper} {a:AAct} (bits gs:List (Nat × Nat)) (hst:staticOk ⟨l⟩=true) (hb:(bits.all fun p=>((ancs ⟨l⟩).getD p.1 0).testBit p.2)=true) (hg:(gs.all fun p=>dstOf ⟨l⟩ p.1 == some p.2)=true)
  (h:∀ ops anc,(∀ p∈bits,(anc.getD p.1 0).testBit p.2=true)->(∀ p∈gs,dstOf ops p.1=some p.2)->wkD P ops anc l 0 [] a H (Q .normal)):wpA P ro (.region id ⟨l⟩ true) Q a H :=
 w_draw hst (h _ _ (fun p hp=>by simpa using zC4.1 hb p hp) (fun p hp=>by simpa using zC4.1 hg p hp))
def lastO (P:Program) (ro:Option Nat) (ops:Array Oper):List Oper->AAct->AHeap->(Exit->AAct->AHeap->Prop)->Prop
 |[],_,_,_=>False
 |[o],a,H,Q=>o.guard=none/\isDef o.op=false/\wpOps P ro ops [o] a H Q
 |_::o::l,a,H,Q=>lastO P ro ops (o::l) a H Q
theorem lastO_one {ops:Array Oper} {d:Option Nat} {op:Op} {ty:TypeId} {pos:String} {after:Array Edge} {a:AAct} {Q:Exit->AAct->AHeap->Prop}:lastO P ro ops [⟨d,op,ty,pos,after,none⟩] a H Q=(isDef op=false/\wpOps P ro ops [⟨d,op,ty,pos,after,none⟩] a H Q):=by simp only[lastO,true_and]
theorem lastO_cons {ops:Array Oper} {o o2:Oper} {l:List Oper} {a:AAct} {Q:Exit->AAct->AHeap->Prop}:lastO P ro ops (o::o2::l) a H Q=lastO P ro ops (o2::l) a H Q:=by simp only[lastO]
theorem dropLast_one {o:Oper}:[o].dropLast=[]:=by simp only[List.dropLast]
theorem dropLast_more {o o2:Oper} {l:List Oper}:(o::o2::l).dropLast=o::(o2::l).dropLast:=by simp only[List.dropLast]
theorem isDef_call {c:Call}:isDef (.call c)=false:=by simp only[isDef]
theorem lastO_last (P:Program) (ro:Option Nat) (ops:Array Oper):∀ l:List Oper,l≠[]->∃ o,l=l.dropLast++[o]/\∀ (a:AAct) (H:AHeap) (Q:Exit->AAct->AHeap->Prop),lastO P ro ops l a H Q->o.guard=none/\isDef o.op=false/\wpOps P ro ops [o] a H Q
 |[],h=>absurd rfl h
 |[o],_=>⟨o,rfl,fun a H Q h=>h⟩
 |o::o2::l,_=>by
  obtain⟨q,h1,h2⟩:=lastO_last P ro ops (o2::l) (by simp)
  refine⟨q,?_,fun a H Q h=>by rw[lastO_cons]at h; exact h2 a H Q h⟩
  rw[dropLast_more,List.cons_append,<-h1]
theorem w_drawP {Q:Exit->AAct->AHeap->Prop} {id:Nat} {l:List Oper} {a:AAct} (bits gs:List (Nat × Nat)) (hst:staticOk ⟨l⟩=true) (hanc:((List.range (l.length-1)).all (fun j=>((ancs ⟨l⟩).getD (l.length-1) 0).testBit j))=true) (hb:(bits.all fun p=>((ancs ⟨l⟩).getD p.1 0).testBit p.2)=true) (hg:(gs.all fun p=>dstOf ⟨l⟩ p.1 == some p.2)=true)
  (h:∀ ops anc,(∀ p∈bits,(anc.getD p.1 0).testBit p.2=true)->(∀ p∈gs,dstOf ops p.1=some p.2)->wkD P ops anc l.dropLast 0 [] a H (fun a1 H1=>lastO P ro ops l a1 H1 Q)) (hne:l≠[]) (hdf:(l.getLast hne).guard=none/\isDef (l.getLast hne).op=false):wpA P ro (.region id ⟨l⟩ true) Q a H:=by
 have h1:=wkD_draw _ _ _ _ _ (h ⟨l⟩ (ancs ⟨l⟩) (fun p hp=>by simpa using zC4.1 hb p hp) (fun p hp=>by simpa using zC4.1 hg p hp))
 obtain⟨o,h2,h3⟩:=lastO_last P ro ⟨l⟩ l hne
 have ho:l.getLast hne=o:=by
  have:l.getLast?=some o:=by rw[h2]; simp
  rw[List.getLast?_eq_some_getLast hne]at this
  exact Option.some.inj this
 rw[ho]at hdf
 refine⟨hst,.inr ⟨l.dropLast,o,h2,hanc,hdf.2,wpDraw_mono (fun a1 H1 h=>⟨by simp only[wantA,hdf.1],(h3 a1 H1 Q h).2.2⟩) _ _ _ _ _ h1⟩⟩
theorem all2_nil {α:Type} {p:α->Prop}:(∀ x∈([]:List α),p x)=True:=by simp
theorem all2_cons {α:Type} {p:α->Prop} {y:α} {l:List α}:(∀ x∈y::l,p x)=(p y/\∀ x∈l,p x):=by simp
theorem nmem_nil {n:Nat}:(n∉([]:List Nat))=True:=by simp
theorem nmem_one {n m:Nat}:(n∉[m])=¬n=m:=by simp
theorem w_buildSlice {ops:Array Oper} {rest:List Oper} {dst:Option Nat} {ty:TypeId} {pos:String} {after:Array Edge} {Q:Exit->AAct->AHeap->Prop} {t:TypeId} {n:Nat} {l:List (Nat × Operand)}:wpOps P ro ops (⟨dst,.buildSlice t n ⟨l⟩,ty,pos,after,none⟩::rest) (mkA N E ds) H Q=heapC P ro ops rest N E ds dst Q ((pairs P (mkA N E ds) l).bind (aBuildSlice P H t n)) :=
 w_rvh rfl (by
  simp only[aop,xBuildSlice,zA1]
  cases pairs P (mkA N E ds) l<;>rfl)
theorem w_makeSlice {ops:Array Oper} {rest:List Oper} {dst:Option Nat} {ty:TypeId} {pos:String} {after:Array Edge} {Q:Exit->AAct->AHeap->Prop} {t:TypeId} {x y:Operand} (hx:opOk P N x=true) (hy:opOk P N y=true):wpOps P ro ops (⟨dst,.makeSlice t x y,ty,pos,after,none⟩::rest) (mkA N E ds) H Q=heapC P ro ops rest N E ds dst Q (aMakeSlice P H t (opv E x) (opv E y)) :=
 w_rvh rfl (by simp only[aop,xMakeSlice,aeval_opv hx,aeval_opv hy,zA1,zA3])
def bnds (E:Env):Option Operand->Option Value
 |none=>none
 |some x=>some (opv E x)
def bndsOk (P:Program) (N:Nat):Option Operand->Bool
 |none=>true
 |some x=>opOk P N x
theorem bnds_none:bnds E none=none:=by simp only[bnds]
theorem bnds_some {x:Operand}:bnds E (some x)=some (opv E x):=by simp only[bnds]
theorem bndsOk_none:bndsOk P N none=true:=by simp only[bndsOk]
theorem bndsOk_some {x:Operand}:bndsOk P N (some x)=opOk P N x:=by simp only[bndsOk]
theorem optEval_b {x:Option Operand} (h:bndsOk P N x=true):optEval P (mkA N E ds) x=some (bnds E x):=by
 cases x with
 |none=>rfl
 |some x=>simp only[bndsOk]at h; simp only[optEval,aeval_opv h,bnds,zA5]
theorem w_slice {ops:Array Oper} {rest:List Oper} {dst:Option Nat} {ty:TypeId} {pos:String} {after:Array Edge} {Q:Exit->AAct->AHeap->Prop} {t:TypeId} {x:Operand} {lo hi mx:Option Operand} (hx:opOk P N x=true) (h1:bndsOk P N lo=true) (h2:bndsOk P N hi=true) (h3:bndsOk P N mx=true):wpOps P ro ops (⟨dst,.slice t x lo hi mx,ty,pos,after,none⟩::rest) (mkA N E ds) H Q=heapC P ro ops rest N E ds dst Q (aSlice P H t (opv E x) (bnds E lo) (bnds E hi) (bnds E mx)) :=
 w_rvh rfl (by simp only[aop,xSlice,aeval_opv hx,optEval_b h1,optEval_b h2,optEval_b h3,zA1,zA3])
theorem dst_list {l:List Oper} {j:Nat}:dstOf ⟨l⟩ j=(l[j]?).bind (·.dst):=by simp[dstOf]
theorem guardC_true {ops:Array Oper} {o:Oper} {rest:List Oper} {Q:Exit->AAct->AHeap->Prop} {want:Bool}:guardC P ro ops o rest N E ds H Q want (.bool want)=wpOps P ro ops (o::rest) (mkA N E ds) H Q:=by simp only[guardC,if_true]
theorem guardC_ff {ops:Array Oper} {o:Oper} {rest:List Oper} {Q:Exit->AAct->AHeap->Prop}:guardC P ro ops o rest N E ds H Q true (.bool false)=wpOps P ro ops rest ((mkA N E ds).put o.dst undef) H Q:=by simp only[guardC,zB7,if_false]
theorem guardC_tt {ops:Array Oper} {o:Oper} {rest:List Oper} {Q:Exit->AAct->AHeap->Prop}:guardC P ro ops o rest N E ds H Q false (.bool true)=wpOps P ro ops rest ((mkA N E ds).put o.dst undef) H Q:=by simp only[guardC,Bool.true_eq_false,if_false]
theorem guardV_true {ops:Array Oper} {anc:List Nat} {o:Oper} {rest:List Oper} {i:Nat} {fps:List Fp} {Q:AAct->AHeap->Prop} {want:Bool}:guardV P ops anc o rest i fps N E ds H Q want (.bool want)=wkD P ops anc (o::rest) i fps (mkA N E ds) H Q:=by simp only[guardV,if_true]
theorem guardV_ff {ops:Array Oper} {anc:List Nat} {o:Oper} {rest:List Oper} {i:Nat} {fps:List Fp} {Q:AAct->AHeap->Prop}:guardV P ops anc o rest i fps N E ds H Q true (.bool false)=wkD P ops anc rest (i+1) fps ((mkA N E ds).put o.dst undef) H Q:=by simp only[guardV,zB7,if_false]
theorem guardV_tt {ops:Array Oper} {anc:List Nat} {o:Oper} {rest:List Oper} {i:Nat} {fps:List Fp} {Q:AAct->AHeap->Prop}:guardV P ops anc o rest i fps N E ds H Q false (.bool true)=wkD P ops anc rest (i+1) fps ((mkA N E ds).put o.dst undef) H Q:=by simp only[guardV,Bool.true_eq_false,if_false]
def origC (P:Program) (ro:Option Nat) (ops:Array Oper) (o:Oper) (rest:List Oper) (a:AAct) (H:AHeap) (Q:Exit->AAct->AHeap->Prop):Prop:=wpOps P ro ops (o::rest) a H Q
def gdC (P:Program) (ro:Option Nat) (ops:Array Oper) (o:Oper) (j:Nat) (want:Bool) (rest:List Oper) (N:Nat) (E:Env) (ds:List Deferred) (H:AHeap) (Q:Exit->AAct->AHeap->Prop):Option Nat->Prop
 |some d=>if d<N then guardC P ro ops o rest N E ds H Q want (E d) else origC P ro ops {o with guard:=some (j,want)} rest (mkA N E ds) H Q
 |none=>origC P ro ops {o with guard:=some (j,want)} rest (mkA N E ds) H Q
theorem gdC_some {ops:Array Oper} {o:Oper} {j d:Nat} {want:Bool} {rest:List Oper} {Q:Exit->AAct->AHeap->Prop} (h:d<N):gdC P ro ops o j want rest N E ds H Q (some d)=guardC P ro ops o rest N E ds H Q want (E d):=by simp only[gdC,h,if_true]
theorem w_gd {ops:Array Oper} {dst:Option Tmp} {op:Op} {ty:TypeId} {pos:String} {after:Array Edge} {j:Nat} {want:Bool} {rest:List Oper} {Q:Exit->AAct->AHeap->Prop} :
  wpOps P ro ops (⟨dst,op,ty,pos,after,some (j,want)⟩::rest) (mkA N E ds) H Q=gdC P ro ops ⟨dst,op,ty,pos,after,none⟩ j want rest N E ds H Q (dstOf ops j):=by
 cases hj:dstOf ops j with
 |none=>simp only[gdC,origC]
 |some d =>
  simp only[gdC]
  split
  ·rename_i hd
   exact w_guard hj hd
  ·simp only[origC]
def origV (P:Program) (ops:Array Oper) (anc:List Nat) (o:Oper) (rest:List Oper) (i:Nat) (fps:List Fp) (a:AAct) (H:AHeap) (Q:AAct->AHeap->Prop):Prop:=wkD P ops anc (o::rest) i fps a H Q
def gdV (P:Program) (ops:Array Oper) (anc:List Nat) (o:Oper) (j:Nat) (want:Bool) (rest:List Oper) (i:Nat) (fps:List Fp) (N:Nat) (E:Env) (ds:List Deferred) (H:AHeap) (Q:AAct->AHeap->Prop):Option Nat->Prop
 |some d=>if d<N then guardV P ops anc o rest i fps N E ds H Q want (E d) else origV P ops anc {o with guard:=some (j,want)} rest i fps (mkA N E ds) H Q
 |none=>origV P ops anc {o with guard:=some (j,want)} rest i fps (mkA N E ds) H Q
theorem gdV_some {ops:Array Oper} {anc:List Nat} {o:Oper} {j d:Nat} {want:Bool} {rest:List Oper} {i:Nat} {fps:List Fp} {Q:AAct->AHeap->Prop} (h:d<N):gdV P ops anc o j want rest i fps N E ds H Q (some d)=guardV P ops anc o rest i fps N E ds H Q want (E d):=by simp only[gdV,h,if_true]
theorem wd_gd {ops:Array Oper} {anc:List Nat} {dst:Option Tmp} {op:Op} {ty:TypeId} {pos:String} {after:Array Edge} {j:Nat} {want:Bool} {rest:List Oper} {i:Nat} {fps:List Fp} {Q:AAct->AHeap->Prop} :
  wkD P ops anc (⟨dst,op,ty,pos,after,some (j,want)⟩::rest) i fps (mkA N E ds) H Q=gdV P ops anc ⟨dst,op,ty,pos,after,none⟩ j want rest i fps N E ds H Q (dstOf ops j):=by
 cases hj:dstOf ops j with
 |none=>simp only[gdV,origV]
 |some d =>
  simp only[gdV]
  split
  ·rename_i hd
   exact wd_guard hj hd
  ·simp only[origV]
theorem put_at {d:Nat} {v:Value} (h:d<N):(mkA N E ds).put (some d) v=mkA N (upd E d v) ds:=put_some N E ds d v h
def loopC (N:Nat) (ds:List Deferred) (K:Env->AHeap->Prop) (Q:Exit->AAct->AHeap->Prop):Exit->AAct->AHeap->Prop:=seqQ (fun a1 H1=>∃ E',a1=mkA N E' ds/\K E' H1) Q
theorem loopC_normal {K:Env->AHeap->Prop} {Q:Exit->AAct->AHeap->Prop}:loopC N ds K Q .normal (mkA N E ds) H=∃ E',mkA N E ds=mkA N E' ds/\K E' H:=by simp only[loopC,seqQ]
theorem loopC_exit {K:Env->AHeap->Prop} {Q:Exit->AAct->AHeap->Prop} {id:Nat} {a:AAct}:loopC N ds K Q (.exit id) a H=Q (.exit id) a H:=by simp only[loopC,seqQ]
theorem loopC_ret {K:Env->AHeap->Prop} {Q:Exit->AAct->AHeap->Prop} {a:AAct}:loopC N ds K Q .ret a H=Q .ret a H:=by simp only[loopC,seqQ]
theorem w_loop {σ:Type} (I:σ->Env->AHeap->Prop) (m:σ->Nat) (s0:σ) {b:Code} {Q:Exit->AAct->AHeap->Prop} (h0:I s0 E H)
  (h:∀ s E H,I s E H->wpA P ro b (loopC N ds (fun E' H'=>∃ s',m s'<m s/\I s' E' H') Q) (mkA N E ds) H):wpA P ro (.loop b) Q (mkA N E ds) H:=by
 refine wpA_loop (I:=fun k a H=>∃ s E,a=mkA N E ds/\m s=k/\I s E H) (k:=m s0) ⟨s0,E,rfl,rfl,h0⟩ ?_
 rintro k a H ⟨s,E,rfl,rfl,hI⟩
 refine wpA_mono b _ H (fun e a1 H1 h1=>?_) (h s E H hI)
 cases e with
 |normal =>
  obtain⟨E',rfl,s',hlt,hI'⟩:=h1
  exact⟨m s',hlt,s',E',rfl,rfl,hI'⟩
 |_=>exact h1
theorem w_callV {f:FuncId} {x:Operand} {args:List Operand} {ts:Array TypeId} {dst:Option Nat} {ops:Array Oper} {rest:List Oper} {ty:TypeId} {pos:String} {after:Array Edge} {Q:Exit->AAct->AHeap->Prop} {ca:List Value} (hx:opOk P N x=true) (hv:opv E x=.func (.func f) ⟨[]⟩ ⟨ca⟩) (ha:args.all (opOk P N)=true) (hb:hasBody P f=true)
  (h:CallA P f (args.map (opv E)++ca) H (opC P ro ops rest (mkA N E ds) dst Q)) :
  wpOps P ro ops (⟨dst,.call ⟨.value x,⟨args⟩,ts⟩,ty,pos,after,none⟩::rest) (mkA N E ds) H Q:=by
 rw[w_op rfl rfl]
 simp only[opA,aop,xCall,aevals_opv ha,aeval_opv hx,hv,zA1,zA3,callV,aInvoke,enterN,hb,if_true,zD5,zA5,nextA]
 exact h
theorem genV_ext {ops:Array Oper} {anc:List Nat} {d:Nat} {ty:TypeId} {pos:String} {after:Array Edge} {rest:List Oper} {i:Nat} {fps:List Fp} {Q:AAct->AHeap->Prop} {f:FuncId} {args:List Operand} {ts:Array TypeId} {v:Value} {M:List Bl} (F:List Nat) (ha:args.all (opOk P N)=true) (hb:hasBody P f=true) (hd:d<N) (hF:∀ n∈F,H.get n≠none)
  (hc:∀ G:AHeap,G.next=H.next->(∀ n∈F,G.get n=H.get n)->CallS P f (args.map (opv E)) G (.ok v) (ext G M)) (hm:∀ r∈fps,Meets (anc.getD i 0) F [] (idsV v++M.flatMap fun x=>idsL x.l) r)
  (h:wkD P ops anc rest (i+1) (⟨i,F,[],H.next,H.next+M.length⟩::fps) (mkA N (upd E d v) ds) (ext H M) Q):genV P ops anc ⟨some d,.call ⟨.value (.func f),⟨args⟩,ts⟩,ty,pos,after,none⟩ rest i fps (mkA N E ds) H Q:=by
 have hn:=restrict_next H F
 have hd':(ext (H.restrict F) M).dirty=[]:=by rw[ext_dirty,hn.2.2]
 have hnx:(ext (H.restrict F) M).next=H.next+M.length:=by rw[ext_next,hn.1]
 have hget:∀ j,j<M.length->(ext (H.restrict F) M).get (H.next+j)=M[j]?.map Bl.obj:=by
  intro j hj
  rw[<-hn.1]
  exact ext_get_new hj
 have hmn:∀ (M:List Bl) (K g:AHeap) (m:Nat),K.next=m->(∀ j,j<M.length->g.get (m+j)=M[j]?.map Bl.obj)->∀ h',h'=AHeap.mergeN K g m M.length->(⟨h'.root,m+M.length,h'.base,h'.dirty⟩:AHeap)=ext K M:=by
  intro M
  induction M with
  |nil=>intro K g m hK _ h' hh; subst hK; subst hh; rfl
  |cons x M ih =>
   intro K g m hK hg h' hh
   have h0:=hg 0 (by simp)
   simp only[zD3,zC5,zA5]at h0
   rw[zB0]at hh
   simp only[AHeap.mergeN,h0]at hh
   have:=ih (nw K x.e x.l x.o) g (m+1) (by rw[nw_next,hK]) (fun j hj=>by
    have:=hg (j+1) (by simpa using hj)
    simp only[zD0]at this
    rw[show m+1+j=m+(j+1) by omega]
    exact this) (AHeap.mergeN (nw K x.e x.l x.o) g (m+1) M.length) rfl
   have key:∀ (A B:AHeap) (n k:Nat),A.root=B.root->A.base=B.base->A.dirty=B.dirty->(AHeap.mergeN A g n k).root=(AHeap.mergeN B g n k).root/\(AHeap.mergeN A g n k).base=(AHeap.mergeN B g n k).base/\(AHeap.mergeN A g n k).dirty=(AHeap.mergeN B g n k).dirty:=by
    intro A B n k
    induction k generalizing A B n with
    |zero=>exact fun h1 h2 h3=>⟨h1,h2,h3⟩
    |succ k ihk =>
     intro h1 h2 h3
     simp only[AHeap.mergeN]
     exact ihk _ _ _ (by simp only[AHeap.put_eq,h1]) h2 h3
   have k2:=key (nw K x.e x.l x.o) (K.put m (some x.obj)) (m+1) M.length (by simp only[nw,AHeap.new_eq,AHeap.put_eq,hK,Bl.obj]) rfl rfl
   rw[ext,<-this,hh,k2.1,k2.2.1,k2.2.2,zB0,show m+(M.length+1)=m+1+M.length by omega]
 have hmg:H.merge (ext (H.restrict F) M)=ext H M:=by
  unfold AHeap.merge
  rw[hd',hnx,Nat.add_sub_cancel_left]
  simp only[AHeap.mergeW]
  exact hmn M H _ H.next rfl hget _ rfl
 refine⟨F,v,ext (H.restrict F) M,?_,hF,(by rw[hd']; simp),fun r hr=>fpOk_of ?_,?_⟩
 ·refine opS_of (x:=.enter f (args.map (opv E))) (g:=H.restrict F) ?_ (hc _ hn.1 (fun n hn'=>by rw[restrict_get,if_pos hn']))
  simp only[aop,xCall,aevals_opv ha,aeval,zA1,zA3,callV,aInvoke,enterN,hb,if_true,zD5,zE2,zA5]
 ·have hids:∀ (k s:Nat),s+k=M.length->(rangeFrom (H.next+s) k).flatMap (idsAt (ext (H.restrict F) M))=(M.drop s).flatMap fun x=>idsL x.l:=by
   intro k
   induction k with
   |zero=>intro s hs; rw[rangeFrom,List.drop_eq_nil_of_le (by omega)]; rfl
   |succ k ih =>
    intro s hs
    have hlt:s<M.length:=by omega
    rw[rangeFrom,zE1,List.drop_eq_getElem_cons hlt,zE1]
    have:=ih (s+1) (by omega)
    rw[show H.next+(s+1)=H.next+s+1 by omega]at this
    rw[this]
    congr 1
    simp only[idsAt,hget s hlt,zA7 hlt,zA5,Bl.obj,idsO,RV.n_ofList,RV.gets_ofList]
  have:=hids M.length 0 (by omega)
  simp only[zD3,zC7]at this
  rw[hd']
  simp only[outIds,hd',hnx,Nat.add_sub_cancel_left,zD5,this]
  exact hm r hr
 ·rw[hmg,hd',hnx]
  simp only[put_some N E ds d v hd]
  exact h
end
structure Mod (W:List Nat) (H H1:AHeap):Prop where
 next:H.next<=H1.next
 base:H1.base=H.base
 get:∀ n,n<H.next->n∉W->H1.get n=H.get n
 sub:∀ n,n∈H.dirty->n∈H1.dirty
 dirty:∀ n,n∈H1.dirty->n∈H.dirty\/(n∈W/\n<H.base)
 keep:∀ n,n<H.base->n∉H1.dirty->H1.get n=H.get n
section
variable {P : Program} {H H1 H2 : AHeap} {W : List Nat} {L : List Bl}
theorem Mod.refl:Mod W H H:=⟨zA8 _,rfl,fun _ _ _=>rfl,fun _ h=>h,fun _ h=>.inl h,fun _ _ _=>rfl⟩
theorem Mod.trans (a:Mod W H H1) (b:Mod W H1 H2):Mod W H H2 where
 next:=zB8 a.next b.next
 base:=b.base.trans a.base
 get:=fun n hn hW=>(b.get n (zC3 hn a.next) hW).trans (a.get n hn hW)
 sub:=fun n h=>b.sub n (a.sub n h)
 dirty:=fun n h=>(b.dirty n h).elim (a.dirty n) (fun h=>.inr ⟨h.1,a.base▸h.2⟩)
 keep:=fun n hn hd=>(b.keep n (by rw[a.base]; exact hn) hd).trans (a.keep n hn (fun h=>hd (b.sub n h)))
theorem Mod.mono {W':List Nat} (a:Mod W H H1) (h:∀ n∈W,n∈W'):Mod W' H H1 :=
 ⟨a.next,a.base,fun n hn hW=>a.get n hn (fun h'=>hW (h n h')),a.sub,fun n hn=>(a.dirty n hn).imp id (fun h'=>⟨h n h'.1,h'.2⟩),a.keep⟩
theorem Mod.ext (hb:H.base<=H.next):Mod W H (Go.Ax.ext H L) :=
 ⟨by rw[ext_next]; omega,ext_base,fun n hn _=>ext_get_old hn,fun n h=>by rw[ext_dirty]; exact h,fun n h=>by rw[ext_dirty]at h; exact .inl h,fun n hn _=>ext_get_old (by omega)⟩
theorem uw_sub {n off:Nat} {vs:List Value} {m:Nat} (h:m∈H.dirty):m∈(uw H n off vs).dirty:=by
 unfold uw
 split
 ·simp only[AHeap.upd_eq]
  split
  ·exact zB5 _ h
  ·exact h
 ·exact h
theorem Mod.uw {n off:Nat} {vs:List Value} (hn:n∈W):Mod W H (Go.Ax.uw H n off vs) where
 next:=by rw[uw_next]; exact zA8 _
 base:=uw_base
 get:=fun m _ hm=>uw_get (fun e=>hm (e▸hn))
 sub:=fun m h=>uw_sub h
 dirty:=fun m h=>by
  rcases uw_dirty h with h|⟨rfl,h⟩
  ·exact .inl h
  ·exact .inr ⟨hn,h⟩
 keep:=fun m hm hd=>by
  by_cases e:m=n
  ·subst e
   unfold Go.Ax.uw at hd ⊢
   split at hd
   ·simp only[AHeap.upd_eq,blt_of hm,if_true]at hd
    exact absurd zB9 hd
   ·rfl
  ·exact uw_get e
theorem Mod.bk (m:Mod W H H1) {n:Nat} (hn:n<H.next) (hW:n∉W):Go.Ax.bk H1 n=Go.Ax.bk H n:=bk_get (m.get n hn hW)
theorem Mod.lt (m:Mod W H H1) {n:Nat} (hn:n<H.next):n<H1.next:=zC3 hn m.next
theorem Mod.ok (m:Mod W H H1) (h:H.base<=H.next):H1.base<=H1.next:=by have:=m.next; rw[m.base]; omega
theorem mergeW_dirtW (g:AHeap):∀ (l:List Nat) (H:AHeap) (n:Nat),n∈(AHeap.mergeW H g l).dirty->n∈H.dirty\/(n∈l/\n<H.base)
 |[],_,_,h=>.inl h
 |m::r,H,n,h=>by
  rcases mergeW_dirtW g r _ n h with h|h
  ·simp only[AHeap.upd_eq]at h
   split at h
   ·rename_i hb
    rcases zB1.1 h with rfl|h
    ·exact .inr ⟨zB9,blt_lt hb⟩
    ·exact .inl h
   ·exact .inl h
  ·exact .inr ⟨zB5 _ h.1,h.2⟩
theorem merge_dirtW (H g:AHeap) (n:Nat) (h:n∈(H.merge g).dirty):n∈H.dirty\/(n∈g.dirty/\n<H.base):=by
 have k:=(mergeN_next g (g.next-H.next) H.next (AHeap.mergeW H g g.dirty)).2
 refine mergeW_dirtW g g.dirty H n ?_
 rw[<-k]
 exact h
theorem Mod.step {W':List Nat} (a:Mod W H H1) (b:Mod W' H1 H2) (hok:H.base<=H.next) (h:∀ n∈W',n∈W\/H.next<=n):Mod W H H2 where
 next:=zB8 a.next b.next
 base:=b.base.trans a.base
 get:=fun n hn hW=>(b.get n (zC3 hn a.next) (fun h'=>(h n h').elim hW (by omega))).trans (a.get n hn hW)
 sub:=fun n h=>b.sub n (a.sub n h)
 dirty:=fun n h'=>by
  rcases b.dirty n h' with h'|⟨h1,h2⟩
  ·exact a.dirty n h'
  ·rw[a.base]at h2
   exact .inr ⟨(h n h1).elim id (by omega),h2⟩
 keep:=fun n hn hd=>(b.keep n (by rw[a.base]; exact hn) hd).trans (a.keep n hn (fun h=>hd (b.sub n h)))
theorem Mod.upd {n:Nat} {o:Option AObj} (hn:n∈W):Mod W H (H.upd n o) where
 next:=zA8 _
 base:=rfl
 get:=fun m _ hm=>by
  have hne:m≠n:=by rintro rfl; exact hm hn
  rw[AHeap.get_upd,if_neg hne]
 sub:=fun m h=>by
  simp only[AHeap.upd_eq]
  split
  ·exact zB5 _ h
  ·exact h
 dirty:=fun m h=>by
  simp only[AHeap.upd_eq]at h
  split at h
  ·rename_i hb
   rcases zB1.1 h with rfl|h
   ·exact .inr ⟨hn,blt_lt hb⟩
   ·exact .inl h
  ·exact .inl h
 keep:=fun m hm hd=>by
  by_cases e:m=n
  ·subst e
   simp only[AHeap.upd_eq,blt_of hm,if_true]at hd
   exact absurd zB9 hd
  ·rw[AHeap.get_upd,if_neg e]
theorem Mod.new {o:AObj} (hok:H.base<=H.next):Mod W H (H.new o) :=
 ⟨Nat.le_succ _,rfl,fun n hn _=>by rw[AHeap.get_new,if_neg (by omega)],fun _ h=>h,fun _ h=>.inl h,fun n hn _=>by rw[AHeap.get_new,if_neg (by omega)]⟩
theorem Mod.drop (w:WF P H) (m:Mod [] H H1):Rn id H H1 H where
 low:=fun _ _=>rfl
 next:=zA8 _
 base:=rfl
 dirty:=fun _ h=>h
 dirt1:=fun n h=>(m.dirty n h).elim id (fun h=>by cases h.1)
 get:=fun n o2 h=>.inl ⟨(w.dom n o2 h).1,h,by rw[m.get n (w.dom n o2 h).1 (by simp),h]⟩
 keep:=fun n _ h=>.inl h
 inj:=fun m n _ _ h=>h
 ro:=fun n _=>⟨.inl,fun _=>rfl⟩
theorem Mod.one (w:WF P H) (m:Mod [] H H1) {k:Nat} {b:Bl} (hk:H.next<=k) (hb:Go.Ax.bk H1 k=some b) (hs:scbL H.next b.l=true):Rn (fun n=>if n<H.next then n else k) H H1 (Go.Ax.ext H [b]):=by
 have hnew:∀ n o2,H.next<=n->(Go.Ax.ext H [b]).get n=some o2->n=H.next/\o2=b.obj:=by
  intro n o2 hn h
  by_cases hi:n=H.next
  ·subst hi
   have:=ext_get_new (L:=[b]) (H:=H) (i:=0) (by simp)
   simp only[zD3,zC5,zA5]at this
   rw[this]at h
   exact⟨rfl,(Option.some.inj h).symm⟩
  ·rw[ext_get_far (by simp; omega)]at h
   have:=(w.dom _ _ h).1
   omega
 have hall:∀ (l:List Value),scbL H.next l=true->∀ j,j<l.length->scb H.next (l.getD j undef)=true:=by
  intro l
  induction l with
  |nil=>intro _ j hj; simp at hj
  |cons x r ih =>
   intro hl j hj
   simp only[scbL,zA4]at hl
   cases j with
   |zero=>simpa using hl.1
   |succ j =>
    have:=ih hl.2 j (by simpa using hj)
    simpa using this
 refine⟨fun n hn=>if_pos hn,by rw[ext_next]; omega,by rw[ext_base],fun n h=>by rw[ext_dirty]; exact h,fun n h=>by rw[ext_dirty]; exact (m.dirty n h).elim id (fun h=>by cases h.1),?_,?_,?_,fun n hz=>⟨fun h=>.inl (by rw[ext_dirty]at h; exact h),fun _=>ext_get_old (by
  obtain⟨o,ho,_⟩:=hz
  exact (w.dom n o ho).1)⟩⟩
 ·intro n o2 h
  rcases zB6 n H.next with hn|hn
  ·rw[ext_get_old hn]at h
   exact .inl ⟨hn,h,by rw[m.get n hn (by simp),h]⟩
  ·obtain⟨rfl,rfl⟩:=hnew n o2 hn h
   obtain⟨rv,hc,hn1,hg⟩:=bk_blk hb
   refine .inr ⟨by rw[ext_next]; simp,?_,fun h=>absurd w.base (by omega),fun h=>absurd h (by omega),fun _=>by rw[if_neg (by omega)]; exact hk,?_⟩
   ·simp only[Bl.obj,sco,RV.n_ofList]
    intro j hj
    rw[RV.get_ofList,ext_next]
    exact scb_mono (by omega) _ (hall _ hs j hj)
   ·rw[if_neg (Nat.lt_irrefl _)]
    unfold cellsAt at hc
    split at hc
    ·rename_i c e z o v hg1
     cases hc
     refine⟨_,hg1,⟨c,b.e,0,z,#[],0,rfl,rfl⟩,rfl,?_,?_⟩
     ·simp only[Bl.obj,RV.n_ofList]; exact hn1
     ·intro j hj
      simp only[Bl.obj,RV.n_ofList]at hj
      simp only[Bl.obj,RV.get_ofList]
      rw[hg j hj,rnV_low (N:=H.next) (fun n hn=>if_pos hn) _ (hall _ hs j hj)]
    ·cases hc
 ·intro n hb' h
  have hn:n<H.next:=zC3 hb' w.base
  rw[ext_get_old hn]at h
  exact .inl h
 ·have cls:∀ n,(Go.Ax.ext H [b]).get n≠none->n<H.next\/n=H.next:=by
   intro n hn
   rcases zB6 n H.next with h|h
   ·exact .inl h
   ·cases hg:(Go.Ax.ext H [b]).get n with
    |none=>exact absurd hg hn
    |some o2=>exact .inr (hnew n o2 h hg).1
  intro m' n' hm hn he
  rcases cls m' hm with h1|rfl<;>rcases cls n' hn with h2|rfl
  ·rw[if_pos h1,if_pos h2]at he; exact he
  ·rw[if_pos h1,if_neg (Nat.lt_irrefl _)]at he; omega
  ·rw[if_pos h2,if_neg (Nat.lt_irrefl _)]at he; omega
  ·rfl
variable {f : FuncId} {args : List Value}
theorem callS_drop {v:Value} (h:WF P H->scbL H.next args=true->CallA P f args H fun out H1=>out=.ok v/\Mod [] H H1) (hv:WF P H->scbL H.next args=true->scb H.next v=true):CallS P f args H (.ok v) H:=by
 intro ρ w r hsc
 obtain⟨_,H1,h1,rfl,m⟩:=h r.wf hsc
 exact CallS.rn (σ:=id) (H1:=H1) (by rw[rnV_id (hv r.wf hsc)]; exact h1) (fun w=>m.drop w) (hv r.wf hsc) ρ w r hsc
theorem callS_one {b:Bl} {n c:Nat} {s:Option Nat} (h:WF P H->scbL H.next args=true->CallA P f args H fun out H1=>∃ k,out=.ok (.slice (some ⟨k,0,s⟩) n c)/\H.next<=k/\Go.Ax.bk H1 k=some b/\Mod [] H H1) (hs:WF P H->scbL H.next args=true->scbL H.next b.l=true) :
  CallS P f args H (.ok (.slice (some ⟨H.next,0,s⟩) n c)) (Go.Ax.ext H [b]):=by
 intro ρ w r hsc
 obtain⟨_,H1,h1,k,rfl,hk,hb,m⟩:=h r.wf hsc
 refine CallS.rn (σ:=fun n=>if n<H.next then n else k) (H1:=H1) ?_ (fun w=>m.one w hk hb (hs r.wf hsc)) (by rw[ext_next]; exact blt_of (zC1 _)) ρ w r hsc
 simp only[rnV,Nat.lt_irrefl,if_false]
 exact h1
end
section
variable {P : Program} {ro : Option Nat} {H : AHeap} {N : Nat} {E : Env} {ds : List Deferred} {L : List Bl}
def CallY (P:Program) (l:Nat) (args:List Value) (H:AHeap) (R:Out->AHeap->Prop):Prop :=
 match aYield H l args with
 |some (.round rd)=>RoundA P rd H R
 |_=>False
theorem w_env {c:Code} {Q:Exit->AAct->AHeap->Prop} (h:∀ E',E'=E->wpA P ro c Q (mkA N E' ds) H):wpA P ro c Q (mkA N E ds) H:=h E rfl
theorem w_func {f:FuncId} {first captured:List Operand} {ops:Array Oper} {rest:List Oper} {d:Nat} {ty:TypeId} {pos:String} {after:Array Edge} {Q:Exit->AAct->AHeap->Prop} (h1:first.all (opOk P N)=true) (h2:captured.all (opOk P N)=true) (hd:d<N) :
  wpOps P ro ops (⟨some d,.makeFunc (.func f) ⟨first⟩ ⟨captured⟩,ty,pos,after,none⟩::rest) (mkA N E ds) H Q=wpOps P ro ops rest (mkA N (upd E d (.func (.func f) ⟨first.map (opv E)⟩ ⟨captured.map (opv E)⟩)) ds) H Q:=by
 rw[w_op rfl rfl]
 simp only[opA,aop,xFunc,aevals_opv h1,aevals_opv h2,zA1,zA3,funcV,nextA,opC,put_some N E ds d _ hd]
theorem ok_nilfunc:opOk P N (.const .nilFunc)=true:=by simp only[opOk,af]
theorem first_rk {sz cnt n off len cap:Nat} {s:Option Nat} {b:Bl} (h:rk H n=some b) (hle:off+cnt*sz<=b.l.length):firstC H sz cnt (.slice (some ⟨n,off,s⟩) len cap)=some ((b.l.drop off).take (cnt*sz)):=by
 obtain⟨rv,h1,h2,h3⟩:=rk_blk h
 by_cases hc:cnt=0
 ·subst hc
  rw[Nat.zero_mul,List.take_zero]
  simp only[firstC,if_true]
 simp only[firstC,if_neg hc,h1,zA1,zA3]
 rw[if_pos (by rw[Nat.ble_eq]; omega),Blk.gets h2 h3 _ _ hle]
theorem first_bk {sz cnt n off len cap:Nat} {s:Option Nat} {b:Bl} (h:bk H n=some b) (hle:off+cnt*sz<=b.l.length):firstC H sz cnt (.slice (some ⟨n,off,s⟩) len cap)=some ((b.l.drop off).take (cnt*sz)):=first_rk (rk_of h) hle
def dp (H:AHeap) (m:Nat):AHeap:=H.upd m none
theorem dp_next {m:Nat}:(dp H m).next=H.next:=rfl
theorem dp_get {m n:Nat} (h:n≠m):(dp H m).get n=H.get n:=by rw[dp,AHeap.get_upd,if_neg h]
structure Yld (P:Program) (l:Nat) (α:Type) (enc:α->List Value) (go:α->Bool) (cap:Nat) where
 Inv:List α->List Nat->List Nat->AHeap->Prop
 sub:∀ {rs F W G},Inv rs F W G->∀ n∈W,n∈F
 dom:∀ {rs F W G},Inv rs F W G->∀ n∈F,G.get n≠none/\n<G.next
 loc:∀ {rs F W G G'},Inv rs F W G->G.next<=G'.next->(∀ n∈F,G'.get n=G.get n)->Inv rs F W G'
 step:∀ {rs F W G r},Inv rs F W G->(∀ x∈rs,go x=true)->rs.length<cap->G.base<=G.next->CallY P l (enc r) G (fun out G'=>out=.ok (.bool (go r))/\∃ F' W',Inv (rs++[r]) F' W' G'/\Mod W G G'/\(∀ n∈F',n∈F\/G.next<=n)/\(∀ n∈W',n∈W\/G.next<=n))
def idsB:Option Bl->List Nat
 |some x=>idsL x.l
 |none=>[]
theorem idsB_eq {e:TypeId} {o:Bool} {l:List Value}:idsB (some ⟨e,o,l⟩)=idsL l:=by simp only[idsB]
theorem ids_at {b i:Nat} (h:H.next=b) (hi:i<L.length):idsAt (ext H L) (b+i)=idsB L[i]?:=by
 rw[ids_new h hi]
 cases L[i]?<;>rfl
def lenS (n:Nat):Option TypeDesc->Option Value
 |some (.slice _)=>some (goInt n)
 |some (.array m _)=>some (goInt m)
 |_=>none
def lenR (n:Nat):Option TypeDesc->Option Value
 |some (.slice _)=>some (goInt n)
 |_=>none
theorem lenS_slice {n:Nat} {e:TypeId}:lenS n (some (.slice e))=some (goInt n):=by simp only[lenS]
theorem lenR_slice {n:Nat} {e:TypeId}:lenR n (some (.slice e))=some (goInt n):=by simp only[lenR]
theorem bt_lenS {t:TypeId} {x:Option Addr} {n c:Nat}:aBuiltin P H .len ⟨[t]⟩ [.slice x n c]=(lenS n (P.underlying t)).map fun v=>(v,H):=by
 simp only[aBuiltin,aLen]
 cases P.underlying t with
 |none=>rfl
 |some d=>cases d<;>rfl
theorem rb_lenS {t:TypeId} {x:Option Addr} {n c:Nat}:regBt P .len ⟨[t]⟩ [.slice x n c]=lenR n (P.underlying t):=by
 simp only[regBt]
 cases P.underlying t with
 |none=>rfl
 |some d=>cases d<;>rfl
theorem go_int {n:Int}:goInt n=.int .i64 n:=by simp only[goInt]
theorem ia_slice {t e:TypeId} {sz n off len cap:Nat} {s:Option Nat} {k:IntKind} {i:Int} (hu:P.underlying t=some (.slice e)) (hsz:szOf P e=some sz) (h0:0<=i) (h1:i<len):aIndexAddr P t (.slice (some ⟨n,off,s⟩) len cap) (.int k i)=some (.pointer (some ⟨n,off+i.toNat*sz,none⟩)):=by
 simp only[aIndexAddr,hu,hsz,zA1,zA3,h0,h1,and_self,if_true]
theorem idsOk_new {anc j lo hi:Nat} {F W O:List Nat} {fps:List Fp}:IdsOk anc (⟨j,F,W,lo,hi⟩::fps) O=((lo<hi->anc.testBit j=true\/∀ n∈O,n<lo\/hi<=n)/\IdsOk anc fps O):=by simp[IdsOk]
theorem idsOk_anc {anc j lo hi:Nat} {F W O:List Nat} {fps:List Fp} (h:anc.testBit j=true):IdsOk anc (⟨j,F,W,lo,hi⟩::fps) O=IdsOk anc fps O:=by simp[IdsOk,h]
theorem meets_bit {anc j lo hi:Nat} {F W F' W' O:List Nat} (h:anc.testBit j=true):Meets anc F W O ⟨j,F',W',lo,hi⟩=True:=by simp[Meets,h]
end
section
variable {P : Program} {ro : Option Nat} {H : AHeap} {N : Nat} {E : Env} {ds : List Deferred} {L : List Bl}
theorem isOpen_bk {n:Nat} {b:Bl} (h:bk H n=some b):isOpen H n=some b.o:=by
 unfold bk at h
 cases hc:cellsAt H n with
 |none=>rw[hc]at h; cases h
 |some x =>
  rw[hc]at h
  obtain⟨rv,e,o⟩:=x
  cases h
  obtain⟨c0,f0,hg⟩:=cellsAt_get hc
  simp only[isOpen,hg]
section
variable {ops : Array Oper} {anc : List Nat} {d : Nat} {ty : TypeId} {pos : String} {after : Array Edge} {rest : List Oper} {i : Nat} {fps : List Fp} {Q : AAct -> AHeap -> Prop}
end
end
section
variable {P : Program} {ro : Option Nat} {H : AHeap} {N : Nat} {E : Env} {ds : List Deferred} {L : List Bl}
def joinR (N:Nat) (ds:List Deferred) (J:Env->AHeap->Prop) (Q:Exit->AAct->AHeap->Prop):Exit->AAct->AHeap->Prop
 |.normal,a,H=>∃ E,a=mkA N E ds/\J E H
 |e,a,H=>Q e a H
theorem joinR_normal {J:Env->AHeap->Prop} {Q:Exit->AAct->AHeap->Prop} (h:J E H):joinR N ds J Q .normal (mkA N E ds) H:=⟨E,rfl,h⟩
theorem joinR_ret {J:Env->AHeap->Prop} {Q:Exit->AAct->AHeap->Prop} {a:AAct}:joinR N ds J Q .ret a H=Q .ret a H:=Eq.trans rfl rfl
theorem joinR_seq {J:Env->AHeap->Prop} {Q:Exit->AAct->AHeap->Prop} {z:Code} (h3:∀ E H,J E H->wpA P ro z Q (mkA N E ds) H):∀ e a H,joinR N ds J Q e a H->seqC P ro z Q e a H:=by
 intro e a H h
 cases e with
 |normal =>
  obtain⟨E',rfl,hI⟩:=h
  exact h3 E' H hI
 |_=>exact h
theorem blockC_meet {c z:Code} {id:Nat} {Q:Exit->AAct->AHeap->Prop} (J:Env->AHeap->Prop) (h1:wpA P ro c (blockC id (joinR N ds J Q)) (mkA N E ds) H) (h3:∀ E H,J E H->wpA P ro z Q (mkA N E ds) H):wpA P ro c (blockC id (seqC P ro z Q)) (mkA N E ds) H:=by
 refine wpA_mono c _ H (fun e a H h=>?_) h1
 exact joinR_seq h3 _ _ _ h
theorem w_meet {c z:Code} {Q:Exit->AAct->AHeap->Prop} (J:Env->AHeap->Prop) (h1:wpA P ro c (joinR N ds J Q) (mkA N E ds) H) (h3:∀ E H,J E H->wpA P ro z Q (mkA N E ds) H):wpA P ro c (seqC P ro z Q) (mkA N E ds) H :=
 wpA_mono c _ H (joinR_seq h3) h1
theorem loopC_next {K:Env->AHeap->Prop} {Q:Exit->AAct->AHeap->Prop} (h:K E H):loopC N ds K Q .normal (mkA N E ds) H:=by
 rw[loopC_normal]
 exact⟨E,rfl,h⟩
end
section
variable {P : Program}
theorem peval_bind {α β:Type} (s:Sem α) (f:α->Sem β):peval P (s >>= f)=(peval P s).bind fun a=>peval P (f a):=by
 show peval P (Sem.bind s f)=_
 induction s with
 |pure x=>rfl
 |program k ih=>simp only[Sem.bind,peval]; exact ih P
 |mark m k ih=>simp only[Sem.bind,peval]; exact ih
 |load|store|new|shape|freeze|frozen|getObj|setObj|choose|sys|halt=>simp[Sem.bind,peval]
theorem peval_pure {α:Type} (a:α):peval P (pure a:Sem α)=some a:=rfl
theorem peval_program:peval P Go.program=some P:=rfl
theorem peval_und {t:TypeId} {d:TypeDesc} (h:P.underlying t=some d):peval P (underlying t)=some d:=by
 simp only[underlying,peval_bind,peval_program,zA3,h,peval_pure]
theorem peval_agg {t:TypeId} {b:Bool} (h:aggT P t=some b):peval P (isAgg t)=some b:=by
 unfold aggT at h
 cases e:P.underlying t with
 |none=>rw[e]at h; cases h
 |some d =>
  rw[e]at h
  simp only[isAgg,peval_bind,peval_und e,zA3]
  cases d<;>simp only[peval_pure]<;>simpa using h
theorem peval_size {t:TypeId} {n:Nat} (h:szOf P t=some n):peval P (sizeOf t)=some n:=by
 unfold szOf at h
 cases e:P.info? t with
 |none=>rw[e]at h; cases h
 |some i =>
  rw[e]at h
  simp only[sizeOf,typeInfo,peval_bind,peval_program,zA3,e,peval_pure]
  simpa using h
def fit1 (P:Program) (t:TypeId) (v:Value):Bool :=
 match P.underlying t,v with
 |some .bool,.bool _=>true
 |some (.int k),.int k' _=>k == k'
 |some .string,.string _=>true
 |_,_=>false
def fits (P:Program):List TypeId->List Value->Bool
 |[],[]=>true
 |t::ts,v::vs=>fit1 P t v&&fits P ts vs
 |_,_=>false
def eq1:Value->Value->Bool
 |.bool a,.bool b=>a == b
 |.int _ a,.int _ b=>a == b
 |.string a,.string b=>a == b
 |_,_=>false
def eqL:List Value->List Value->Bool
 |[],[]=>true
 |x::xs,y::ys=>eq1 x y&&eqL xs ys
 |_,_=>false
def flatF (P:Program) (fl:TypeId->Option (List TypeId)):List Field->Nat->Option (List TypeId)
 |[],_=>some []
 |f::fs,o =>
  if f.name ≠ "_" /\ f.offset=o then
   (match fl f.type with
   |some a=>if szOf P f.type=some a.length then (match flatF P fl fs (o+a.length) with
    |some b=>some (a++b)
    |none=>none) else none
   |none=>none)
  else none
def flat (P:Program):Nat->TypeId->Option (List TypeId)
 |0,_=>none
 |d+1,t =>
  match P.underlying t with
  |some .bool=>some [t]
  |some (.int _)=>some [t]
  |some .string=>some [t]
  |some (.struct fs)=>if P.stoodInHeld t then none else flatF P (flat P d) fs.toList 0
  |_=>none
theorem peval_eq1 {d:Nat} {t:TypeId} {x y:Value} (hx:fit1 P t x=true) (hy:fit1 P t y=true):peval P (Op.equalIn (d+1) t x y)=some (eq1 x y):=by
 unfold fit1 at hx hy
 split at hx
 ·rename_i a e
  rw[e]at hy
  cases y<;>simp only[zB7]at hy
  simp only[Op.equalIn,peval_bind,peval_und e,zA3,peval_pure,eq1]
 ·rename_i k k1 a e
  rw[e]at hy
  cases y<;>simp only[zB7]at hy
  simp only[Op.equalIn,peval_bind,peval_und e,zA3,eq1]
  rw[if_pos ((eq_of_beq hx).symm.trans (eq_of_beq hy))]
  rfl
 ·rename_i a e
  rw[e]at hy
  cases y<;>simp only[zB7]at hy
  simp only[Op.equalIn,peval_bind,peval_und e,zA3,peval_pure,eq1]
 ·cases hx
theorem fits_split:∀ {ts us:List TypeId} {vs:List Value},fits P (ts++us) vs=true->fits P ts (vs.take ts.length)=true/\fits P us (vs.drop ts.length)=true/\ts.length<=vs.length
 |[],us,vs,h=>by simpa[fits]using h
 |t::ts,us,[],h=>by simp[fits]at h
 |t::ts,us,v::vs,h=>by
  simp only[List.cons_append,fits,zA4]at h
  have:=fits_split h.2
  simp only[zB0,List.take_succ_cons,List.drop_succ_cons,fits,h.1,this.1,this.2.1,zD6,true_and]
  omega
theorem eqL_split:∀ {n:Nat} {xs ys:List Value},n<=xs.length->n<=ys.length->eqL xs ys=(eqL (xs.take n) (ys.take n)&&eqL (xs.drop n) (ys.drop n))
 |0,xs,ys,_,_=>by simp[eqL]
 |n+1,[],_,h,_=>by simp at h
 |n+1,_::_,[],_,h=>by simp at h
 |n+1,x::xs,y::ys,h1,h2=>by
  simp only[zB0,Nat.add_le_add_iff_right]at h1 h2
  simp only[List.take_succ_cons,List.drop_succ_cons,eqL,eqL_split h1 h2,Bool.and_assoc]
theorem fits_length:∀ {ts:List TypeId} {vs:List Value},fits P ts vs=true->ts.length=vs.length
 |[],[],_=>rfl
 |[],_::_,h=>by simp[fits]at h
 |_::_,[],h=>by simp[fits]at h
 |t::ts,v::vs,h=>by
  simp only[fits,zA4]at h
  simp only[zB0,fits_length h.2]
theorem peval_struct {d:Nat} {t:TypeId} {xs ys:Array Value} {fs:Array Field} (ht:P.underlying t=some (.struct fs)) (hp:P.stoodInHeld t=false) :
  peval P (Op.equalIn (d+1) t (.agg xs) (.agg ys))=peval P (Op.eqFields d xs ys fs.toList):=by
 simp only[Op.equalIn,peval_bind,peval_und ht,zA3,peval_program,hp,zB7,if_false]
 rw[<-Array.forIn_toList]
 generalize fs.toList=l
 clear ht
 induction l with
 |nil=>simp[Op.eqFields,peval_pure]
 |cons f fs ih =>
  simp only[List.forIn_cons,Op.eqFields,peval_bind]
  split
  ·simp only[peval_bind]
   cases peval P (part f.type xs f.offset) with
   |none=>rfl
   |some a =>
    simp only[zA3]
    cases peval P (part f.type ys f.offset) with
    |none=>rfl
    |some b =>
     simp only[zA3]
     cases peval P (Op.equalIn d f.type a b) with
     |none=>rfl
     |some r =>
      cases r
      ·simp[peval_pure]
      ·simp only[zA3,Bool.not_true,zB7,if_false,peval_pure]
       rw[<-ih]
  ·simp only[peval_pure,zA3]
   rw[<-ih]
theorem peval_part {t:TypeId} {sz o:Nat} {b:Bool} {xs:List Value} (ha:aggT P t=some b) (hs:szOf P t=some sz) (h1:b=false->sz=1) (hle:o+sz<=xs.length) :
  peval P (part t ⟨xs⟩ o)=some (if b then .agg ⟨(xs.drop o).take sz⟩ else xs.getD o undef):=by
 cases b with
 |true => 
  simp only[part,peval_bind,peval_agg ha,zA3,if_true,peval_size hs,peval_pure,Option.some.injEq,Value.agg.injEq]
  apply Array.ext'
  simp[List.extract_eq_take_drop]
 |false =>
  have:=h1 rfl
  have hlt:o<xs.length:=by omega
  simp only[part,peval_bind,peval_agg ha,zA3,zB7,if_false]
  simp[zA7 hlt,peval_pure,List.getD_eq_getElem?_getD]
theorem flat_scalar {d:Nat} {t:TypeId} {ts:List TypeId} (h:flat P (d+1) t=some ts) (ha:aggT P t=some false):ts=[t]:=by
 simp only[flat]at h
 unfold aggT at ha
 cases e:P.underlying t with
 |none=>rw[e]at ha; cases ha
 |some td=>rw[e]at h ha; cases td<;>simp_all
theorem flat_und {d:Nat} {t:TypeId} {ts:List TypeId} (h:flat P (d+1) t=some ts):∃ b,aggT P t=some b:=by
 simp only[flat]at h
 unfold aggT
 cases e:P.underlying t with
 |none=>rw[e]at h; cases h
 |some td=>rw[e]at h; cases td<;>simp_all
theorem peval_fields {d:Nat} (ih:∀ t ts xs ys,flat P d t=some ts->aggT P t=some true->fits P ts xs=true->fits P ts ys=true->peval P (Op.equalIn d t (.agg ⟨xs⟩) (.agg ⟨ys⟩))=some (eqL xs ys)) :
  ∀ (fs:List Field) (o:Nat) (ts:List TypeId) (xs ys:List Value),flatF P (flat P d) fs o=some ts->o<=xs.length->o<=ys.length->fits P ts (xs.drop o)=true->fits P ts (ys.drop o)=true->peval P (Op.eqFields d ⟨xs⟩ ⟨ys⟩ fs)=some (eqL (xs.drop o) (ys.drop o))
 |[],o,ts,xs,ys,h,_,_,hx,hy=>by
  simp only[flatF,Option.some.injEq]at h
  subst h
  have h1:=fits_length hx
  have h2:=fits_length hy
  rw[zD4 h1.symm,zD4 h2.symm]
  rfl
 |f::fs,o,ts,xs,ys,h,hox,hoy,hx,hy=>by
  simp only[flatF]at h
  split at h
  ·rename_i hf
   obtain⟨hn,ho⟩:=hf
   cases e1:flat P d f.type with
   |none=>rw[e1]at h; cases h
   |some a =>
    rw[e1]at h
    simp only at h
    split at h
    ·rename_i hsz
     cases e2:flatF P (flat P d) fs (o+a.length) with
     |none=>rw[e2]at h; cases h
     |some b =>
      rw[e2]at h
      simp only[Option.some.injEq]at h
      subst h
      obtain⟨hx1,hx2,hxl⟩:=fits_split hx
      obtain⟨hy1,hy2,hyl⟩:=fits_split hy
      have hsp:=eqL_split hxl hyl
      rw[List.drop_drop]at hx2 hy2
      rw[List.drop_drop,List.drop_drop]at hsp
      rw[zE4]at hxl hyl
      have key:=peval_fields ih fs (o+a.length) b xs ys e2 (by omega) (by omega) hx2 hy2
      cases d with
      |zero=>simp[flat]at e1
      |succ d =>
       obtain⟨bb,hag⟩:=flat_und e1
       have h1:bb=false->a.length=1:=fun hb=>by subst hb; rw[flat_scalar e1 hag]; rfl
       simp only[Op.eqFields,hn,ne_eq,not_false_eq_true,if_true,peval_bind,ho]
       rw[peval_part hag hsz h1 (by omega),peval_part hag hsz h1 (by omega)]
       simp only[zA3]
       have hr:peval P (Op.equalIn (d+1) f.type (if bb then .agg ⟨(xs.drop o).take a.length⟩ else xs.getD o undef) (if bb then .agg ⟨(ys.drop o).take a.length⟩ else ys.getD o undef))=some (eqL ((xs.drop o).take a.length) ((ys.drop o).take a.length)):=by
        cases bb with
        |true=>simp only[if_true]; exact ih f.type a _ _ e1 hag hx1 hy1
        |false =>
         have ha:=flat_scalar e1 hag
         have hl:=h1 rfl
         subst ha
         have hlx:o<xs.length:=by omega
         have hly:o<ys.length:=by omega
         have gx:(xs.drop o).take 1=[xs.getD o undef]:=by rw[List.take_one,List.head?_drop,zA7 hlx,List.getD_eq_getElem?_getD,zA7 hlx]; rfl
         have gy:(ys.drop o).take 1=[ys.getD o undef]:=by rw[List.take_one,List.head?_drop,zA7 hly,List.getD_eq_getElem?_getD,zA7 hly]; rfl
         simp only[List.length_singleton,gx,gy,fits,Bool.and_true]at hx1 hy1 ⊢
         simp only[zB7,if_false,peval_eq1 hx1 hy1,eqL,Bool.and_true]
       rw[hr,zA3,hsp]
       cases eqL ((xs.drop o).take a.length) ((ys.drop o).take a.length) with
       |true=>simp only[Bool.not_true,zB7,if_false,Bool.true_and]; exact key
       |false=>simp only[Bool.not_false,if_true,peval_pure,Bool.false_and]
    ·cases h
  ·cases h
theorem peval_eqS:∀ (d:Nat) (t:TypeId) (ts:List TypeId) (xs ys:List Value),flat P d t=some ts->aggT P t=some true->fits P ts xs=true->fits P ts ys=true->peval P (Op.equalIn d t (.agg ⟨xs⟩) (.agg ⟨ys⟩))=some (eqL xs ys)
 |0,t,ts,xs,ys,h,_,_,_=>by simp[flat]at h
 |d+1,t,ts,xs,ys,h,ha,hx,hy=>by
  simp only[flat]at h
  unfold aggT at ha
  cases e:P.underlying t with
  |none=>rw[e]at ha; cases ha
  |some td =>
   rw[e]at h ha
   cases td<;>simp only[reduceCtorEq,Option.some.injEq,zB7]at ha h
   rename_i fs
   split at h
   ·cases h
   ·rename_i hp
    rw[peval_struct e (by simpa using hp)]
    exact peval_fields (peval_eqS d) fs.toList 0 ts xs ys h (zA9 _) (zA9 _) hx hy
theorem plain_eqS {op:BinOp} {t:TypeId} {ts:List TypeId} {xs ys:List Value} {x y:Operand} {r:Bool} (h:flat P 10000 t=some ts) (ha:aggT P t=some true) (hg:P.eqGuardType P.depth t=false) (hx:fits P ts xs=true) (hy:fits P ts ys=true) (hop:eqOp op (eqL xs ys)=some (.bool r)) :
  aPlain P (do eqGuard op t x y (.agg ⟨xs⟩) (.agg ⟨ys⟩); binOp op t (.agg ⟨xs⟩) (.agg ⟨ys⟩))=some (.value (.bool r)):=by
 have key:=peval_eqS 10000 t ts xs ys h ha hx hy
 cases op<;>simp only[eqOp,Option.some.injEq,Value.bool.injEq,reduceCtorEq]at hop
 all_goals
  subst hop
  simp only[aPlain,peval_bind,eqGuard,peval_program,peval_pure,zA3,hg,Bool.not_false,Bool.not_true,if_true,zB7,if_false,binOp,Op.equal,Op.maxDepth,key,af]
theorem aBin_agg {H:AHeap} {op:BinOp} {t:TypeId} {xs:Array Value} {y:Value}:aBin P H op t (.agg xs) y=none:=by
 cases y<;>rfl
theorem fits_af:∀ {ts:List TypeId} {vs:List Value},fits P ts vs=true->afL vs=true
 |[],[],_=>rfl
 |[],_::_,h=>by simp[fits]at h
 |_::_,[],h=>by simp[fits]at h
 |t::ts,v::vs,h=>by
  simp only[fits,zA4]at h
  have h1:=h.1
  unfold fit1 at h1
  have:af v=true:=by split at h1<;>first|rfl|cases h1
  simp only[afL,this,fits_af h.2,zD6]
variable {ro : Option Nat} {H : AHeap} {N : Nat} {E : Env} {ds : List Deferred}
theorem wd_same {op:Op} {ops:Array Oper} {anc:List Nat} {d:Nat} {ty:TypeId} {pos:String} {after:Array Edge} {rest:List Oper} {i:Nat} {fps:List Fp} {Q:AAct->AHeap->Prop} {v:Value}
  (hn:stepD P ⟨some d,op,ty,pos,after,none⟩ (mkA N E ds) H (anc.getD i 0) i fps=genD P ⟨some d,op,ty,pos,after,none⟩ (mkA N E ds) H (anc.getD i 0) i fps) (hx:∀ G,aop op P (mkA N E ds) G=some (.value v,G)) (hv:idsV v=[]) (hd:d<N)
  (h:wkD P ops anc rest (i+1) (⟨i,[],[],H.next,H.next⟩::fps) (mkA N (upd E d v) ds) H Q):wkD P ops anc (⟨some d,op,ty,pos,after,none⟩::rest) i fps (mkA N E ds) H Q:=by
 have hr:=restrict_next H []
 simp only[wkD,wantA]
 rw[hn]
 refine⟨[],v,H.restrict [],opS_of (hx _) ⟨rfl,rfl⟩,by simp,(by rw[hr.2.2]; simp),fun r _=>fpOk_of ?_,?_⟩
 ·simp only[outIds,hr.2.2,hr.1,Nat.sub_self,rangeFrom,zE2,List.flatMap_nil,hv]
  exact .inr ⟨by simp,by simp,fun _=>⟨by simp,by simp⟩⟩
 ·rw[merge_self,hr.2.2,hr.1]
  simp only[put_some N E ds d _ hd]
  exact h
theorem wd_eqS {op:BinOp} {t u:TypeId} {x y:Operand} {ts:List TypeId} {xs ys:List Value} {r:Bool} {ops:Array Oper} {anc:List Nat} {d:Nat} {ty:TypeId} {pos:String} {after:Array Edge} {rest:List Oper} {i:Nat} {fps:List Fp} {Q:AAct->AHeap->Prop}
  (h:flat P 10000 t=some ts) (ha:aggT P t=some true) (hg:P.eqGuardType P.depth t=false) (hop:eqOp op (eqL xs ys)=some (.bool r)) (hx:opOk P N x=true) (hy:opOk P N y=true) (hd:d<N) (hvx:opv E x=.agg ⟨xs⟩) (hvy:opv E y=.agg ⟨ys⟩) (fx:fits P ts xs=true) (fy:fits P ts ys=true)
  (hk:wkD P ops anc rest (i+1) (⟨i,[],[],H.next,H.next⟩::fps) (mkA N (upd E d (.bool r)) ds) H Q):wkD P ops anc (⟨some d,.binOp op t x y u,ty,pos,after,none⟩::rest) i fps (mkA N E ds) H Q:=by
 refine wd_same ?_ (fun G=>?_) rfl hd hk
 ·funext K
  simp only[stepD,pureOp,binD,aeval_opv hx,aeval_opv hy,hvx,hvy,regBin]
 ·simp only[aop,xBin,aeval_opv hx,aeval_opv hy,hvx,hvy,zA1,zA3,binV,aBin_agg,af,afA,fits_af fx,fits_af fy,zD6,if_true,plain_eqS h ha hg fx fy hop,zA5]
theorem w_eqS {op:BinOp} {t u:TypeId} {x y:Operand} {ts:List TypeId} {xs ys:List Value} {r:Bool} {ops:Array Oper} {d:Nat} {ty:TypeId} {pos:String} {after:Array Edge} {rest:List Oper} {Q:Exit->AAct->AHeap->Prop}
  (h:flat P 10000 t=some ts) (ha:aggT P t=some true) (hg:P.eqGuardType P.depth t=false) (hop:eqOp op (eqL xs ys)=some (.bool r)) (hx:opOk P N x=true) (hy:opOk P N y=true) (hd:d<N) (hvx:opv E x=.agg ⟨xs⟩) (hvy:opv E y=.agg ⟨ys⟩) (fx:fits P ts xs=true) (fy:fits P ts ys=true)
  (hk:wpOps P ro ops rest (mkA N (upd E d (.bool r)) ds) H Q):wpOps P ro ops (⟨some d,.binOp op t x y u,ty,pos,after,none⟩::rest) (mkA N E ds) H Q:=by
 rw[w_rv (x:=some (.bool r)) rfl ?_ hd,valC_some]
 ·exact hk
 ·simp only[aop,xBin,aeval_opv hx,aeval_opv hy,hvx,hvy,zA1,zA3,binV,aBin_agg,af,afA,fits_af fx,fits_af fy,zD6,if_true,plain_eqS h ha hg fx fy hop,zA5]
  rfl
end
section
variable {P : Program} {ro : Option Nat} {H : AHeap}
variable {N : Nat} {E : Env} {ds : List Deferred} {ops : Array Oper} {anc : List Nat} {ty : TypeId} {pos : String} {after : Array Edge} {rest : List Oper} {i : Nat} {fps : List Fp}
end
section
variable {P : Program} {H : AHeap}
theorem app_in {st xt e:TypeId} {sz by1 m off k cap n:Nat} {sp:Option Nat} {z x:Value} {new:List Value} (hu:P.underlying st=some (.slice e)) (hsz:szOf P e=some sz) (hby:bytesOf P e=some by1) (hz:zeroOf P e=some z) (hzl:z.cells.toList.length=sz) (hi:intTy P xt=some false)
  (hx:lenV x=some n) (hf:firstC H sz n x=some new) (hl:new.length=n*sz) (hc:k+n<=cap) (hsm:small (k+n) by1=true) :
  aBuiltin P H .append ⟨[st,xt]⟩ [.slice (some ⟨m,off,sp⟩) k cap,x]=(aWrite H m (off+k*sz) new).map fun g=>(.slice (some ⟨m,off,sp⟩) (k+n) cap,g):=by
 simp only[aBuiltin,aAppend,hu,hsz,hby,hz,hi,zA1,zA3,hx,hf,hl,hzl,hsm,and_self,if_true,aAppend2,hc]
 cases aWrite H m (off+k*sz) new<;>rfl
theorem app_nn {st xt e:TypeId} {sz by1:Nat} {z x:Value} (hu:P.underlying st=some (.slice e)) (hsz:szOf P e=some sz) (hby:bytesOf P e=some by1) (hz:zeroOf P e=some z) (hzl:z.cells.toList.length=sz) (hi:intTy P xt=some false)
  (hx:lenV x=some 0) (hf:firstC H sz 0 x=some []) :
  aBuiltin P H .append ⟨[st,xt]⟩ [.slice none 0 0,x]=some (.slice none 0 0,H):=by
 have hsm:small (0+0) by1=true:=by simp[small]
 simp only[aBuiltin,aAppend,hu,hsz,hby,hz,hi,zA1,zA3,hx,hf,zD7,Nat.zero_mul,hzl,hsm,and_self,if_true,aAppend2,zA8,zC0]
theorem sl_nil {t e:TypeId} {sz l c:Nat} (h:P.underlying t=some (.slice e)) (hs:szOf P e=some sz):aSlice P H t (.slice none l c) none (some (.int .i64 0)) none=some (.slice none 0 c,H):=by
 simp only[aSlice,h,hs,zA1,zA3,aSlice2,bound,Int.le_refl,if_true,Int.toNat_zero,zA9,and_self,Nat.sub_zero]
theorem genV_modO {N:Nat} {E:Env} {ds:List Deferred} {ops:Array Oper} {anc:List Nat} {o:Oper} {W:List Nat} {rest:List Oper} {i:Nat} {fps:List Fp} {Q:AAct->AHeap->Prop} {v:Value} {g:AHeap}
  (F:List Nat) (hok:H.base<=H.next) (hF:∀ n∈F,H.get n≠none) (hlt:∀ n∈F,n<H.next) (hW:∀ n∈W,n∈F)
  (hc:OpS P (mkA N E ds) (H.restrict F) o (.ok v) g) (hmod:Mod W (H.restrict F) g)
  (hm:∀ r∈fps,(anc.getD i 0).testBit r.i=true\/(r.hi<=r.lo/\(∀ n∈r.W,n∉F)/\(∀ n∈r.F,n∉W)))
  (h:∀ H' D,Mod W H H'->(∀ n∈F,H'.get n=g.get n)->(∀ n,H.next<=n->n<g.next->H'.get n=g.get n)->H'.next=g.next->(∀ n∈D,n∈W)->wkD P ops anc rest (i+1) (⟨i,F,D,H.next,g.next⟩::fps) ((mkA N E ds).put o.dst v) H' Q) :
  genV P ops anc o rest i fps (mkA N E ds) H Q:=by
 have hn:=restrict_next H F
 have hd:∀ n∈g.dirty,n∈W:=by
  intro n hg
  rcases hmod.dirty n hg with h|h
  ·rw[hn.2.2]at h; cases h
  ·exact h.1
 have hle:H.next<=g.next:=by have:=hmod.next; rw[hn.1]at this; exact this
 have hgF:∀ n∈F,(H.merge g).get n=g.get n:=by
  intro n hnF
  by_cases hgd:n∈g.dirty
  ·exact merge_pos H g hle (.inl hgd)
  ·rw[merge_neg H g hle]
   ·rw[hmod.keep n (by rw[hn.2.1]; exact hlt n hnF) hgd,restrict_get,if_pos hnF]
   ·rintro (h'|h')
    ·exact hgd h'
    ·have:=hlt n hnF; omega
 have hmf:=merge_facts H g
 refine⟨F,v,g,?_,hF,fun n h'=>hW n (hd n h'),fun r hr=>fpOk_of ?_,?_⟩
 ·exact hc
 ·rcases hm r hr with h'|⟨h1,h2,h3⟩
  ·exact .inl h'
  ·exact .inr ⟨h2,fun n hnr hng=>h3 n hnr (hd n hng),fun hlt'=>absurd hlt' (by omega)⟩
 ·refine h (H.merge g) g.dirty ⟨by rw[hmf.1]; exact hle,hmf.2.1,fun n hnl hnW=>?_,hmf.2.2.1,fun n hnd=>?_,fun n hnb hnd=>?_⟩ hgF (fun n h1 h2=>merge_pos H g hle (.inr ⟨h1,h2⟩)) hmf.1 hd
  ·rw[merge_neg H g hle]
   rintro (h'|h')
   ·exact hnW (hd n h')
   ·omega
  ·rcases merge_dirtW H g n hnd with h'|h'
   ·exact .inl h'
   ·exact .inr ⟨hd n h'.1,h'.2⟩
  ·by_cases hgd:n∈g.dirty
   ·exact absurd (hmf.2.2.2 n hgd hnb) hnd
   ·rw[merge_neg H g hle]
    rintro (h'|h')
    ·exact hgd h'
    ·omega
theorem wd_app {N:Nat} {E:Env} {ds:List Deferred} {ops:Array Oper} {anc:List Nat} {ty:TypeId} {pos:String} {after:Array Edge} {rest:List Oper} {i:Nat} {fps:List Fp} {Q:AAct->AHeap->Prop} {args:List Operand} {ts:Array TypeId} {dst:Option Nat} (ha:args.all (opOk P N)=true):wkD P ops anc (⟨dst,.call ⟨.builtin .append,⟨args⟩,ts⟩,ty,pos,after,none⟩::rest) i fps (mkA N E ds) H Q=genV P ops anc ⟨dst,.call ⟨.builtin .append,⟨args⟩,ts⟩,ty,pos,after,none⟩ rest i fps (mkA N E ds) H Q:=by
 simp only[wkD,wantA,stepD,pureOp,restD,newOp,genV,aevals_opv ha,btD,regBt]
theorem app_op {N:Nat} {E:Env} {ds:List Deferred} {ty:TypeId} {pos:String} {after:Array Edge} {args:List Operand} {ts:Array TypeId} {dst:Option Nat} {v:Value} {G:AHeap} (ha:args.all (opOk P N)=true) (h:aBuiltin P H .append ts (args.map (opv E))=some (v,G)):OpS P (mkA N E ds) H ⟨dst,.call ⟨.builtin .append,⟨args⟩,ts⟩,ty,pos,after,none⟩ (.ok v) G :=
 opS_of (x:=.value v) (g:=G) (by simp only[aop,xCall,aevals_opv ha,zA1,zA3,h,rvh,zA5]) ⟨rfl,rfl⟩
theorem genV_extO {N:Nat} {E:Env} {ds:List Deferred} {ops:Array Oper} {anc:List Nat} {o:Oper} {d:Nat} {rest:List Oper} {i:Nat} {fps:List Fp} {Q:AAct->AHeap->Prop} {v:Value} {M:List Bl} (F:List Nat) (hdst:o.dst=some d) (hd:d<N) (hF:∀ n∈F,H.get n≠none)
  (hc:∀ G:AHeap,G.next=H.next->(∀ n∈F,G.get n=H.get n)->OpS P (mkA N E ds) G o (.ok v) (ext G M)) (hm:∀ r∈fps,Meets (anc.getD i 0) F [] (idsV v++M.flatMap fun x=>idsL x.l) r)
  (h:wkD P ops anc rest (i+1) (⟨i,F,[],H.next,H.next+M.length⟩::fps) (mkA N (upd E d v) ds) (ext H M) Q):genV P ops anc o rest i fps (mkA N E ds) H Q:=by
 have hn:=restrict_next H F
 have hd':(ext (H.restrict F) M).dirty=[]:=by rw[ext_dirty,hn.2.2]
 have hnx:(ext (H.restrict F) M).next=H.next+M.length:=by rw[ext_next,hn.1]
 have hget:∀ j,j<M.length->(ext (H.restrict F) M).get (H.next+j)=M[j]?.map Bl.obj:=by
  intro j hj
  rw[<-hn.1]
  exact ext_get_new hj
 have hmn:∀ (M:List Bl) (K g:AHeap) (m:Nat),K.next=m->(∀ j,j<M.length->g.get (m+j)=M[j]?.map Bl.obj)->∀ h',h'=AHeap.mergeN K g m M.length->(⟨h'.root,m+M.length,h'.base,h'.dirty⟩:AHeap)=ext K M:=by
  intro M
  induction M with
  |nil=>intro K g m hK _ h' hh; subst hK; subst hh; rfl
  |cons x M ih =>
   intro K g m hK hg h' hh
   have h0:=hg 0 (by simp)
   simp only[zD3,zC5,zA5]at h0
   rw[zB0]at hh
   simp only[AHeap.mergeN,h0]at hh
   have:=ih (nw K x.e x.l x.o) g (m+1) (by rw[nw_next,hK]) (fun j hj=>by
    have:=hg (j+1) (by simpa using hj)
    simp only[zD0]at this
    rw[show m+1+j=m+(j+1) by omega]
    exact this) (AHeap.mergeN (nw K x.e x.l x.o) g (m+1) M.length) rfl
   have key:∀ (A B:AHeap) (n k:Nat),A.root=B.root->A.base=B.base->A.dirty=B.dirty->(AHeap.mergeN A g n k).root=(AHeap.mergeN B g n k).root/\(AHeap.mergeN A g n k).base=(AHeap.mergeN B g n k).base/\(AHeap.mergeN A g n k).dirty=(AHeap.mergeN B g n k).dirty:=by
    intro A B n k
    induction k generalizing A B n with
    |zero=>exact fun h1 h2 h3=>⟨h1,h2,h3⟩
    |succ k ihk =>
     intro h1 h2 h3
     simp only[AHeap.mergeN]
     exact ihk _ _ _ (by simp only[AHeap.put_eq,h1]) h2 h3
   have k2:=key (nw K x.e x.l x.o) (K.put m (some x.obj)) (m+1) M.length (by simp only[nw,AHeap.new_eq,AHeap.put_eq,hK,Bl.obj]) rfl rfl
   rw[ext,<-this,hh,k2.1,k2.2.1,k2.2.2,zB0,show m+(M.length+1)=m+1+M.length by omega]
 have hmg:H.merge (ext (H.restrict F) M)=ext H M:=by
  unfold AHeap.merge
  rw[hd',hnx,Nat.add_sub_cancel_left]
  simp only[AHeap.mergeW]
  exact hmn M H _ H.next rfl hget _ rfl
 refine⟨F,v,ext (H.restrict F) M,?_,hF,(by rw[hd']; simp),fun r hr=>fpOk_of ?_,?_⟩
 ·exact hc _ hn.1 (fun n hn'=>by rw[restrict_get,if_pos hn'])
 ·have hids:∀ (k s:Nat),s+k=M.length->(rangeFrom (H.next+s) k).flatMap (idsAt (ext (H.restrict F) M))=(M.drop s).flatMap fun x=>idsL x.l:=by
   intro k
   induction k with
   |zero=>intro s hs; rw[rangeFrom,List.drop_eq_nil_of_le (by omega)]; rfl
   |succ k ih =>
    intro s hs
    have hlt:s<M.length:=by omega
    rw[rangeFrom,zE1,List.drop_eq_getElem_cons hlt,zE1]
    have:=ih (s+1) (by omega)
    rw[show H.next+(s+1)=H.next+s+1 by omega]at this
    rw[this]
    congr 1
    simp only[idsAt,hget s hlt,zA7 hlt,zA5,Bl.obj,idsO,RV.n_ofList,RV.gets_ofList]
  have:=hids M.length 0 (by omega)
  simp only[zD3,zC7]at this
  rw[hd']
  simp only[outIds,hd',hnx,Nat.add_sub_cancel_left,zD5,this]
  exact hm r hr
 ·rw[hmg,hd',hnx]
  simp only[hdst,put_some N E ds d v hd]
  exact h
theorem putL_at:∀ (pre old new:List Value),new.length<=old.length->putL (pre++old) pre.length new=pre++(new++old.drop new.length)
 |[],old,new,h=>by
  simp only[zD5,zD7]
  induction new generalizing old with
  |nil=>cases old<;>rfl
  |cons y ys ih =>
   cases old with
   |nil=>simp at h
   |cons x xs =>
    simp only[zB0,Nat.add_le_add_iff_right]at h
    simp only[putL,ih xs h,zB0,List.drop_succ_cons,List.cons_append]
 |p::pre,old,new,h=>by
  simp only[List.cons_append,zB0,putL,putL_at pre old new h]
end
section
variable {P : Program} {ro : Option Nat} {H : AHeap} {N : Nat} {E : Env} {ds : List Deferred}
variable {ops : Array Oper} {anc : List Nat} {d : Nat} {ty : TypeId} {pos : String} {after : Array Edge} {rest : List Oper} {i : Nat} {fps : List Fp} {Q : AAct -> AHeap -> Prop}
theorem wd_not {x:Operand} {t:TypeId} (hx:opOk P N x=true) (hd:d<N) (h:(notV (opv E x)).isSome=true):wkD P ops anc (⟨some d,.unOp .not t x,ty,pos,after,none⟩::rest) i fps (mkA N E ds) H Q=valD P ops anc rest i fps N E ds d H Q (notV (opv E x)) :=
 wd_rv rfl (by
  simp only[aop,xUn,aeval_opv hx,zA1,zA3]
  cases hv:opv E x with
  |bool b=>rfl
  |_=>rw[hv]at h; cases h) hd
theorem guardC_un {N:Nat} {E:Env} {ds:List Deferred} {ro:Option Nat} {ops:Array Oper} {o:Oper} {rest:List Oper} {Q:Exit->AAct->AHeap->Prop} {want:Bool}:guardC P ro ops o rest N E ds H Q want undef=wpOps P ro ops rest ((mkA N E ds).put o.dst undef) H Q:=by simp only[guardC,undef]
end
def Ren.same:Ren:=⟨fun n=>n,fun _=>0,fun _=>0,fun _=>.nilIface,fun _=>rfl⟩
theorem rel_none (P:Program) (w:World):Rel P Ren.same (AHeap.none P.globals.size) w :=
 ⟨zA8 _,⟨zA8 _,fun _ _=>⟨rfl,rfl⟩⟩,fun m _ h=>absurd (none_get _ m) h,fun n o h=>(by rw[none_get]at h; cases h),fun n o h=>(by rw[none_get]at h; cases h)⟩
theorem wide_wide:WideF Fence.wide:=⟨fun _=>trivial,rfl,rfl⟩
theorem call_in {P:Program} (hmix:P.follows .mixedOrders=true) {K:FuncId->List Value->AHeap->Option Value} (hK:Known P K) {fuel:Nat} {f:FuncId} {args:List Value} {v:Value} {H H1:AHeap} {ρ:Ren} {w:World} (r:Rel P ρ H w)
  (h:call P K fuel f args H=some (.ok v,H1)) (hsc:scbL H.next args=true) {F:Fence} {n:Nat} (hF:WideF F):CallsIn F n P f (args.map ρ.val).toArray w (fun e w'=>∃ ρ1,e=.returned (ρ1.val v)/\St P ρ H w ρ1 H1 w') :=
 enterF_run (exec_sound hmix hK fuel).1 r h hsc hF (fun ρ1 w1 s _=>⟨ρ1,rfl,s⟩)
theorem sameV_eq {u v:Value} (h:sameV u v=true):u=v/\af v=true:=by
 unfold sameV at h
 split at h
 ·simp only[zA4,decide_eq_true_eq]at h
  obtain⟨rfl,rfl⟩:=h
  exact⟨rfl,rfl⟩
 ·simp only[beq_iff_eq]at h
  subst h
  exact⟨rfl,rfl⟩
 ·cases h
theorem sameL_eq:∀ {u v:List Value},sameL u v=true->u=v/\∀ x∈v,af x=true
 |[],[],_=>⟨rfl,fun _ h=>by cases h⟩
 |a::r,b::q,h=>by
  simp only[sameL,zA4]at h
  obtain⟨h1,h2⟩:=sameV_eq h.1
  obtain⟨h3,h4⟩:=sameL_eq h.2
  refine⟨by rw[h1,h3],fun x hx=>?_⟩
  rcases zB1.1 hx with rfl|hx
  ·exact h2
  ·exact h4 x hx
 |[],_::_,h=>by cases h
 |_::_,[],h=>by cases h
theorem afL_of:∀ {l:List Value},(∀ x∈l,af x=true)->afL l=true
 |[],_=>rfl
 |x::l,h=>by rw[afL,h x (zB9 ..),afL_of fun y hy=>h y (zB5 _ hy)]; rfl
theorem sameW_eq {u v:Value} (h:sameW u v=true):u=v/\af v=true:=by
 unfold sameW at h
 split at h
 ·rename_i a b
  obtain⟨h1,h2⟩:=sameL_eq h
  obtain⟨a⟩:=a
  obtain⟨b⟩:=b
  simp only at h1 h2
  subst h1
  exact⟨rfl,by rw[af,afA]; exact afL_of h2⟩
 ·rename_i a b
  obtain⟨h1,h2⟩:=sameL_eq h
  obtain⟨a⟩:=a
  obtain⟨b⟩:=b
  simp only at h1 h2
  subst h1
  exact⟨rfl,by rw[af,afA]; exact afL_of h2⟩
 ·exact sameV_eq h
theorem sameM_eq:∀ {u v:List Value},sameM u v=true->u=v/\∀ x∈v,af x=true
 |[],[],_=>⟨rfl,fun _ h=>by cases h⟩
 |a::r,b::q,h=>by
  simp only[sameM,zA4]at h
  obtain⟨h1,h2⟩:=sameW_eq h.1
  obtain⟨h3,h4⟩:=sameM_eq h.2
  refine⟨by rw[h1,h3],fun x hx=>?_⟩
  rcases zB1.1 hx with rfl|hx
  ·exact h2
  ·exact h4 x hx
 |[],_::_,h=>by cases h
 |_::_,[],h=>by cases h
theorem ans_in {P:Program} (hmix:P.follows .mixedOrders=true) {K:FuncId->List Value->AHeap->Option Value} (hK:Known P K) {fuel:Nat} {f:FuncId} {args:List Value} {v:Value} (ha:args.all af=true) (h:ansB P K fuel f args v=true) (F:Fence) (n:Nat) (w:World) (hF:WideF F) :
  CallsIn F n P f args.toArray w (fun e w'=>e=.returned v/\RowKit.Below w.heap.size w w'):=by
 unfold ansB at h
 split at h
 ·rename_i u H1 hc
  obtain⟨rfl,hv⟩:=sameW_eq h
  have:=call_in hmix hK (rel_none P w) hc (scbL_of_af _ (afL_of fun x hx=>zC4.1 ha x hx)) (F:=F) (n:=n) hF
  rw[map_af _ args (fun x hx=>zC4.1 ha x hx)]at this
  refine this.mono ?_
  rintro e w' ⟨ρ1,rfl,s⟩
  exact⟨by rw[val_af ρ1 _ hv],s.os,s.tape,s.output,s.size,fun b hb=>s.old b hb fun n _ _ hg=>absurd (none_get _ n) hg⟩
 ·cases h
theorem known_nil (P:Program):Known P (lookK []):=fun f args v H h=>by cases h
theorem known_cons {P:Program} (hmix:P.follows .mixedOrders=true) {L:List (FuncId × List Value × Value)} (hK:Known P (lookK L)) (fuel:Nat) {f:FuncId} {args:List Value} {v:Value} (ha:args.all af=true) (h:ansB P (lookK L) fuel f args v=true) :
  Known P (lookK ((f,args,v)::L)):=by
 intro g bs u H hu
 unfold lookK at hu
 split at hu
 ·rename_i hc
  simp only[zA4]at hc
  have h1:f=g:=zD9 hc.1
  obtain⟨h2,_⟩:=sameM_eq hc.2
  subst h1 h2
  simp only[Option.some.injEq]at hu
  subst hu
  have hv:af v=true:=by
   unfold ansB at h
   split at h
   ·exact (sameW_eq h).2
   ·cases h
  exact⟨hv,fun ρ F n w _ _ hF=>by
   rw[map_af ρ _ (fun x hx=>zC4.1 ha x hx)]
   exact ans_in hmix hK ha h F n w hF⟩
 ·exact hK g bs u H hu
open Go.ChangeShapes
section
variable {P : Program} {K : Type} {enc : TypeId × Value -> K} {w : World} {base : Nat} {spare : Nat -> Bool} {held : Bool}
theorem mapM_each {α β:Type} {g:α->Option β}:∀ {l:List α} {r:List β},l.mapM g=some r->∀ x∈l,∃ y,g x=some y
 |[],_,_,x,hx=>by cases hx
 |a::l,r,h,x,hx=>by
  rw[List.mapM_cons]at h
  cases hg:g a with
  |none=>rw[hg]at h; cases h
  |some y =>
   rw[hg]at h
   cases hl:l.mapM g with
   |none=>simp[hl]at h
   |some r' =>
    rcases zB1.1 hx with rfl|hx
    ·exact⟨y,hg⟩
    ·exact mapM_each hl x hx
theorem fits_append:∀ {ts us:List TypeId} {a b:List Value},fits P ts a=true->fits P us b=true->fits P (ts++us) (a++b)=true
 |[],us,[],b,_,h=>h
 |[],_,_::_,_,h,_=>by simp[fits]at h
 |_::_,_,[],_,h,_=>by simp[fits]at h
 |t::ts,us,v::a,b,h,h2=>by
  simp only[fits,zA4]at h
  simp only[List.cons_append,fits,h.1,fits_append h.2 h2,zD6]
theorem trod_fieldsF {fuel d:Nat} {cs:List Value} (ih:∀ (t:TypeId) (ts:List TypeId) (cs:List Value) (x:DataW K × List MemPlace),flat P d t=some ts->szOf P t=some ts.length->DataW.trod enc P w base spare held fuel t cs=some x->fits P ts cs=true) :
  ∀ (fs:List Field) (o:Nat) (ts:List TypeId),flatF P (flat P d) fs o=some ts->(∀ f∈fs,∃ y,DataW.trod enc P w base spare held fuel f.type ((cs.drop f.offset).take (P.cellsOf f.type))=some y)->o+ts.length<=cs.length->fits P ts ((cs.drop o).take ts.length)=true
 |[],o,ts,h,_,_=>by
  simp only[flatF,Option.some.injEq]at h
  subst h
  rfl
 |f::fs,o,ts,h,hy,hle=>by
  simp only[flatF]at h
  split at h
  ·rename_i hf
   obtain⟨_,ho⟩:=hf
   cases e1:flat P d f.type with
   |none=>rw[e1]at h; cases h
   |some a =>
    rw[e1]at h
    simp only at h
    split at h
    ·rename_i hsz
     cases e2:flatF P (flat P d) fs (o+a.length) with
     |none=>rw[e2]at h; cases h
     |some b =>
      rw[e2]at h
      simp only[Option.some.injEq]at h
      subst h
      rw[zC8]at hle
      obtain⟨y,hy0⟩:=hy f (by simp)
      rw[ho,cellsOf_szOf hsz]at hy0
      have h1:=ih f.type a _ y e1 hsz hy0
      have h2:=trod_fieldsF ih fs (o+a.length) b e2 (fun g hg=>hy g (by simp[hg])) (by omega)
      have:(cs.drop o).take (a++b).length=(cs.drop o).take a.length++(cs.drop (o+a.length)).take b.length:=by
       rw[zC8,List.take_add,List.drop_drop]
      rw[this]
      exact fits_append h1 h2
    ·cases h
  ·cases h
theorem trod_fits:∀ (fuel d:Nat) (t:TypeId) (ts:List TypeId) (cs:List Value) (x:DataW K × List MemPlace),flat P d t=some ts->szOf P t=some ts.length->DataW.trod enc P w base spare held fuel t cs=some x->fits P ts cs=true
 |0,_,_,_,_,_,_,_,h=>by simp[DataW.trod]at h
 |_+1,0,_,_,_,_,h,_,_=>by simp[flat]at h
 |fuel+1,d+1,t,ts,cs,x,hf,hs,h=>by
  simp only[flat]at hf
  unfold DataW.trod at h
  cases e:P.underlying t with
  |none=>rw[e]at hf; cases hf
  |some td =>
   rw[e]at hf h
   cases td with
   |bool =>
    simp only[Option.some.injEq]at hf
    subst hf
    split at h<;>first|cases h|skip
    all_goals first|(rename_i hh; cases hh; done)|skip
    all_goals simp_all [fits,fit1]
   |int k =>
    simp only[Option.some.injEq]at hf
    subst hf
    split at h<;>simp_all [fits,fit1]
   |string =>
    simp only[Option.some.injEq]at hf
    subst hf
    split at h<;>simp_all [fits,fit1]
   |struct fs =>
    simp only at hf
    split at hf
    ·cases hf
    ·simp only at h
     split at h
     ·rename_i hlen
      rw[cellsOf_szOf hs]at hlen
      cases hm:fs.toList.mapM fun f=>DataW.trod enc P w base spare held fuel f.type ((cs.drop f.offset).take (P.cellsOf f.type)) with
      |none=>rw[hm]at h; cases h
      |some xs =>
       have:=trod_fieldsF (cs:=cs) (fun t ts cs x=>trod_fits fuel d t ts cs x) fs.toList 0 ts hf (mapM_each hm) (by omega)
       rw[zC7,List.take_of_length_le (by omega)]at this
       exact this
     ·cases h
   |_=>simp at hf
theorem trod_slice {fuel:Nat} {t e:TypeId} {ts:List TypeId} {D:Nat} (ht:P.underlying t=some (.slice e)) (hsz:szOf P e=some ts.length) (hfl:flat P D e=some ts) {b off len cap:Nat} {x:DataW K × List MemPlace}
  (h:DataW.trod enc P w 0 spare held fuel t [.slice (some ⟨b,off,none⟩) len cap]=some x) (hnf:w.noneFrozen x.2) :
  len<=cap/\(len*ts.length=0\/∃ (c:Array Value) (e':TypeId) (fz:Nat × Nat) (vs:List Value),w.heap[b]?=some (.cells c e' fz)/\vs.length=len*ts.length/\(∀ i,i<vs.length->c[off+i]?=some (vs.getD i undef)) /\
   (∀ i,i<len->fits P ts ((vs.drop (i*ts.length)).take ts.length)=true)/\∀ i,off<=i->i<off+len*ts.length->¬(fz.1<=i/\i<fz.2)):=by
 cases fuel with
 |zero=>simp[DataW.trod]at h
 |succ fuel =>
  unfold DataW.trod at h
  rw[ht]at h
  simp only[cellsOf_szOf hsz]at h
  split at h
  ·rename_i hc
   refine⟨hc.2.1,?_⟩
   by_cases h0:len*ts.length=0
   ·exact .inl h0
   right
   cases hm:(List.range len).mapM fun i=>(w.cells? 0 ((⟨b,off,none⟩:Addr).add (i*ts.length)) ts.length).bind (DataW.trod enc P w 0 spare held fuel e) with
   |none=>rw[hm]at h; cases h
   |some elems =>
    rw[hm,zA3]at h
    have hel:elems.length=len:=by have:=mapM_len hm; simpa using this
    have each:∀ i,i<len->∃ cs y,w.cells? 0 ((⟨b,off,none⟩:Addr).add (i*ts.length)) ts.length=some cs/\DataW.trod enc P w 0 spare held fuel e cs=some y:=fun i hi=>by
     obtain⟨y,hy⟩:=mapM_each hm i (by simpa using hi)
     cases hcs:w.cells? 0 ((⟨b,off,none⟩:Addr).add (i*ts.length)) ts.length with
     |none=>rw[hcs]at hy; cases hy
     |some cs=>rw[hcs]at hy; exact⟨cs,y,rfl,hy⟩
    have cell:∀ i,i<len*ts.length->∃ v,w.cell? ⟨b,off+i,none⟩=some v:=fun i hi=>by
     have hp:0<ts.length:=Nat.pos_of_ne_zero fun h=>h0 (by rw[h,Nat.mul_zero])
     have hq:i / ts.length<len:=(Nat.div_lt_iff_lt_mul hp).2 hi
     obtain⟨cs,y,hcs,_⟩:=each _ hq
     unfold World.cells? at hcs
     rw[if_pos (zA9 _)]at hcs
     obtain⟨v,hv⟩:=mapM_each hcs (i % ts.length) (by simpa using Nat.mod_lt _ hp)
     rw[addr_add,addr_add]at hv
     have:off+i / ts.length*ts.length+i % ts.length=off+i:=by rw[Nat.add_assoc,Nat.mul_comm,Nat.div_add_mod]
     rw[this]at hv
     exact⟨v,hv⟩
    obtain⟨v0,hv0⟩:=cell 0 (by omega)
    unfold World.cell? at hv0
    cases hb:w.heap[b]? with
    |none=>simp[hb]at hv0
    |some o =>
     cases o with
     |cells c e' fz =>
      have cell':∀ i,i<len*ts.length->∃ v,c[off+i]?=some v:=fun i hi=>by
       obtain⟨v,hv⟩:=cell i hi
       simp only[World.cell?,hb]at hv
       exact⟨v,by simpa using hv⟩
      obtain⟨vs,hvs⟩:∃ vs:List Value,vs=(List.range (len*ts.length)).map fun i=>(c[off+i]?).getD undef:=⟨_,rfl⟩
      have hvl:vs.length=len*ts.length:=by simp[hvs]
      have hvg:∀ i,i<vs.length->c[off+i]?=some (vs.getD i undef):=fun i hi=>by
       rw[hvl]at hi
       obtain⟨v,hv⟩:=cell' i hi
       simp[hvs,hi,hv,List.getD_eq_getElem?_getD]
      refine⟨c,e',fz,vs,rfl,hvl,hvg,fun i hi=>?_,fun i h1 h2=>?_⟩
      ·obtain⟨cs,y,hcs,hy⟩:=each i hi
       have hcs':(vs.drop (i*ts.length)).take ts.length=cs:=by
        unfold World.cells? at hcs
        rw[if_pos (zA9 _)]at hcs
        have hin:i*ts.length+ts.length<=len*ts.length:=by rw[<-Nat.succ_mul]; exact Nat.mul_le_mul_right _ hi
        have hr:=mapM_range_of (f:=fun j=>w.cell? (((⟨b,off,none⟩:Addr).add (i*ts.length)).add j)) (g:=fun j=>vs.getD (i*ts.length+j) undef) ts.length (fun j hj=>by
         have h3:=hvg (i*ts.length+j) (by rw[hvl]; omega)
         rw[addr_add,addr_add,Nat.add_assoc]
         simp[World.cell?,hb,h3])
        rw[hr]at hcs
        cases hcs
        apply List.ext_getElem?
        intro j
        by_cases hj:j<ts.length
        ·rw[List.getElem?_take,if_pos hj,List.getElem?_drop,List.getElem?_map,List.getElem?_range hj,zA7 (by rw[hvl]; omega)]
         simp only[zA5,List.getD_eq_getElem?_getD]
         rw[zA7 (by rw[hvl]; omega)]
         rfl
        ·rw[zC6 (by simp; omega),zC6 (by simp; omega)]
       rw[hcs']
       exact trod_fits fuel D e ts cs y hfl hsz hy
      ·have hmem:MemPlace.cell b i∈x.2:=by
        cases hrest:(if spare b then (List.range (cap-len)).mapM fun j=>(w.cells? 0 ((⟨b,off,none⟩:Addr).add ((len+j)*ts.length)) ts.length).bind (DataW.trod enc P w 0 spare held fuel e) else some []) with
        |none=>rw[hrest]at h; cases h
        |some rest =>
         rw[hrest]at h
         simp only[zA5,Option.some.injEq]at h
         subst h
         simp only[zC9]
         left
         unfold MemPlace.row
         rw[zE0]
         refine⟨i-off,?_,by simp only[MemPlace.cell.injEq,true_and]; omega⟩
         rw[List.mem_range,hel,Nat.add_mul]
         omega
       have:=hnf b i hmem
       intro hh
       simp only[World.frozen?,hb]at this
       simp[hh.1,hh.2]at this
     |_=>simp[hb]at hv0
  ·cases h
theorem rel_calls {f:FuncId} {args:List Value} {H:AHeap} {ρ:Ren} (r:Rel P ρ H w) (hsc:scbL H.next args=true) (hbase:H.base=H.next) (hd:H.dirty=[]) (h:CallA P f args H fun out H1=>out=.ok (.bool true)/\Mod [] H H1) :
  Calls P f (args.map ρ.val).toArray w (fun e w'=>e=.returned (.bool true)/\RowKit.Below w.heap.size w w'):=by
 obtain⟨_,H1,hc,rfl,m⟩:=h
 refine (callsIn_wide (n:=0)).1 (hc ρ w r hsc Fence.wide 0 _ wide_wide ?_)
 intro ρ1 w1 s _
 refine⟨by rw[Ren.val],s.os,s.tape,s.output,s.size,fun b hb=>s.old b hb fun n hn hor _=>?_⟩
 rcases hor with h|h
 ·omega
 ·rcases m.dirty n h with h|h
  ·rw[hd]at h; cases h
  ·exact absurd h.1 (by simp)
end
section
variable {P : Program} {K : Type} {enc : TypeId × Value -> K} {w : World} {base : Nat} {spare : Nat -> Bool} {held : Bool}
mutual
def dc:DataW K->List Value
 |.lit (.int k z)=>[.int k z]
 |.lit (.bool b)=>[.bool b]
 |.agg l=>dcL l
 |_=>[]
def dcL:List (DataW K)->List Value
 |[]=>[]
 |d::r=>dc d++dcL r
end
mutual
def dok:DataW K->Bool
 |.lit (.int _ _)=>true
 |.lit (.bool _)=>true
 |.agg l=>dokL l
 |_=>false
def dokL:List (DataW K)->Bool
 |[]=>true
 |d::r=>dok d&&dokL r
end
theorem mapM_cons_some {α β:Type} {g:α->Option β} {a:α} {l:List α} {r:List β} (h:(a::l).mapM g=some r):∃ y ys,g a=some y/\l.mapM g=some ys/\r=y::ys:=by
 rw[List.mapM_cons]at h
 cases hg:g a with
 |none=>rw[hg]at h; cases h
 |some y =>
  rw[hg]at h
  cases hl:l.mapM g with
  |none=>simp[hl]at h
  |some ys=>simp[hl]at h; exact⟨y,ys,rfl,rfl,h.symm⟩
theorem trod_fieldsD {fuel d:Nat} {cs:List Value} (ih:∀ (t:TypeId) (ts:List TypeId) (cs:List Value) (x:DataW K × List MemPlace),flat P d t=some ts->szOf P t=some ts.length->DataW.trod enc P w base spare held fuel t cs=some x->dok x.1=true->cs=dc x.1) :
  ∀ (fs:List Field) (o:Nat) (ts:List TypeId) (xs:List (DataW K × List MemPlace)),flatF P (flat P d) fs o=some ts->(fs.mapM fun f=>DataW.trod enc P w base spare held fuel f.type ((cs.drop f.offset).take (P.cellsOf f.type)))=some xs->dokL (xs.map (·.1))=true->o+ts.length<=cs.length->(cs.drop o).take ts.length=dcL (xs.map (·.1))
 |[],o,ts,xs,h,hm,_,_=>by
  simp only[flatF,Option.some.injEq]at h
  subst h
  simp at hm
  subst hm
  simp[dcL]
 |f::fs,o,ts,xs,h,hm,hk,hle=>by
  simp only[flatF]at h
  split at h
  ·rename_i hf
   obtain⟨_,ho⟩:=hf
   cases e1:flat P d f.type with
   |none=>rw[e1]at h; cases h
   |some a =>
    rw[e1]at h
    simp only at h
    split at h
    ·rename_i hsz
     cases e2:flatF P (flat P d) fs (o+a.length) with
     |none=>rw[e2]at h; cases h
     |some b =>
      rw[e2]at h
      simp only[Option.some.injEq]at h
      subst h
      rw[zC8]at hle
      obtain⟨y,ys,hy,hys,rfl⟩:=mapM_cons_some hm
      simp only[zB3,dokL,zA4]at hk
      rw[ho,cellsOf_szOf hsz]at hy
      have h1:=ih f.type a _ y e1 hsz hy hk.1
      have h2:=trod_fieldsD ih fs (o+a.length) b ys e2 hys hk.2 (by omega)
      have:(cs.drop o).take (a++b).length=(cs.drop o).take a.length++(cs.drop (o+a.length)).take b.length:=by
       rw[zC8,List.take_add,List.drop_drop]
      rw[this,h1,h2]
      simp only[zB3,dcL]
    ·cases h
  ·cases h
theorem trod_dc:∀ (fuel d:Nat) (t:TypeId) (ts:List TypeId) (cs:List Value) (x:DataW K × List MemPlace),flat P d t=some ts->szOf P t=some ts.length->DataW.trod enc P w base spare held fuel t cs=some x->dok x.1=true->cs=dc x.1
 |0,_,_,_,_,_,_,_,h,_=>by simp[DataW.trod]at h
 |_+1,0,_,_,_,_,h,_,_,_=>by simp[flat]at h
 |fuel+1,d+1,t,ts,cs,x,hf,hs,h,hk=>by
  simp only[flat]at hf
  unfold DataW.trod at h
  cases e:P.underlying t with
  |none=>rw[e]at hf; cases hf
  |some td =>
   rw[e]at hf h
   cases td with
   |bool =>
    simp only at h
    split at h<;>first|(simp only[Option.some.injEq]at h; subst h; rfl)|cases h|skip
    all_goals (rename_i hh; cases hh)
   |int k =>
    simp only at h
    split at h<;>first|(simp only[Option.some.injEq]at h; subst h; simp_all []; done)|cases h|skip
    all_goals simp_all []
    all_goals (obtain⟨h1,rfl⟩:=h; simp[dc])
   |string =>
    simp only at h
    split at h<;>first|(simp only[Option.some.injEq]at h; subst h; simp[dok]at hk; done)|cases h|skip
    all_goals simp_all
    all_goals (obtain⟨_,rfl⟩:=h; simp[dok]at hk)
   |struct fs =>
    simp only at hf
    split at hf
    ·cases hf
    ·simp only at h
     split at h
     ·rename_i hlen
      rw[cellsOf_szOf hs]at hlen
      cases hm:fs.toList.mapM fun f=>DataW.trod enc P w base spare held fuel f.type ((cs.drop f.offset).take (P.cellsOf f.type)) with
      |none=>rw[hm]at h; cases h
      |some xs =>
       rw[hm]at h
       simp only[zA5,Option.some.injEq]at h
       subst h
       simp only[dok]at hk
       have:=trod_fieldsD (cs:=cs) (fun t ts cs x=>trod_dc fuel d t ts cs x) fs.toList 0 ts xs hf hm hk (by omega)
       rw[zC7,List.take_of_length_le (by omega)]at this
       rw[this,dc]
     ·cases h
   |_=>simp at hf
theorem cut_flat {α:Type} {m:Nat}:∀ (n:Nat) (cs:List α),cs.length=n*m->cs=((List.range n).map fun i=>(cs.drop (i*m)).take m).flatten
 |0,cs,h=>by
  have:cs=[]:=zD4 (by simpa using h)
  subst this
  rfl
 |n+1,cs,h=>by
  have h1:(cs.drop m).length=n*m:=by rw[zE4,h,Nat.succ_mul]; omega
  have h2:=cut_flat n (cs.drop m) h1
  rw[List.range_succ_eq_map,zB3,List.flatten_cons,List.map_map,Nat.zero_mul,zC7]
  have:((List.range n).map ((fun i=>(cs.drop (i*m)).take m) ∘ Nat.succ))=(List.range n).map fun i=>((cs.drop m).drop (i*m)).take m:=by
   apply zD8
   intro i _
   simp only[Function.comp,List.drop_drop,Nat.succ_mul]
   rw[Nat.add_comm]
  rw[this,<-h2,List.take_append_drop]
theorem dcL_flat:∀ (ds:List (DataW K)),dcL ds=(ds.map dc).flatten
 |[]=>rfl
 |d::r=>by simp only[dcL,zB3,List.flatten_cons,dcL_flat r]
theorem dokL_all:∀ {ds:List (DataW K)},dokL ds=true->∀ d∈ds,dok d=true
 |[],_,_,h=>by cases h
 |d::r,h,x,hx=>by
  simp only[dokL,zA4]at h
  rcases zB1.1 hx with rfl|hx
  ·exact h.1
  ·exact dokL_all h.2 x hx
theorem mapM_map {α β γ:Type} {f:α->Option β} {g:α->γ} {h:β->γ}:∀ {l:List α} {r:List β},l.mapM f=some r->(∀ a∈l,∀ b∈r,f a=some b->g a=h b)->l.map g=r.map h
 |[],r,hm,_=>by simp at hm; subst hm; rfl
 |a::l,r,hm,hg=>by
  obtain⟨y,ys,h1,h2,rfl⟩:=mapM_cons_some hm
  rw[zB3,zB3,hg a (by simp) y (by simp) h1,mapM_map h2 fun a ha b hb=>hg a (by simp[ha]) b (by simp[hb])]
theorem trod_arr {fuel:Nat} {t e:TypeId} {ts:List TypeId} {D n:Nat} {cs:List Value} {x:DataW K × List MemPlace} (hu:P.underlying t=some (.array n e)) (hsz:szOf P e=some ts.length) (hfl:flat P D e=some ts) (hst:szOf P t=some (n*ts.length))
  (h:DataW.trod enc P w base spare held fuel t cs=some x) (hk:dok x.1=true):cs=dc x.1:=by
 cases fuel with
 |zero=>simp[DataW.trod]at h
 |succ fuel =>
  unfold DataW.trod at h
  rw[hu]at h
  simp only[cellsOf_szOf hsz,cellsOf_szOf hst]at h
  split at h
  ·rename_i hl
   cases hm:(List.range n).mapM fun i=>DataW.trod enc P w base spare held fuel e ((cs.drop (i*ts.length)).take ts.length) with
   |none=>rw[hm]at h; cases h
   |some xs =>
    rw[hm]at h
    simp only[zA5,Option.some.injEq]at h
    subst h
    simp only[dok]at hk
    rw[dc,dcL_flat,List.map_map]
    refine (cut_flat n cs hl).trans (congrArg List.flatten (mapM_map hm fun i _ y hy hf=>?_))
    exact trod_dc fuel D e ts _ y hfl hsz hf (dokL_all hk _ (List.mem_map_of_mem hy))
  ·cases h
theorem laid_at:∀ {laid:List (String × DataW Unit)} {ps:List MemPlace},DataW.LaidVars P w laid ps->∀ {x:String × DataW Unit},x∈laid->∃ g t cs fuel p,P.globalNamed x.1=some g/\(P.globals[g]?).map (·.type)=some t/\w.var? P x.1=some cs/\DataW.trod (fun _=>()) P w 0 (fun _=>true) false fuel t cs.toList=some (x.2,p)/\∀ y∈MemPlace.row ⟨g,0,none⟩ cs.size,y∈ps
 |[],_,_,_,hx=>by cases hx
 |(n,d)::r,ps,h,x,hx=>by
  obtain⟨g,t,cs,fuel,p,q,h1,h2,h3,h4,h5,rfl⟩:=h
  rcases zB1.1 hx with rfl|hx
  ·exact⟨g,t,cs,fuel,p,h1,h2,h3,h4,fun y hy=>by simp[hy]⟩
  ·obtain⟨g,t,cs,fuel,p,k1,k2,k3,k4,k5⟩:=laid_at h5 hx
   exact⟨g,t,cs,fuel,p,k1,k2,k3,k4,fun y hy=>by simp[k5 y hy]⟩
theorem laid_tab {laid:List (String × DataW Unit)} (h:laidMet P laid w) {name:String} {d:DataW Unit} (hx:(name,d)∈laid) {g:Nat} {t e:TypeId} {ts:List TypeId} {D n:Nat} (hg:P.globalNamed name=some g) (ht:(P.globals[g]?).map (·.type)=some t)
  (hu:P.underlying t=some (.array n e)) (hsz:szOf P e=some ts.length) (hfl:flat P D e=some ts) (hst:szOf P t=some (n*ts.length)) (hk:dok d=true) (hpos:0<(dc d).length) :
  ∃ (c:Array Value) (ty:TypeId),w.heap[g]?=some (.cells c ty (0,0))/\c.toList=dc d:=by
 obtain⟨ps,hl,_,hz⟩:=h
 obtain⟨g',t',cs,fuel,p,h1,h2,h3,h4,h5⟩:=laid_at hl hx
 obtain rfl:=Option.some.inj (hg.symm.trans h1)
 obtain rfl:=Option.some.inj (ht.symm.trans h2)
 have hcs:=trod_arr hu hsz hfl hst h4 hk
 have hpos':0<cs.size:=by rw[<-hcs]at hpos; simpa using hpos
 obtain⟨⟨c,ty,hb⟩,_⟩:=hz g 0 (h5 _ (by unfold MemPlace.row; rw[zE0]; exact⟨0,by simpa using hpos',rfl⟩))
 refine⟨c,ty,hb,?_⟩
 have:w.var? P name=some c:=by simp only[World.var?,hg,zA3,hb]
 obtain rfl:=Option.some.inj (this.symm.trans h3)
 exact hcs
def tabO (e:TypeId) (vs:List Value):AObj:=⟨.cells #[] e,false,RV.ofList vs⟩
theorem rel_tab {ρ:Ren} {H:AHeap} {g:Nat} {e:TypeId} {c:Array Value} {vs:List Value} (r:Rel P ρ H w) (hg:g<P.globals.size) (hex:ρ.ex g=0) (hinj:∀ n,H.get n≠none->ρ.blk n=g->n=g)
  (hb:w.heap[g]?=some (.cells c e (0,0))) (hc:c.toList=vs) (ha:afL vs=true):Rel P ρ (H.put g (some (tabO e vs))) w:=by
 obtain⟨hbk,hsh⟩:=r.glob.2 g hg
 have hav:∀ x∈vs,af x=true:=by
  intro x hx
  clear hc hinj
  induction vs with
  |nil=>cases hx
  |cons y ys ih =>
   simp only[afL,zA4]at ha
   rcases zB1.1 hx with rfl|hx
   ·exact ha.1
   ·exact ih ha.2 hx
 have hgd:∀ i,i<vs.length->af (vs.getD i undef)=true:=fun i hi=>hav _ (by simp[List.getD_eq_getElem?_getD,zA7 hi])
 have hget:∀ m,(H.put g (some (tabO e vs))).get m=if m=g then some (tabO e vs) else H.get m:=fun m=>AHeap.get_put H g _ m
 refine⟨r.base,r.glob,fun m n hm hn he=>?_,fun n o hn=>?_,fun n o hn=>?_⟩
 ·rw[hget]at hm hn
  by_cases h1:m=g
  ·subst h1
   by_cases h2:n=m
   ·exact .inl h2.symm
   ·rw[if_neg h2]at hn
    exact .inl (hinj n hn (he.symm.trans hbk)).symm
  ·rw[if_neg h1]at hm
   by_cases h2:n=g
   ·subst h2
    exact .inl (hinj m hm (he.trans hbk))
   ·rw[if_neg h2]at hn
    rw[hget,hget,if_neg h1,if_neg h2]
    exact r.inj m n hm hn he
 ·rw[hget]at hn
  by_cases h:n=g
  ·subst h
   rw[if_pos rfl]at hn
   cases hn
   refine⟨zC3 hg r.glob.1,?_⟩
   simp only[sco,tabO,RV.n_ofList,RV.get_ofList]
   intro i hi
   exact scb_of_af _ (hgd i hi)
  ·rw[if_neg h]at hn
   exact r.dom n o hn
 ·rw[hget]at hn
  by_cases h:n=g
  ·subst h
   rw[if_pos rfl]at hn
   cases hn
   refine⟨_,by rw[hbk]; exact hb,?_⟩
   have hcs:c.size=vs.length:=by rw[<-hc]; simp
   simp only[Fits,tabO]
   refine⟨c,(0,0),rfl,fun i hi=>?_,fun _=>⟨by rw[RV.n_ofList,hcs],hsh,hex,rfl⟩,fun h=>(by cases h)⟩
   simp only[RV.n_ofList]at hi
   rw[RV.get_ofList,val_af _ _ (hgd i hi),hsh,zD3]
   subst hc
   have:i<c.size:=by simpa using hi
   simp[List.getD_eq_getElem?_getD,this]
  ·rw[if_neg h]at hn
   exact r.obj n o hn
def tabsH (N:Nat):List (Nat × TypeId × List Value)->AHeap
 |[]=>AHeap.none N
 |(g,e,vs)::r=>(tabsH N r).put g (some (tabO e vs))
theorem tabsH_next (N:Nat):∀ T,(tabsH N T).next=N/\(tabsH N T).base=N/\(tabsH N T).dirty=[]
 |[]=>⟨rfl,rfl,rfl⟩
 |(_,_,_)::r=>tabsH_next N r
def ansT (P:Program) (K:FuncId->List Value->AHeap->Option Value) (fuel:Nat) (f:FuncId) (args:List Value) (v:Value) (T:List (Nat × TypeId × List Value)):Bool :=
 match call P K fuel f args (tabsH P.globals.size T) with
 |some (.ok u,H1)=>sameW u v&&H1.dirty.isEmpty
 |_=>false
theorem rel_tabs:∀ (T:List (Nat × TypeId × List Value)),(∀ x∈T,x.1<P.globals.size/\afL x.2.2=true/\∃ c,w.heap[x.1]?=some (.cells c x.2.1 (0,0))/\c.toList=x.2.2)->Rel P Ren.same (tabsH P.globals.size T) w
 |[],_=>rel_none P w
 |(g,e,vs)::r,h=>by
  obtain⟨h1,h2,c,h3,h4⟩:=h (g,e,vs) (by simp)
  exact rel_tab (rel_tabs r fun x hx=>h x (by simp[hx])) h1 rfl (fun n _ hn=>hn) h3 h4 h2
theorem ansT_in (hmix:P.follows .mixedOrders=true) {L:FuncId->List Value->AHeap->Option Value} (hK:Known P L) {fuel:Nat} {f:FuncId} {args:List Value} {v:Value} {T:List (Nat × TypeId × List Value)} (ha:args.all af=true) (h:ansT P L fuel f args v T=true)
  (hT:∀ x∈T,x.1<P.globals.size/\afL x.2.2=true/\∃ c,w.heap[x.1]?=some (.cells c x.2.1 (0,0))/\c.toList=x.2.2) (F:Fence) (n:Nat) (hF:WideF F) :
  CallsIn F n P f args.toArray w (fun e w'=>e=.returned v/\RowKit.Below w.heap.size w w')/\af v=true:=by
 unfold ansT at h
 split at h
 ·rename_i u H1 hc
  simp only[zA4]at h
  obtain⟨h,hd⟩:=h
  obtain⟨rfl,hv⟩:=sameW_eq h
  refine⟨?_,hv⟩
  have:=call_in hmix hK (rel_tabs T hT) hc (scbL_of_af _ (afL_of fun x hx=>zC4.1 ha x hx)) (F:=F) (n:=n) hF
  rw[map_af _ args (fun x hx=>zC4.1 ha x hx)]at this
  refine this.mono ?_
  rintro e w' ⟨ρ1,rfl,s⟩
  refine⟨by rw[val_af ρ1 _ hv],s.os,s.tape,s.output,s.size,fun b hb=>s.old b hb fun n hn hor _=>?_⟩
  obtain⟨t1,t2,_⟩:=tabsH_next P.globals.size T
  rcases hor with h|h
  ·omega
  ·rw[List.isEmpty_iff.1 hd]at h
   cases h
 ·cases h
theorem tab_world {ρ:Ren} {H:AHeap} {g:Nat} {e:TypeId} {vs:List Value} (r:Rel P ρ H w) (hg:g<P.globals.size) (hb:bk H g=some ⟨e,false,vs⟩) (ha:afL vs=true):∃ c,w.heap[g]?=some (.cells c e (0,0))/\c.toList=vs:=by
 obtain⟨hbk,hsh⟩:=r.glob.2 g hg
 have hav:∀ x∈vs,af x=true:=by
  intro x hx
  clear hb
  induction vs with
  |nil=>cases hx
  |cons y ys ih =>
   simp only[afL,zA4]at ha
   rcases zB1.1 hx with rfl|hx
   ·exact ha.1
   ·exact ih ha.2 hx
 simp only[bk,zA6]at hb
 obtain⟨⟨rv,e',o⟩,hc,hx⟩:=hb
 simp only[Bl.mk.injEq]at hx
 obtain⟨rfl,rfl,rfl⟩:=hx
 obtain⟨z,q,hgt⟩:=cellsAt_get hc
 obtain⟨o',hw,hfit⟩:=r.obj _ _ hgt
 simp only[Fits]at hfit
 obtain⟨c,fz,rfl,hcs,hcl,_⟩:=hfit
 obtain⟨k1,k2,k3,rfl⟩:=hcl trivial
 rw[hbk]at hw
 refine⟨c,hw,?_⟩
 apply List.ext_getElem?
 intro i
 rw[RV.gets_eq]
 by_cases hi:i<rv.n
 ·have h1:=hcs i hi
  rw[k2,zD3]at h1
  have h2:rv.get i∈rv.gets 0 rv.n:=by rw[RV.gets_eq,zE0]; exact⟨i,by simpa using hi,by simp⟩
  rw[val_af ρ _ (hav _ h2)]at h1
  rw[List.getElem?_map,List.getElem?_range hi]
  simpa using h1
 ·rw[zC6 (by simp; omega),zC6 (by simp; omega)]
theorem callS_tab (hmix:P.follows .mixedOrders=true) {L:FuncId->List Value->AHeap->Option Value} (hK:Known P L) {fuel:Nat} {f:FuncId} {args:List Value} {v:Value} {T:List (Nat × TypeId × List Value)} {H:AHeap} (ha:args.all af=true) (h:ansT P L fuel f args v T=true)
  (hT:∀ x∈T,x.1<P.globals.size/\afL x.2.2=true/\bk H x.1=some ⟨x.2.1,false,x.2.2⟩):CallS P f args H (.ok v) H:=by
 intro ρ w r hsc F n R hF hR
 rw[map_af ρ args (fun x hx=>zC4.1 ha x hx)]
 obtain⟨h1,hv⟩:=ansT_in (w:=w) hmix hK ha h (fun x hx=>⟨(hT x hx).1,(hT x hx).2.1,tab_world r (hT x hx).1 (hT x hx).2.2 (hT x hx).2.1⟩) F n hF
 refine h1.mono ?_
 rintro e w' ⟨rfl,hb⟩
 have:=hR ρ w' (St.below r hb) (scb_of_af _ hv)
 rwa [val_af ρ _ hv]at this
end
end Go.Ax
