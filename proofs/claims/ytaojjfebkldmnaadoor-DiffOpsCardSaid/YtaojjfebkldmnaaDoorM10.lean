/- Parts of the proof, one behind the other. -/
import Derived.Test.YtaojjfebkldmnaaDoorM6
import Derived.Test.YtaojjfebkldmnaaDoorM9
import Derived.Test.YtaojjfebkldmnaaDoorM4
import Derived.ChangeArms
import Derived.Test.YtaojjfebkldmnaaDoorRows
import Derived.ProofKit
import Derived.Carry
import Derived.OpenShut
import Derived.LaidMore
import Derived.Lay
set_option linter.all false
set_option maxRecDepth 10000
set_option maxHeartbeats 16000000
open And renaming intro → zA0
open Option renaming bind_eq_bind → zA1, bind_eq_some_iff → zA2, bind_some → zA3, map_some → zA9, map_eq_some_iff → zB2
open List renaming mem_singleton → zA4, getElem?_eq_getElem → zA6, mem_append → zB1, mem_cons → zB3, mem_cons_of_mem → zB4, length_cons → zB6, length_append → zB7, length_nil → zB8, mem_of_getElem? → zB9, nil_append → zC1, append_nil → zC5, mem_append_left → zC7, map_cons → zC8, all_eq_true → zC9, mem_append_right → zD0, drop_zero → zD1, mem_of_mem_take → zD4, mem_of_mem_drop → zD5, mem_cons_self → zD6, eq_nil_of_length_eq_zero → zD8, mem_flatMap → zE1, getD_eq_getElem?_getD → zE2, drop_eq_nil_of_le → zE3, take_length → zE4, getElem?_eq_none → zE5, take_of_length_le → zE6, length_take → zE7, getElem?_eq_some_iff → zE8, drop_eq_getElem_cons → zF0, length_drop → zF1, take_add_one → zF2, mem_range → zF3, getElem?_cons_zero → zF4, map_nil → zF5, append_assoc → zF6, flatMap_cons → zF7, length_singleton → zF8, length_replicate → zF9, getElem?_cons_succ → zG0
open Nat renaming le_refl → zA5, le_of_ble_eq_true → zA7, zero_le → zB0, zero_add → zC2, lt_or_ge → zC4, le_of_eq → zC6, lt_succ_self → zD2, add_zero → zD3, le_trans → zD7, lt_of_lt_of_le → zD9, zero_mul → zE9
open Bool renaming and_eq_true → zA8, not_true → zB5, not_false → zC0, false_eq_true → zC3, and_self → zE0

namespace Go.Proofs.YtaojjfebkldmnaaDoor
open Go.Ax
theorem kind_s (N:Nat) (H:AHeap) (p W:Nat) (v:Value) (rvs:List Value) (x:St) (o:Op) (k f:Nat) (hk:o.kind=(k:Int)) (hf:kindF[k]?=some f) (a:StAt 76 N H p v rvs x) (sl:Slc v) (hok:H.base≤H.next) (ok:x.Ok W) (h56:o.kind=5∨o.kind=6) :
  CallA Tryd.prog f [.pointer (some ⟨p,0,none⟩),o.val] H (StepR 76 N p (x.does W ptsR o) H):=by
 rw[does_eq,hk]
 rw[hk]at h56
 match k,hf,h56 with
 |5,hf,_=>obtain rfl:=Option.some.inj hf; rw[if_neg (by decide),if_neg (by decide),if_neg (by decide),if_neg (by decide),if_pos (by decide)]; exact remove_c N H p W v rvs x o a sl hok ok
 |6,hf,_=>obtain rfl:=Option.some.inj hf; rw[if_neg (by decide),if_neg (by decide),if_neg (by decide),if_neg (by decide),if_neg (by decide),if_pos (by decide)]; exact insert_c N H p W v rvs x o a sl hok ok
 |0,_,h=>exact absurd h (by omega)
 |1,_,h=>exact absurd h (by omega)
 |2,_,h=>exact absurd h (by omega)
 |3,_,h=>exact absurd h (by omega)
 |4,_,h=>exact absurd h (by omega)
 |7,_,h=>exact absurd h (by omega)
 |8,_,h=>exact absurd h (by omega)
 |k+9,_,h=>exact absurd h (by omega)
theorem executed_s (N:Nat) (H:AHeap) (p W:Nat) (v ov:Value) (rvs:List Value) (x:St) (l:List Op) (hl:OpsAt H ov l) (hov:l≠[]→∀ n∈idsV ov,n<N) (a:StAt 76 N H p v rvs x) (sl:Slc v) (hNH:N≤H.next) (hok:H.base≤H.next) (ok:x.Ok W) (h56:∀ o∈l,o.kind=5∨o.kind=6) (hll:l.length≤10000) :
  CallA Tryd.prog 49 [.pointer (some ⟨p,0,none⟩),ov] H (AllR N p (St.all W ptsR l 0 x) H):=by
 obtain⟨b,hb⟩:∃ b,H.next=b:=⟨_,rfl⟩
 have hbb:H.base≤b:=hb▸hok
 obtain⟨ao,co,eo⟩:=hl.sl
 have hst:∀ (M:Nat) (l:List Value),l.length=9→stB Tryd.prog 102 M 0 (.agg ⟨kindsV⟩) (some ⟨102,false,l⟩)=some ⟨102,false,kindsV⟩:=fun M l h=>by
  have hv:(Value.agg ⟨kindsV⟩).cells.toList=kindsV:=rfl
  rw[stB_ok (by rw[hv]; kernel_rfl) (by rw[hv,h]; decide) (by rw[hv]; rfl) (by rw[hv]; rfl),hv,putL_head _ _ (by rw[h]; decide),zE3 (by rw[h]; decide),zC5]
 have hcl:(Value.agg ⟨kindsV⟩).cells.toList=kindsV:=rfl
 have hps:putL ([.nilFunc,.nilFunc,.nilFunc,.nilFunc,.nilFunc,.nilFunc,.nilFunc,.nilFunc,.nilFunc]:List Value) 0 kindsV=kindsV:=rfl
 refine callE_fn mixed Tryd.func49 rfl Tryd.ntmps49 (zA7 rfl) ?_
 rw[eo]
 simp (maxDischargeDepth:=6) only[w_defer,ruW,putL,Nat.reduceLeDiff,xF,ruU,entryE,Nat.reduceLT,Nat.reduceAdd,Nat.reduceMul,Nat.reduceEqDiff]
 refine (kinds_c (ext H [])).to ?_
 simp (maxDischargeDepth:=6) only[hb,hbb,hst,hcl,hps,ruW,putL,Nat.reduceLeDiff,xF,ruU,entryE,Nat.reduceLT,Nat.reduceAdd,Nat.reduceMul,Nat.reduceEqDiff]
 rw[←eo]
 refine w_env fun E hE=>?_
 have g0:E 0=.pointer (some ⟨p,0,none⟩):=by rw[hE]; simp only[ruU,entryE,Nat.reduceLT,Nat.reduceAdd,Nat.reduceMul,Nat.reduceEqDiff]
 have g4:E 4=.int .i64 ((0:Nat):Int):=by rw[hE]; (simp only[ruU,entryE,Nat.reduceLT,Nat.reduceAdd,Nat.reduceMul,Nat.reduceEqDiff]<;>rfl)
 have g5:E 5=.pointer (some ⟨b+0,0,none⟩):=by rw[hE]; simp only[ruU,entryE,Nat.reduceLT,Nat.reduceAdd,Nat.reduceMul,Nat.reduceEqDiff]
 have g9:E 9=ov:=by rw[hE,eo]; simp only[ruU,entryE,Nat.reduceLT,Nat.reduceAdd,Nat.reduceMul,Nat.reduceEqDiff]
 have g10:E 10=.int .i64 (l.length:Int):=by rw[hE]; simp only[ruU,entryE,Nat.reduceLT,Nat.reduceAdd,Nat.reduceMul,Nat.reduceEqDiff]
 have g11:E 11=.int .i64 ((0:Nat):Int):=by rw[hE]; (simp only[ruU,entryE,Nat.reduceLT,Nat.reduceAdd,Nat.reduceMul,Nat.reduceEqDiff]<;>rfl)
 clear hE
 obtain⟨X,hX⟩:∃ X,ext H [⟨102,false,kindsV⟩]=X:=⟨_,rfl⟩
 have mX:Mod [] H X:=hX▸Mod.ext hok
 have kX:bk X (b+0)=some ⟨102,false,kindsV⟩:=by rw[←hX,bk_at hb (by simp)]; rfl
 have nX:X.next=b+1:=by rw[←hX,ext_next,hb]; rfl
 have okX:=mX.ok hok
 have aX:=a.mod0 mX
 rw[hX]
 rw[show X=ext X [] from rfl]
 have mXN:ModN N H X:=ModN.of (Ws:=[]) mX (by simp)
 have fin:∀ (Y:AHeap) (E:Env) (i:Nat),ModN N X Y→E 4=.int .i64 (i:Int)→St.all W ptsR l 0 x=.inr i→leaveA Tryd.prog Tryd.f49 (mkA 34 E [⟨.fn (.func 68) #[],⟨[]⟩⟩]) [⟨.fn (.func 68) #[],⟨[]⟩⟩] (.panicking [refusedP]) Y (AllR N p (St.all W ptsR l 0 x) H):=fun Y E i mY e4 hr=>by
  refine leave_pan (mY.ok okX) (fun j hj=>?_) (by decide)
  rw[e4]at hj
  subst hj
  rw[hr]
  exact⟨(mXN.trans mY).trans (ModN.of (Ws:=[]) (Mod.ext (mY.ok okX)) (by simp)),rfl⟩
 refine blockC_meet (fun E' Y=>ModN N X Y∧∃ y v rvs,St.all W ptsR l 0 x=.inl y∧Slc v∧StAt 76 N Y p v rvs y) ?_ ?_
 ·refine w_loop (fun (q:Nat × St × Value × List Value) E' Y=>ModN N X Y∧E' 0=.pointer (some ⟨p,0,none⟩)∧E' 5=.pointer (some ⟨b+0,0,none⟩)∧E' 9=ov∧E' 10=.int .i64 (l.length:Int)∧E' 11=.int .i64 (q.1:Int)∧q.1≤l.length∧St.all W ptsR (l.drop q.1) q.1 q.2.1=St.all W ptsR l 0 x∧q.2.1.Ok W∧Slc q.2.2.1∧StAt 76 N Y p q.2.2.1 q.2.2.2 q.2.1) (fun q=>l.length-q.1) (0,x,v,rvs)
   ⟨ModN.refl,g0,g5,g9,g10,g11,zB0 _,rfl,ok,sl,aX⟩ ?_
  clear g0 g4 g5 g9 g10 g11
  rintro⟨k,y,u,us⟩ E Y ⟨mY,g0,g5,g9,g10,g11,hk,hall,oky,slu,aY⟩
  simp only at g11 hk hall oky slu aY
  rw[show Y=ext Y [] from rfl]
  by_cases hkl:k=l.length
  ·have hc:decide ((k:Int)<(l.length:Int))=false:=by simp[hkl]
   simp (maxDischargeDepth:=6) only[g10,g11,hc,ruW,putL,Nat.reduceLeDiff,xF,ruU,entryE,Nat.reduceLT,Nat.reduceAdd,Nat.reduceMul,Nat.reduceEqDiff]
   rw[zE3 (by omega),St.all]at hall
   exact joinR_normal ⟨mY,y,u,us,hall.symm,slu,aY⟩
  ·have hlt:k<l.length:=by omega
   have hc:decide ((k:Int)<(l.length:Int))=true:=decide_eq_true (by omega)
   obtain⟨o,ho⟩:∃ o,l[k]?=some o:=⟨_,zA6 hlt⟩
   have okY:=mY.ok okX
   obtain⟨yn,hyn⟩:∃ n,Y.next=n:=⟨_,rfl⟩
   have hyb:Y.base≤yn:=hyn▸okY
   have hby:b+0<yn:=by have:=mY.next; omega
   have kY:bk Y (b+0)=some ⟨102,false,kindsV⟩:=mY.kinds (by omega) kX
   rcases hl with⟨h,_⟩|⟨hne,no,off,so,co',eo1,oo,L,eov,hrk,hno,hle,hop⟩
   ·rw[h]at hlt; simp at hlt
   have hnoN:no<N:=hov hne no (by rw[eov]; simp[idsV])
   have hnoY:rk Y no=some ⟨eo1,oo,L⟩:=by
    obtain⟨Ws,h1,m1⟩:=mXN.trans mY
    exact (rk_get (m1.get no hno fun h=>by have:=(h1 no h).1; omega)).trans hrk
   have hnoy:no<yn:=by have:=(mXN.trans mY).next; omega
   have ia:=op_ia (len:=l.length) (cap:=co') (n:=no) (off:=off) (s:=so) (i:=(k:Int)) rfl hlt
   have ld:=op_load (e:=eo1) (o:=oo) ho hle hop
   rw[eov]at g9
   simp (maxDischargeDepth:=6) only[g0,g5,g9,g10,g11,hc,hyn,hyb,hnoy,ia,hnoY,ld,qk_old,Op.val,Op.cells,ruW,putL,Nat.reduceLeDiff,xF,ruU,entryE,Nat.reduceLT,Nat.reduceAdd,Nat.reduceMul,Nat.reduceEqDiff]
   obtain⟨d1,h1⟩:∃ d,decide (0≤o.kind)=d:=⟨_,rfl⟩
   obtain⟨d2,h2⟩:∃ d,decide (o.kind<9)=d:=⟨_,rfl⟩
   have mB:Mod [] Y (ext Y [⟨47,false,o.cells⟩]):=Mod.ext okY
   have mBN:ModN N X (ext Y [⟨47,false,o.cells⟩]):=mY.trans (ModN.of (Ws:=[]) mB (by simp))
   by_cases hv:(d1&&d2)=true
   ·simp only[zA8]at hv
    obtain⟨rfl,rfl⟩:=hv
    have q1:=of_decide_eq_true h1
    have q2:=of_decide_eq_true h2
    obtain⟨j,hj⟩:∃ j:Nat,o.kind=j:=⟨o.kind.toNat,by omega⟩
    have hj9:j<9:=by omega
    obtain⟨f,hf⟩:∃ f,kindF[j]?=some f:=⟨_,zA6 (show j<9 from hj9)⟩
    have hbf:hasBody Tryd.prog f=true:=zC9.1 kindF_body f (zB9 hf)
    simp (maxDischargeDepth:=6) only[h1,h2,hyn,hyb,ruW,putL,Nat.reduceLeDiff,xF,ruU,entryE,Nat.reduceLT,Nat.reduceAdd,Nat.reduceMul,Nat.reduceEqDiff]
    refine CallS.to (needs_t _) ?_
    have ix:aIndexAddr Tryd.prog 102 (.pointer (some ⟨b+0,0,none⟩)) (.int .i64 (j:Int))=some (.pointer (some ⟨b+0,0+j,none⟩)):=by
     have hu:Tryd.prog.underlying 102=some (.array 9 101):=by kernel_rfl
     have hz:szOf Tryd.prog 101=some 1:=by kernel_rfl
     simp only[aIndexAddr,hu,hz,zA1,zA3]
     rw[if_pos ⟨by omega,by omega⟩]
     simp[Addr.add]
     omega
    have lk:ldB Tryd.prog 101 (0+j) (some ⟨102,false,kindsV⟩)=some (.func (.func f) ⟨[]⟩ ⟨[]⟩):=by
     rw[ld_one (by kernel_rfl),zC2]
     simp only[kindsV,List.getElem?_map,hf,zA9]
     rfl
    simp (maxDischargeDepth:=6) only[g0,g5,hyn,hj,ruW,putL,Nat.reduceLeDiff,xF,ruU,entryE,Nat.reduceLT,Nat.reduceAdd,Nat.reduceMul,Nat.reduceEqDiff]
    refine w_drawP [] [] (by kernel_rfl) (by kernel_rfl) rfl rfl (fun ops anc hA hG=>?_) (by simp) ⟨rfl,rfl⟩
    simp (maxDischargeDepth:=6) only[dropLast_more,dropLast_one,g0,g5,hyn,hby,kY,ix,lk,ruD,ruW,putL,Nat.reduceLeDiff,xF,ruU,entryE,Nat.reduceLT,Nat.reduceAdd,Nat.reduceMul,Nat.reduceEqDiff]
    simp only[lastO_cons,lastO_one,isDef_call,ff_eq,true_and]
    refine w_callV (f:=f) (ca:=[]) (by simp only[ruU,entryE,Nat.reduceLT,Nat.reduceAdd,Nat.reduceMul,Nat.reduceEqDiff]) (by simp only[ruU,entryE,Nat.reduceLT,Nat.reduceAdd,Nat.reduceMul,Nat.reduceEqDiff]) (by simp only[ruU,entryE,Nat.reduceLT,Nat.reduceAdd,Nat.reduceMul,Nat.reduceEqDiff]) hbf ?_
    simp only[ruU,entryE,Nat.reduceLT,Nat.reduceAdd,Nat.reduceMul,Nat.reduceEqDiff]
    rw[zC5]
    have aB:=aY.mod0 mB
    have key:=kind_s N (ext Y [⟨47,false,o.cells⟩]) p W u us y o j f hj hf aB slu (mB.ok okY) oky (h56 o (zB9 ho))
    simp only[Op.val,Op.cells,hj]at key
    refine key.mono ?_
    rintro out Z ⟨mZ,hr⟩
    replace mZ:ModN N (ext Y [⟨47,false,o.cells⟩]) Z:=by simp only[Op.cells,hj]; exact mZ
    have mZN:=mBN.trans mZ
    cases hd:y.does W ptsR o with
    |none =>
     rw[hd]at hr
     obtain rfl:=hr
     have hstop:=all_stop (W:=W) l k k y o ho hd
     rw[hstop]at hall
     simp only[opC_error,seqC_panic,blockC_panic,loopC_panic,joinR_panic,endA_panic]
     exact fin _ _ k mZN (by simp only[ruU,entryE,Nat.reduceLT,Nat.reduceAdd,Nat.reduceMul,Nat.reduceEqDiff]) hall.symm
    |some y2 =>
     rw[hd]at hr
     obtain⟨rfl,v2,us2,sl2,a2⟩:=hr
     rw[all_drop l k k y y2 o ho hd]at hall
     rw[show Z=ext Z [] from rfl]
     simp (maxDischargeDepth:=6) only[g11,wrap_succ (show k<1000000 by omega),ruW,putL,Nat.reduceLeDiff,xF,ruU,entryE,Nat.reduceLT,Nat.reduceAdd,Nat.reduceMul,Nat.reduceEqDiff]
     refine loopC_next ⟨(k+1,y2,v2,us2),by simp only; omega,mZN,?_,?_,?_,?_,?_,by simp only; omega,hall,does_ok oky hd,sl2,a2⟩
     ·simp only[g0,ruU,entryE,Nat.reduceLT,Nat.reduceAdd,Nat.reduceMul,Nat.reduceEqDiff]
     ·simp only[g5,ruU,entryE,Nat.reduceLT,Nat.reduceAdd,Nat.reduceMul,Nat.reduceEqDiff]
     ·simp only[g9,eov,ruU,entryE,Nat.reduceLT,Nat.reduceAdd,Nat.reduceMul,Nat.reduceEqDiff]
     ·simp only[g10,ruU,entryE,Nat.reduceLT,Nat.reduceAdd,Nat.reduceMul,Nat.reduceEqDiff]
     ·simp only[ruU,entryE,Nat.reduceLT,Nat.reduceAdd,Nat.reduceMul,Nat.reduceEqDiff]
   ·have hdn:y.does W ptsR o=none:=by
     rw[does_eq]
     have:o.kind<0∨9≤o.kind:=by
      cases d1 with
      |false=>have:=of_decide_eq_false h1; omega
      |true =>
       cases d2 with
       |false=>have:=of_decide_eq_false h2; omega
       |true=>exact absurd rfl hv
     rw[if_neg (by omega),if_neg (by omega),if_neg (by omega),if_neg (by omega),if_neg (by omega),if_neg (by omega),if_neg (by omega),if_neg (by omega)]
    have hstop:=all_stop (W:=W) l k k y o ho hdn
    rw[hstop]at hall
    have hs:d1=false∨(d1=true∧d2=false):=by cases d1<;>cases d2<;>simp_all
    rcases hs with rfl|⟨rfl,rfl⟩
    ·simp (maxDischargeDepth:=6) only[h1,ruW,putL,Nat.reduceLeDiff,xF,ruU,entryE,Nat.reduceLT,Nat.reduceAdd,Nat.reduceMul,Nat.reduceEqDiff]
     refine CallS.panics (needs_f _) ?_
     simp only[opC_error,seqC_panic,blockC_panic,loopC_panic,joinR_panic,endA_panic]
     exact fin _ _ k mBN (by simp only[ruU,entryE,Nat.reduceLT,Nat.reduceAdd,Nat.reduceMul,Nat.reduceEqDiff]) hall.symm
    ·simp (maxDischargeDepth:=6) only[h1,h2,hyn,hyb,ruW,putL,Nat.reduceLeDiff,xF,ruU,entryE,Nat.reduceLT,Nat.reduceAdd,Nat.reduceMul,Nat.reduceEqDiff]
     refine CallS.panics (needs_f _) ?_
     simp only[opC_error,seqC_panic,blockC_panic,loopC_panic,joinR_panic,endA_panic]
     exact fin _ _ k mBN (by simp only[ruU,entryE,Nat.reduceLT,Nat.reduceAdd,Nat.reduceMul,Nat.reduceEqDiff]) hall.symm
 ·rintro E Y ⟨mY,y,u,us,hall,slu,aY⟩
  rw[show Y=ext Y [] from rfl]
  simp (maxDischargeDepth:=6) only[ruW,putL,Nat.reduceLeDiff,xF,ruU,entryE,Nat.reduceLT,Nat.reduceAdd,Nat.reduceMul,Nat.reduceEqDiff]
  rw[hall]
  refine leave_ret (mY.ok okX) (fun i hi=>?_) (by decide)
  simp only[ruU,entryE,Nat.reduceLT,Nat.reduceAdd,Nat.reduceMul,Nat.reduceEqDiff]at hi
  subst hi
  exact⟨(mXN.trans mY).trans (ModN.of (Ws:=[]) (Mod.ext (mY.ok okX)) (by simp)),rfl,u,us,slu,aY.mod0 (Mod.ext (mY.ok okX))⟩
theorem apply_s (H:AHeap) (v ov:Value) (g:List (List Ce)) (r c:Int) (l:List Op) (hg:GridAt H v g) (hl:OpsAt H ov l) (hok:H.base≤H.next) (hs:scb H.next v=true) (hw:∀ l∈g,l.length≤10000) (hgl:g.length≤10000)
  (h56:∀ o∈l,o.kind=5∨o.kind=6) (hll:l.length≤10000) :
  CallA Tryd.prog 22 [.agg ⟨[v,.int .i64 r,.int .i64 c]⟩,ov] H (AppR H g r c l):=by
 obtain⟨b,hb⟩:∃ b,H.next=b:=⟨_,rfl⟩
 have hbb:H.base≤b:=hb▸hok
 obtain⟨a0,c0,e0⟩:=hg.sl
 rw[hb]at hs
 have hs':=hs
 rw[e0]at hs
 obtain⟨k,hk⟩:∃ k,chkR g r c=k:=⟨_,rfl⟩
 refine callE_fn mixed Tryd.func22 rfl Tryd.ntmps22 (zA7 rfl) ?_
 rw[e0]
 simp (maxDischargeDepth:=6) only[hb,hbb,hs,ruW,putL,Nat.reduceLeDiff,xF,ruU,entryE,Nat.reduceLT,Nat.reduceAdd,Nat.reduceMul,Nat.reduceEqDiff]
 rw[←e0]
 obtain⟨X,hX⟩:∃ X,ext H [⟨24,false,[v,.int .i64 r,.int .i64 c]⟩,⟨24,false,[.slice none 0 0,.int .i64 0,.int .i64 0]⟩]=X:=⟨_,rfl⟩
 have mX:Mod [] H X:=hX▸Mod.ext hok
 have nX:X.next=b+2:=by rw[←hX,ext_next,hb]; rfl
 have k0:bk X (b+0)=some ⟨24,false,[v,.int .i64 r,.int .i64 c]⟩:=by rw[←hX,bk_at hb (by simp)]; rfl
 have k1:bk X (b+1)=some ⟨24,false,[.slice none 0 0,.int .i64 0,.int .i64 0]⟩:=by rw[←hX,bk_at hb (by simp)]; rfl
 have okX:=mX.ok hok
 have gX:GridAt X v g:=hX▸hg.ext
 rw[hX]
 have hck:=check39_c X v g r c gX (fun l hl=>by have:=hw l hl; omega) (by omega)
 rw[hk]at hck
 rw[show X=ext X [] from rfl]
 refine hck.to ?_
 rw[show X=ext X [] from rfl]
 have l0:b+0<b+2:=by omega
 have l1:b+1<b+2:=by omega
 by_cases hk0:k=0
 ·have hd:decide (¬k=0)=false:=by simp[hk0]
  rw[hk0]at hk
  obtain⟨ok,hne,hgne⟩:=chk_ok hk
  obtain⟨W,hW⟩:∃ W,widG g=W:=⟨_,rfl⟩
  rw[hW]at ok
  obtain⟨F,hF,hFG⟩:=gX.foot hgne
  have hrn:=restrict_next X F
  obtain⟨gR,_⟩:=hFG (X.restrict F) (by rw[hrn.1]; exact zA5 _) (fun n hn=>by rw[restrict_get,if_pos hn])
  obtain⟨_,gg,hcc,u,rvs,rfl,gr,mg⟩:=clone39_c (X.restrict F) v g r c gR (by rw[hrn.1,hrn.2.1]; exact zA5 _) (by rw[hrn.1,nX]; exact scb_mono (by omega) _ hs') hne hw hgl
  rw[hrn.1]at gr
  simp (maxDischargeDepth:=6) only[hd,ruW,putL,Nat.reduceLeDiff,xF,ruU,entryE,Nat.reduceLT,Nat.reduceAdd,Nat.reduceMul,Nat.reduceEqDiff]
  refine w_drawB [(10,1),(11,10),(11,1),(12,11),(12,1)] [] (by kernel_rfl) (by kernel_rfl) rfl fun ops anc hA hG=>?_
  simp only[all2_cons]at hA
  simp (maxDischargeDepth:=6) only[nX,k0,l0,hA,ruD,ruW,putL,Nat.reduceLeDiff,xF,ruU,entryE,Nat.reduceLT,Nat.reduceAdd,Nat.reduceMul,Nat.reduceEqDiff]
  refine genV_mod (H:=ext X []) (W:=[]) F okX (by simp only[ruU,entryE,Nat.reduceLT,Nat.reduceAdd,Nat.reduceMul,Nat.reduceEqDiff]) (by kernel_rfl) (fun n hn=>(hF n hn).1) (fun n hn=>(hF n hn).2) (fun _ h=>by simp at h) (v:=.agg ⟨[u,.int .i64 r,.int .i64 c]⟩) (g:=gg) (by simp only[ruU,entryE,Nat.reduceLT,Nat.reduceAdd,Nat.reduceMul,Nat.reduceEqDiff]; exact hcc) mg (by simp only[all2_cons,all2_nil,hA,true_or,and_true]; simp) ?_
  intro Z D mZ hFZ hNZ hnZ hDZ
  have hD0:D=[]:=List.eq_nil_iff_forall_not_mem.2 (fun q hq=>by simpa using hDZ q hq)
  subst hD0
  replace mZ:Mod [] X Z:=mZ
  replace hNZ:∀ m,X.next≤m→m<gg.next→Z.get m=gg.get m:=hNZ
  have grZ:Grow (b+2) Z u rvs g:=by
   have:=gr.of (Y:=Z) (by omega) (fun n hn hm=>hNZ n (by
    rcases zB1.1 hm with hm|hm
    ·exact (gr.apart n hm).1
    ·exact (gr.ids n hm).1) hn)
   rw[nX]at this
   exact this
  obtain⟨au,eu⟩:=grZ.at_.len
  have hsu:=grZ.at_.sc
  have slu:Slc u:=by
   obtain⟨_,_,⟨h0,_⟩|⟨_,n,e,_⟩⟩:=grZ.at_
   ·exact absurd (List.length_eq_zero_iff.1 h0) hgne
   ·exact⟨n,_,e⟩
  have okZ:=mZ.ok okX
  obtain⟨zn,hzn⟩:∃ z,Z.next=z:=⟨_,rfl⟩
  have hzb:Z.base≤zn:=hzn▸okZ
  have hz2:b+2≤zn:=by have:=mZ.next; omega
  have kz0:bk Z (b+0)=_:=(mZ.bk (by omega) (by simp)).trans k0
  have kz1:bk Z (b+1)=_:=(mZ.bk (by omega) (by simp)).trans k1
  have hg2:gg.next=zn:=by omega
  have l0z:b+0<zn:=by omega
  rw[hzn]at hsu
  rw[eu]at hsu
  rw[show Z=ext Z [] from rfl,eu]
  simp (maxDischargeDepth:=6) only[hzn,hzb,kz0,l0z,hg2,hsu,nX,hA,ruD,ruW,putL,Nat.reduceLeDiff,xF,ruU,entryE,Nat.reduceLT,Nat.reduceAdd,Nat.reduceMul,Nat.reduceEqDiff]
  rw[←eu]
  obtain⟨Y1,hY1⟩:∃ Y1,ext Z [⟨76,false,(St.start g r c).cells u⟩]=Y1:=⟨_,rfl⟩
  have mY1:Mod [] Z Y1:=hY1▸Mod.ext okZ
  have nY1:Y1.next=zn+1:=by rw[←hY1,ext_next,hzn]; rfl
  have kp:bk Y1 (zn+0)=some ⟨76,false,(St.start g r c).cells u⟩:=by rw[←hY1,bk_at hzn (by simp)]; rfl
  have mHZ:Mod [] H Z:=mX.trans mZ
  have mHY:Mod [] H Y1:=mHZ.trans mY1
  have aY1:StAt 76 (b+2) Y1 (zn+0) u rvs (St.start g r c):=by
   have own:=grZ.own
   refine⟨kp,own.of mY1.next fun n h1 h2 h3=>mY1.get n h2 (by simp),fun h=>?_,by omega,by omega⟩
   rcases zB1.1 h with h|h
   ·have:=(own.idv _ h).2.1; omega
   ·have:=(own.ids _ h).2.1; omega
  have key:=executed_s (b+2) Y1 (zn+0) W u ov rvs (St.start g r c) l (hl.mod0 mHY) (fun h n hn=>by have:=hl.old h n hn; omega) aY1 slu (by omega) (mY1.ok okZ) ok h56 hll
  simp only[St.start,St.cells]at hY1
  rw[hY1]
  refine key.mono ?_
  rintro out Y ⟨mY,hr⟩
  have keep:∀ n,n<b+2→bk Y n=bk Y1 n:=fun n hn=>by
   obtain⟨Ws,h1,m1⟩:=mY
   exact m1.bk (by omega) fun h=>by have:=(h1 n h).1; omega
  have ky1:=(keep (b+1) (by omega)).trans ((mY1.bk (by omega) (by simp)).trans kz1)
  have mHYf:Mod [] H Y:=mY.mod mHY hok (by omega)
  have okY:=mY.ok (mY1.ok okZ)
  obtain⟨yn,hyn⟩:∃ n,Y.next=n:=⟨_,rfl⟩
  have hyb:Y.base≤yn:=hyn▸okY
  have hzy:zn+1≤yn:=by have:=mY.next; omega
  have l1y:b+1<yn:=by omega
  rw[show Y=ext Y [] from rfl]
  cases hall:St.all W ptsR l 0 (St.start g r c) with
  |inr i =>
   rw[hall]at hr
   obtain rfl:=hr
   have hdi:decide ((0:Int)≤(i:Int))=true:=decide_eq_true (by omega)
   simp (maxDischargeDepth:=6) only[hyn,ky1,l1y,hdi,Tryd.results22,ruW,putL,Nat.reduceLeDiff,xF,ruU,entryE,Nat.reduceLT,Nat.reduceAdd,Nat.reduceMul,Nat.reduceEqDiff]
   have mU:Mod [b+1] Y (uw Y (b+1) 0 [.slice none 0 0,.int .i64 0,.int .i64 0]):=Mod.uw (by simp)
   refine⟨mHYf.step mU hok (fun n hn=>.inr (by simp only[zA4]at hn; omega)),?_⟩
   rw[if_pos hk,hW,hall]
  |inl y =>
   rw[hall]at hr
   obtain⟨rfl,u2,rvs2,sl2,a2⟩:=hr
   have hdi:decide ((0:Int)≤-1)=false:=by decide
   have kpy:=a2.cell
   simp only[St.cells]at kpy
   have lpy:zn+0<yn:=by omega
   have oky:=all_ok l 0 _ y ok hall
   simp (maxDischargeDepth:=6) only[hyn,lpy,kpy,hdi,ruW,putL,Nat.reduceLeDiff,xF,ruU,entryE,Nat.reduceLT,Nat.reduceAdd,Nat.reduceMul,Nat.reduceEqDiff]
   obtain⟨a3,m3⟩:=a2.putU (y:={y with sr:=-1}) okY (off:=1) (vs:=[.int .i64 (-1)]) (L:=[]) rfl rfl
   obtain⟨a4,m4⟩:=a3.putU (y:={y with sr:=-1,sc:=0}) (m3.ok okY) (off:=2) (vs:=[.int .i64 0]) (L:=[]) rfl rfl
   have ok4:=m4.ok (m3.ok okY)
   have m34:Mod [zn+0] Y (ext (uw (uw Y (zn+0) 1 [.int .i64 (-1)]) (zn+0) 2 [.int .i64 0]) []):=m3.trans m4
   generalize hY4:ext (uw (uw Y (zn+0) 1 [.int .i64 (-1)]) (zn+0) 2 [.int .i64 0]) []=Y4 at a4 ok4 m34 ⊢
   replace a4:StAt 76 (b+2) Y4 (zn+0) u2 rvs2 {y with sr:=-1,sc:=0}:=hY4▸a4
   replace ok4:Y4.base≤Y4.next:=hY4▸ok4
   rw[show Y4=ext Y4 [] from rfl]
   refine condC_meet (fun E' Z2=>Mod [zn+0] Y Z2∧E' 4=.pointer (some ⟨b+1,0,none⟩)∧E' 8=.pointer (some ⟨zn+0,0,none⟩)∧StAt 76 (b+2) Z2 (zn+0) u2 rvs2 {y with sr:=y.atR,sc:=y.atC W}) ?_ ?_
   ·have oky4:St.Ok {y with sr:=-1,sc:=0} W:=⟨oky.h1,oky.h2,oky.w1,oky.w2,oky.wid,oky.row0,oky.row1,oky.col0,oky.col1⟩
    obtain⟨m,hml,hmp,⟨_,_,_,hmb⟩,hwd⟩:=dwidth_c a4 oky4
    have hFn:∀ n∈[zn+0,m],(ext Y4 []).get n≠none:=fun n hn=>by
     simp only[zB3,List.not_mem_nil,or_false]at hn
     rcases hn with rfl|rfl
     ·exact bk_ne a4.cell
     ·exact bk_ne hmb
    have n4:Y4.next=yn:=by rw[←hY4,ext_next,uw_next,uw_next,hyn]; rfl
    have k4:=a4.cell
    simp only[St.cells]at k4
    cases hsh:y.shown with
    |false =>
     have e1:y.atR=-1:=by simp[St.atR,hsh]
     have e2:y.atC W=0:=by simp[St.atC,hsh]
     rw[e1,e2]
     simp (maxDischargeDepth:=6) only[ruW,putL,Nat.reduceLeDiff,xF,ruU,entryE,Nat.reduceLT,Nat.reduceAdd,Nat.reduceMul,Nat.reduceEqDiff]
     rw[hsh]at a4
     exact joinR_normal ⟨m34,by simp only[ruU,entryE,Nat.reduceLT,Nat.reduceAdd,Nat.reduceMul,Nat.reduceEqDiff],by simp only[ruU,entryE,Nat.reduceLT,Nat.reduceAdd,Nat.reduceMul,Nat.reduceEqDiff],a4⟩
    |true =>
     have e1:y.atR=y.row:=by simp[St.atR,hsh]
     have e2:y.atC W=min y.col ((W:Int)-1):=by simp[St.atC,hsh]
     have hw1:IntKind.i64.wrap ((W:Int)-1)=(W:Int)-1:=wrap_sm (by have:=oky.w1; omega) (by have:=oky.w2; omega)
     rw[e1,e2]
     simp (maxDischargeDepth:=6) only[ruW,putL,Nat.reduceLeDiff,xF,ruU,entryE,Nat.reduceLT,Nat.reduceAdd,Nat.reduceMul,Nat.reduceEqDiff]
     refine w_drawB [(17,5),(17,9),(17,11),(21,17),(21,5),(21,9),(21,11)] [] (by kernel_rfl) (by kernel_rfl) rfl fun ops anc hA hG=>?_
     simp only[all2_cons]at hA
     simp (maxDischargeDepth:=6) only[n4,lpy,k4,hA,ruD,ruW,putL,Nat.reduceLeDiff,xF,ruU,entryE,Nat.reduceLT,Nat.reduceAdd,Nat.reduceMul,Nat.reduceEqDiff]
     refine genV_quiet (v:=.int .i64 W) [zn+0,m] rfl (by kernel_rfl) (zA7 rfl) hFn (fun G hn hg=>hwd G hn hg) (by simp[Meets]) ?_
     simp (maxDischargeDepth:=6) only[n4,lpy,k4,hw1,hA,ruD,ruW,putL,Nat.reduceLeDiff,xF,ruU,entryE,Nat.reduceLT,Nat.reduceAdd,Nat.reduceMul,Nat.reduceEqDiff]
     obtain⟨a5,m5⟩:=a4.putU (y:={y with sr:=y.row,sc:=0}) ok4 (off:=1) (vs:=[.int .i64 y.row]) (L:=[]) rfl rfl
     obtain⟨a6,m6⟩:=a5.putU (y:={y with sr:=y.row,sc:=min y.col ((W:Int)-1)}) (m5.ok ok4) (off:=2) (vs:=[.int .i64 (min y.col ((W:Int)-1))]) (L:=[]) rfl rfl
     rw[hsh]at a6
     exact joinR_normal ⟨m34.trans (m5.trans m6),by simp only[ruU,entryE,Nat.reduceLT,Nat.reduceAdd,Nat.reduceMul,Nat.reduceEqDiff],by simp only[ruU,entryE,Nat.reduceLT,Nat.reduceAdd,Nat.reduceMul,Nat.reduceEqDiff],a6⟩
   ·rintro E Z2 ⟨m2,e4,e8,a7⟩
    have okZ2:=m2.ok okY
    obtain⟨z2,hz2n⟩:∃ n,Z2.next=n:=⟨_,rfl⟩
    have hyz2:yn≤z2:=by have:=m2.next; omega
    have k7:=a7.cell
    simp only[St.cells]at k7
    have l7:zn+0<z2:=by omega
    have l8:b+1<z2:=by omega
    have k8:=(m2.bk (n:=b+1) (by omega) (by simp only[zA4]; omega)).trans ky1
    obtain⟨nu,hu,eu2⟩:=sl2
    have hnu:nu<z2:=by
     have:=(a7.own.idv nu (by rw[eu2]; simp[idsV])).2.1
     omega
    have hsu2:scb z2 u2=true:=by rw[eu2]; exact blt_of hnu
    rw[show Z2=ext Z2 [] from rfl]
    rw[eu2]at k7 hsu2
    simp (maxDischargeDepth:=6) only[e4,e8,hz2n,l7,l8,k7,k8,hsu2,Tryd.results22,ruW,putL,Nat.reduceLeDiff,xF,ruU,entryE,Nat.reduceLT,Nat.reduceAdd,Nat.reduceMul,Nat.reduceEqDiff]
    rw[←eu2]
    have mU:Mod [b+1] Z2 (uw Z2 (b+1) 0 [u2,.int .i64 y.atR,.int .i64 (y.atC W)]):=Mod.uw (by simp)
    have mHZ2:Mod [] H Z2:=mHYf.step m2 hok (fun n hn=>.inr (by simp only[zA4]at hn; omega))
    refine⟨mHZ2.step mU hok (fun n hn=>.inr (by simp only[zA4]at hn; omega)),?_⟩
    rw[if_pos hk,hW,hall]
    refine⟨u2,rvs2,b+2,rfl,by omega,a7.own.of mU.next fun n h1 h2 h3=>mU.get n h2 (by simp only[zA4]; omega)⟩
 ·have hd:decide (¬k=0)=true:=by simp[hk0]
  simp (maxDischargeDepth:=6) only[hd,nX,k0,k1,l0,l1,Tryd.results22,ruW,putL,Nat.reduceLeDiff,xF,ruU,entryE,Nat.reduceLT,Nat.reduceAdd,Nat.reduceMul,Nat.reduceEqDiff]
  have mU:Mod [b+1] X (uw X (b+1) 0 [.slice none 0 0,.int .i64 0,.int .i64 0]):=Mod.uw (by simp)
  refine⟨mX.step mU hok (fun n hn=>.inr (by simp only[zA4]at hn; omega)),?_⟩
  rw[if_neg (by rw[hk]; exact hk0),hk]
theorem does_s (N:Nat) (H:AHeap) (p W:Nat) (v:Value) (rvs:List Value) (x:St) (o:Op) (a:StAt 79 N H p v rvs x) (sl:Slc v) (hok:H.base≤H.next) (ok:x.Ok W) (h56:o.kind=5∨o.kind=6) :
  CallA Tryd.prog 51 [.pointer (some ⟨p,0,none⟩),o.val] H (RefR 79 N p (x.does W ptsR o) H):=by
 obtain⟨b,hbn⟩:∃ b,H.next=b:=⟨_,rfl⟩
 have hpl:=a.lt
 rw[hbn]at hpl
 have hcell:=a.cell
 simp only[St.cells]at hcell
 have m0:Mod [] H (ext H [⟨47,false,o.cells⟩]):=Mod.ext hok
 have aX:=a.mod0 m0
 have m0N:ModN N H (ext H [⟨47,false,o.cells⟩]):=ModN.of (Ws:=[]) m0 (by simp)
 have okX:=m0.ok hok
 obtain⟨mb,s1,c1,o1,n0,s0,c0,ev,hbm,hml,_,_,hrv0⟩:=a.first ok
 rw[hbn]at hml
 have i0:=grid_ia (n:=mb) (off:=0) (s:=s1) (cap:=c1) (i:=((0:Nat):Int)) (len:=x.grid.length) rfl (by have:=ok.h1; omega)
 rw[show ((0:Nat):Int)=0 from rfl]at i0
 have q0:ldB Tryd.prog 56 (0+0) (some ⟨56,o1,rvs⟩)=some (.slice (some ⟨n0,0,s0⟩) W c0):=grid_load (by rw[zC2]; exact hrv0)
 rw[zD3]at i0 q0
 rw[ev]at hcell
 rw[does_eq]
 refine callE_fn mixed Tryd.func51 rfl Tryd.ntmps51 (zA7 rfl) ?_
 simp (maxDischargeDepth:=6) only[Op.val,Op.cells,hbn,hpl,hcell,hml,hbm,i0,q0,ruW,putL,Nat.reduceLeDiff,xF,ruU,entryE,Nat.reduceLT,Nat.reduceAdd,Nat.reduceMul,Nat.reduceEqDiff]
 have k1:¬o.kind=1:=by omega
 rw[if_neg k1]
 have hd1:decide (o.kind=1)=false:=decide_eq_false k1
 have k2:¬o.kind=2:=by omega
 rw[if_neg k2]
 have hd2:decide (o.kind=2)=false:=decide_eq_false k2
 have k3:¬o.kind=3:=by omega
 rw[if_neg k3]
 have hd3:decide (o.kind=3)=false:=decide_eq_false k3
 have k4:¬o.kind=4:=by omega
 rw[if_neg k4]
 have hd4:decide (o.kind=4)=false:=decide_eq_false k4
 by_cases k5:o.kind=5
 ·rw[if_pos k5]
  have hd:decide (o.kind=5)=true:=decide_eq_true k5
  simp (maxDischargeDepth:=6) only[hd1,hd2,hd3,hd4,hd,hbn,ruW,putL,Nat.reduceLeDiff,xF,ruU,entryE,Nat.reduceLT,Nat.reduceAdd,Nat.reduceMul,Nat.reduceEqDiff]
  refine (refScroll_c N (ext H [⟨47,false,o.cells⟩]) p W v rvs x o true aX sl okX ok).mono ?_
  rintro _ X ⟨mY,rfl,aY⟩
  rw[show X=ext X [] from rfl]
  simp (maxDischargeDepth:=6) only[Tryd.results51,ruW,putL,Nat.reduceLeDiff,xF,ruU,entryE,Nat.reduceLT,Nat.reduceAdd,Nat.reduceMul,Nat.reduceEqDiff]
  exact⟨m0N.trans mY,rfl,aY⟩
 rw[if_neg k5]
 have hd5:decide (o.kind=5)=false:=decide_eq_false k5
 have k6:o.kind=6:=h56.resolve_left k5
 rw[if_pos k6]
 have hd:decide (o.kind=6)=true:=decide_eq_true k6
 simp (maxDischargeDepth:=6) only[hd1,hd2,hd3,hd4,hd5,hd,hbn,ruW,putL,Nat.reduceLeDiff,xF,ruU,entryE,Nat.reduceLT,Nat.reduceAdd,Nat.reduceMul,Nat.reduceEqDiff]
 refine (refScroll_c N (ext H [⟨47,false,o.cells⟩]) p W v rvs x o false aX sl okX ok).mono ?_
 rintro _ X ⟨mY,rfl,aY⟩
 rw[show X=ext X [] from rfl]
 simp (maxDischargeDepth:=6) only[Tryd.results51,ruW,putL,Nat.reduceLeDiff,xF,ruU,entryE,Nat.reduceLT,Nat.reduceAdd,Nat.reduceMul,Nat.reduceEqDiff]
 exact⟨m0N.trans mY,rfl,aY⟩
theorem refApply_s (H:AHeap) (v ov:Value) (g:List (List Ce)) (r c:Int) (l:List Op) (hg:GridAt H v g) (hsg:GridSc H v) (hl:OpsAt H ov l) (hok:H.base≤H.next) (hs:scb H.next v=true) (hw:∀ l∈g,l.length≤10000) (hgl:g.length≤10000)
  (h56:∀ o∈l,o.kind=5∨o.kind=6) (hll:l.length≤10000) :
  CallA Tryd.prog 23 [.agg ⟨[v,.int .i64 r,.int .i64 c]⟩,ov] H (AppR H g r c l):=by
 obtain⟨b,hb⟩:∃ b,H.next=b:=⟨_,rfl⟩
 have hbb:H.base≤b:=hb▸hok
 obtain⟨a0,c0,e0⟩:=hg.sl
 rw[hb]at hs
 have hs':=hs
 rw[e0]at hs
 obtain⟨k,hk⟩:∃ k,chkR g r c=k:=⟨_,rfl⟩
 refine callE_fn mixed Tryd.func23 rfl Tryd.ntmps23 (zA7 rfl) ?_
 rw[e0]
 simp (maxDischargeDepth:=6) only[hb,hbb,hs,ruW,putL,Nat.reduceLeDiff,xF,ruU,entryE,Nat.reduceLT,Nat.reduceAdd,Nat.reduceMul,Nat.reduceEqDiff]
 rw[←e0]
 obtain⟨X,hX⟩:∃ X,ext H [⟨24,false,[v,.int .i64 r,.int .i64 c]⟩,⟨24,false,[.slice none 0 0,.int .i64 0,.int .i64 0]⟩]=X:=⟨_,rfl⟩
 have mX:Mod [] H X:=hX▸Mod.ext hok
 have nX:X.next=b+2:=by rw[←hX,ext_next,hb]; rfl
 have k0:bk X (b+0)=some ⟨24,false,[v,.int .i64 r,.int .i64 c]⟩:=by rw[←hX,bk_at hb (by simp)]; rfl
 have k1:bk X (b+1)=some ⟨24,false,[.slice none 0 0,.int .i64 0,.int .i64 0]⟩:=by rw[←hX,bk_at hb (by simp)]; rfl
 have okX:=mX.ok hok
 have gX:GridAt X v g:=hX▸hg.ext
 have sX:GridSc X v:=fun n off s len c' b' e' hb'=>by
  have hn:n<H.next:=by rw[e']at hs'; have:=hs'; simp only[scb]at this; rw[hb]; exact Nat.lt_of_succ_le (zA7 this)
  rw[←hX,rk_old hn]at hb'
  exact scbL_mono mX.next _ (hsg n off s len c' b' e' hb')
 rw[hX]
 have hck:=refCheck39_c X v g r c gX (fun l hl=>by have:=hw l hl; omega) (by omega)
 rw[hk]at hck
 rw[show X=ext X [] from rfl]
 refine hck.to ?_
 rw[show X=ext X [] from rfl]
 have l0:b+0<b+2:=by omega
 have l1:b+1<b+2:=by omega
 by_cases hk0:k=0
 ·have hd:decide (¬k=0)=false:=by simp[hk0]
  rw[hk0]at hk
  obtain⟨ok,hne,hgne⟩:=chk_ok hk
  obtain⟨W,hW⟩:∃ W,widG g=W:=⟨_,rfl⟩
  rw[hW]at ok
  obtain⟨F,hF,hFG⟩:=gX.foot hgne
  have hrn:=restrict_next X F
  obtain⟨gR,sR⟩:=hFG (X.restrict F) (by rw[hrn.1]; exact zA5 _) (fun n hn=>by rw[restrict_get,if_pos hn])
  obtain⟨_,gg,hcc,u,rvs,rfl,gr,mg⟩:=copyScreen_c (X.restrict F) v g r c gR (by rw[hrn.1,hrn.2.1]; exact zA5 _) (by rw[hrn.1,nX]; exact scb_mono (by omega) _ hs') (sR sX) hw hgl
  rw[hrn.1]at gr
  simp (maxDischargeDepth:=6) only[hd,ruW,putL,Nat.reduceLeDiff,xF,ruU,entryE,Nat.reduceLT,Nat.reduceAdd,Nat.reduceMul,Nat.reduceEqDiff]
  refine w_drawB [(10,1),(12,11),(12,10),(12,1)] [] (by kernel_rfl) (by kernel_rfl) rfl fun ops anc hA hG=>?_
  simp only[all2_cons]at hA
  simp (maxDischargeDepth:=6) only[nX,k0,l0,hA,ruD,ruW,putL,Nat.reduceLeDiff,xF,ruU,entryE,Nat.reduceLT,Nat.reduceAdd,Nat.reduceMul,Nat.reduceEqDiff]
  refine genV_mod (H:=ext X []) (W:=[]) F okX (by simp only[ruU,entryE,Nat.reduceLT,Nat.reduceAdd,Nat.reduceMul,Nat.reduceEqDiff]) (by kernel_rfl) (fun n hn=>(hF n hn).1) (fun n hn=>(hF n hn).2) (fun _ h=>by simp at h) (v:=.agg ⟨[u,.int .i64 r,.int .i64 c]⟩) (g:=gg) (by simp only[ruU,entryE,Nat.reduceLT,Nat.reduceAdd,Nat.reduceMul,Nat.reduceEqDiff]; exact hcc) mg (by simp only[all2_cons,all2_nil,hA,true_or,and_true]; simp) ?_
  intro Z D mZ hFZ hNZ hnZ hDZ
  have hD0:D=[]:=List.eq_nil_iff_forall_not_mem.2 (fun q hq=>by simpa using hDZ q hq)
  subst hD0
  replace mZ:Mod [] X Z:=mZ
  replace hNZ:∀ m,X.next≤m→m<gg.next→Z.get m=gg.get m:=hNZ
  have grZ:Grow (b+2) Z u rvs g:=by
   have:=gr.of (Y:=Z) (by omega) (fun n hn hm=>hNZ n (by
    rcases zB1.1 hm with hm|hm
    ·exact (gr.apart n hm).1
    ·exact (gr.ids n hm).1) hn)
   rw[nX]at this
   exact this
  obtain⟨au,eu⟩:=grZ.at_.len
  have hsu:=grZ.at_.sc
  have slu:Slc u:=by
   obtain⟨_,_,⟨h0,_⟩|⟨_,n,e,_⟩⟩:=grZ.at_
   ·exact absurd (List.length_eq_zero_iff.1 h0) hgne
   ·exact⟨n,_,e⟩
  have okZ:=mZ.ok okX
  obtain⟨zn,hzn⟩:∃ z,Z.next=z:=⟨_,rfl⟩
  have hzb:Z.base≤zn:=hzn▸okZ
  have hz2:b+2≤zn:=by have:=mZ.next; omega
  have kz0:bk Z (b+0)=_:=(mZ.bk (by omega) (by simp)).trans k0
  have kz1:bk Z (b+1)=_:=(mZ.bk (by omega) (by simp)).trans k1
  have hg2:gg.next=zn:=by omega
  have l0z:b+0<zn:=by omega
  rw[hzn]at hsu
  rw[eu]at hsu
  rw[show Z=ext Z [] from rfl,eu]
  simp (maxDischargeDepth:=6) only[hzn,hzb,kz0,l0z,hg2,hsu,nX,hA,ruD,ruW,putL,Nat.reduceLeDiff,xF,ruU,entryE,Nat.reduceLT,Nat.reduceAdd,Nat.reduceMul,Nat.reduceEqDiff]
  rw[←eu]
  obtain⟨Y1,hY1⟩:∃ Y1,ext Z [⟨79,false,(St.start g r c).cells u⟩]=Y1:=⟨_,rfl⟩
  have mY1:Mod [] Z Y1:=hY1▸Mod.ext okZ
  have nY1:Y1.next=zn+1:=by rw[←hY1,ext_next,hzn]; rfl
  have kp:bk Y1 (zn+0)=some ⟨79,false,(St.start g r c).cells u⟩:=by rw[←hY1,bk_at hzn (by simp)]; rfl
  have mHZ:Mod [] H Z:=mX.trans mZ
  have mHY:Mod [] H Y1:=mHZ.trans mY1
  have aY1:StAt 79 (b+2) Y1 (zn+0) u rvs (St.start g r c):=by
   have own:=grZ.own
   refine⟨kp,own.of mY1.next fun n h1 h2 h3=>mY1.get n h2 (by simp),fun h=>?_,by omega,by omega⟩
   rcases zB1.1 h with h|h
   ·have:=(own.idv _ h).2.1; omega
   ·have:=(own.ids _ h).2.1; omega
  refine⟨.inr fun _=>⟨.inr (by omega),by simp[idsV]⟩,?_⟩
  obtain⟨Y1,hY1⟩:∃ Y1,ext Z [⟨79,false,(St.start g r c).cells u⟩]=Y1:=⟨_,rfl⟩
  have mY1:Mod [] Z Y1:=hY1▸Mod.ext okZ
  have nY1:Y1.next=zn+1:=by rw[←hY1,ext_next,hzn]; rfl
  have kp:bk Y1 (zn+0)=some ⟨79,false,(St.start g r c).cells u⟩:=by rw[←hY1,bk_at hzn (by simp)]; rfl
  have mHZ:Mod [] H Z:=mX.trans mZ
  have mHY:Mod [] H Y1:=mHZ.trans mY1
  have okY1:=mY1.ok okZ
  have aY1:StAt 79 (b+2) Y1 (zn+0) u rvs (St.start g r c):=by
   have own:=grZ.own
   refine⟨kp,own.of mY1.next fun n h1 h2 h3=>mY1.get n h2 (by simp),fun h=>?_,by omega,by omega⟩
   rcases zB1.1 h with h|h
   ·have:=(own.idv _ h).2.1; omega
   ·have:=(own.ids _ h).2.1; omega
  simp only[St.start,St.cells]at hY1
  rw[hY1]
  refine w_env fun E hE=>?_
  have g1:E 1=ov:=by rw[hE]; simp only[ruU,entryE,Nat.reduceLT,Nat.reduceAdd,Nat.reduceMul,Nat.reduceEqDiff]
  have g4:E 4=.pointer (some ⟨b+1,0,none⟩):=by rw[hE]; simp only[ruU,entryE,Nat.reduceLT,Nat.reduceAdd,Nat.reduceMul,Nat.reduceEqDiff]
  have g8:E 8=.pointer (some ⟨zn+0,0,none⟩):=by rw[hE]; simp only[ruU,entryE,Nat.reduceLT,Nat.reduceAdd,Nat.reduceMul,Nat.reduceEqDiff]
  have g9:E 9=.int .i64 ((0:Nat):Int):=by rw[hE]; (simp only[ruU,entryE,Nat.reduceLT,Nat.reduceAdd,Nat.reduceMul,Nat.reduceEqDiff]<;>rfl)
  clear hE
  have keep:∀ Y,ModN (b+2) Y1 Y→bk Y (b+1)=some ⟨24,false,[.slice none 0 0,.int .i64 0,.int .i64 0]⟩:=fun Y mY=>by
   obtain⟨Ws,h1,m1⟩:=mY
   exact (m1.bk (by omega) fun h=>by have:=(h1 _ h).1; omega).trans ((mY1.bk (by omega) (by simp)).trans kz1)
  obtain⟨ao,co,eo⟩:=hl.sl
  refine blockC_meet (fun E' Y=>ModN (b+2) Y1 Y∧E' 4=.pointer (some ⟨b+1,0,none⟩)∧E' 8=.pointer (some ⟨zn+0,0,none⟩)∧∃ y u2 rvs2,St.all W ptsR l 0 (St.start g r c)=.inl y∧Slc u2∧StAt 79 (b+2) Y (zn+0) u2 rvs2 y) ?_ ?_
  ·refine w_loop (fun (q:Nat × St × Value × List Value) E' Y=>ModN (b+2) Y1 Y∧E' 1=ov∧E' 4=.pointer (some ⟨b+1,0,none⟩)∧E' 8=.pointer (some ⟨zn+0,0,none⟩)∧E' 9=.int .i64 (q.1:Int)∧q.1≤l.length∧St.all W ptsR (l.drop q.1) q.1 q.2.1=St.all W ptsR l 0 (St.start g r c)∧q.2.1.Ok W∧Slc q.2.2.1∧StAt 79 (b+2) Y (zn+0) q.2.2.1 q.2.2.2 q.2.1) (fun q=>l.length-q.1) (0,St.start g r c,u,rvs)
    ⟨ModN.refl,g1,g4,g8,g9,zB0 _,rfl,ok,slu,aY1⟩ ?_
   clear g1 g4 g8 g9
   rintro⟨k',y,u',us⟩ E Y ⟨mY,g1,g4,g8,g9,hk',hall,oky,slu',aY⟩
   simp only at g9 hk' hall oky slu' aY
   rw[show Y=ext Y [] from rfl]
   have g1':=g1
   rw[eo]at g1'
   by_cases hkl:k'=l.length
   ·have hc:decide ((k':Int)<(l.length:Int))=false:=by simp[hkl]
    simp (maxDischargeDepth:=6) only[g1',g9,hc,ruW,putL,Nat.reduceLeDiff,xF,ruU,entryE,Nat.reduceLT,Nat.reduceAdd,Nat.reduceMul,Nat.reduceEqDiff]
    rw[zE3 (by omega),St.all]at hall
    exact joinR_normal ⟨mY,by simp only[g4,ruU,entryE,Nat.reduceLT,Nat.reduceAdd,Nat.reduceMul,Nat.reduceEqDiff],by simp only[g8,ruU,entryE,Nat.reduceLT,Nat.reduceAdd,Nat.reduceMul,Nat.reduceEqDiff],y,u',us,hall.symm,slu',aY⟩
   ·have hlt:k'<l.length:=by omega
    have hc:decide ((k':Int)<(l.length:Int))=true:=decide_eq_true (by omega)
    obtain⟨o,ho⟩:∃ o,l[k']?=some o:=⟨_,zA6 hlt⟩
    have okY:=mY.ok okY1
    obtain⟨yn,hyn⟩:∃ n,Y.next=n:=⟨_,rfl⟩
    have hyz:zn+1≤yn:=by have:=mY.next; omega
    have mHYf:Mod [] H Y:=mY.mod mHY hok (by omega)
    have hlY:=hl.mod0 mHYf
    rcases hlY with⟨h,_⟩|⟨hne',no,off,so,co',eo1,oo,L,eov,hrk,hno,hle,hop⟩
    ·rw[h]at hlt; simp at hlt
    have hnoy:no<yn:=by omega
    have ia:=op_ia (len:=l.length) (cap:=co') (n:=no) (off:=off) (s:=so) (i:=(k':Int)) rfl hlt
    have ld:=op_load (e:=eo1) (o:=oo) ho hle hop
    rw[eov]at g1
    simp (maxDischargeDepth:=6) only[g1,g8,g9,hc,hyn,hnoy,ia,hrk,ld,qk_old,ruW,putL,Nat.reduceLeDiff,xF,ruU,entryE,Nat.reduceLT,Nat.reduceAdd,Nat.reduceMul,Nat.reduceEqDiff]
    refine (does_s (b+2) (ext Y []) (zn+0) W u' us y o aY slu' okY oky (h56 o (zB9 ho))).mono ?_
    rintro _ Y2 ⟨mY2,rfl,hsome⟩
    have mYY:=mY.trans mY2
    have okY2:=mY2.ok okY
    obtain⟨y2n,hy2n⟩:∃ n,Y2.next=n:=⟨_,rfl⟩
    have hyz2:zn+1≤y2n:=by have:=mYY.next; omega
    have k9:=keep Y2 mYY
    have l9:b+1<y2n:=by omega
    rw[show Y2=ext Y2 [] from rfl]
    cases hd:y.does W ptsR o with
    |none =>
     have hstop:=all_stop (W:=W) l k' k' y o ho hd
     rw[hstop]at hall
     simp (maxDischargeDepth:=6) only[g4,g9,hy2n,k9,l9,Option.isSome_none,zC0,joinR_ret,Tryd.results23,ruW,putL,Nat.reduceLeDiff,xF,ruU,entryE,Nat.reduceLT,Nat.reduceAdd,Nat.reduceMul,Nat.reduceEqDiff]
     have mU:Mod [b+1] Y2 (uw Y2 (b+1) 0 [.slice none 0 0,.int .i64 0,.int .i64 0]):=Mod.uw (by simp)
     refine⟨(mYY.mod mHY hok (by omega)).step mU hok (fun n hn=>.inr (by simp only[zA4]at hn; omega)),?_⟩
     rw[if_pos hk,hW,←hall]
    |some y2 =>
     rw[all_drop l k' k' y y2 o ho hd]at hall
     obtain⟨v2,us2,sl2,a2⟩:=hsome y2 hd
     simp (maxDischargeDepth:=6) only[g9,Option.isSome_some,zB5,wrap_succ (show k'<1000000 by omega),ruW,putL,Nat.reduceLeDiff,xF,ruU,entryE,Nat.reduceLT,Nat.reduceAdd,Nat.reduceMul,Nat.reduceEqDiff]
     refine loopC_next ⟨(k'+1,y2,v2,us2),by simp only; omega,mYY,?_,?_,?_,?_,by simp only; omega,hall,does_ok oky hd,sl2,a2⟩
     ·simp only[g1,eov,ruU,entryE,Nat.reduceLT,Nat.reduceAdd,Nat.reduceMul,Nat.reduceEqDiff]
     ·simp only[g4,ruU,entryE,Nat.reduceLT,Nat.reduceAdd,Nat.reduceMul,Nat.reduceEqDiff]
     ·simp only[g8,ruU,entryE,Nat.reduceLT,Nat.reduceAdd,Nat.reduceMul,Nat.reduceEqDiff]
     ·simp only[ruU,entryE,Nat.reduceLT,Nat.reduceAdd,Nat.reduceMul,Nat.reduceEqDiff]
  ·rintro E Y ⟨mY,e4,e8,y,u2,rvs2,hall,sl2,a2⟩
   rw[show Y=ext Y [] from rfl]
   have oky:=all_ok l 0 _ y ok hall
   have okY:=mY.ok okY1
   have mHYf:Mod [] H Y:=mY.mod mHY hok (by omega)
   obtain⟨yn,hyn⟩:∃ n,Y.next=n:=⟨_,rfl⟩
   have hzy:zn+1≤yn:=by have:=mY.next; omega
   have l1y:b+1<yn:=by omega
   have ky1:=keep Y mY
   have kpy:=a2.cell
   simp only[St.cells]at kpy
   have lpy:zn+0<yn:=by omega
   simp (maxDischargeDepth:=6) only[e8,hyn,lpy,kpy,ruW,putL,Nat.reduceLeDiff,xF,ruU,entryE,Nat.reduceLT,Nat.reduceAdd,Nat.reduceMul,Nat.reduceEqDiff]
   obtain⟨a3,m3⟩:=a2.putU (y:={y with sr:=-1}) okY (off:=1) (vs:=[.int .i64 (-1)]) (L:=[]) rfl rfl
   obtain⟨a4,m4⟩:=a3.putU (y:={y with sr:=-1,sc:=0}) (m3.ok okY) (off:=2) (vs:=[.int .i64 0]) (L:=[]) rfl rfl
   have ok4:=m4.ok (m3.ok okY)
   have m34:Mod [zn+0] Y (ext (uw (uw Y (zn+0) 1 [.int .i64 (-1)]) (zn+0) 2 [.int .i64 0]) []):=m3.trans m4
   generalize hY4:ext (uw (uw Y (zn+0) 1 [.int .i64 (-1)]) (zn+0) 2 [.int .i64 0]) []=Y4 at a4 ok4 m34 ⊢
   replace a4:StAt 79 (b+2) Y4 (zn+0) u2 rvs2 {y with sr:=-1,sc:=0}:=hY4▸a4
   replace ok4:Y4.base≤Y4.next:=hY4▸ok4
   rw[show Y4=ext Y4 [] from rfl]
   refine condC_meet (fun E' Z2=>Mod [zn+0] Y Z2∧E' 4=.pointer (some ⟨b+1,0,none⟩)∧E' 8=.pointer (some ⟨zn+0,0,none⟩)∧StAt 79 (b+2) Z2 (zn+0) u2 rvs2 {y with sr:=y.atR,sc:=y.atC W}) ?_ ?_
   ·have oky4:St.Ok {y with sr:=-1,sc:=0} W:=⟨oky.h1,oky.h2,oky.w1,oky.w2,oky.wid,oky.row0,oky.row1,oky.col0,oky.col1⟩
    obtain⟨m,s1,c1,o1,n0,s0,c0',eu4,hmb,hml,_,hmp,hrv⟩:=a4.first oky4
    have i0:=grid_ia (n:=m) (off:=0) (s:=s1) (cap:=c1) (i:=((0:Nat):Int)) (len:=y.grid.length) rfl (by have:=oky.h1; omega)
    rw[show ((0:Nat):Int)=0 from rfl]at i0
    have q0:ldB Tryd.prog 56 (0+0) (some ⟨56,o1,rvs2⟩)=some (.slice (some ⟨n0,0,s0⟩) W c0'):=grid_load (by rw[zC2]; exact hrv)
    rw[zD3]at i0 q0
    have n4:Y4.next=yn:=by rw[←hY4,ext_next,uw_next,uw_next,hyn]; rfl
    have k4:=a4.cell
    simp only[St.cells]at k4
    rw[eu4]at k4
    have hml4:m<yn:=by omega
    cases hsh:y.shown with
    |false =>
     have e1:y.atR=-1:=by simp[St.atR,hsh]
     have e2:y.atC W=0:=by simp[St.atC,hsh]
     rw[e1,e2]
     simp (maxDischargeDepth:=6) only[ruW,putL,Nat.reduceLeDiff,xF,ruU,entryE,Nat.reduceLT,Nat.reduceAdd,Nat.reduceMul,Nat.reduceEqDiff]
     rw[hsh]at a4
     exact joinR_normal ⟨m34,by simp only[e4,ruU,entryE,Nat.reduceLT,Nat.reduceAdd,Nat.reduceMul,Nat.reduceEqDiff],by simp only[e8,ruU,entryE,Nat.reduceLT,Nat.reduceAdd,Nat.reduceMul,Nat.reduceEqDiff],a4⟩
    |true =>
     have e1:y.atR=y.row:=by simp[St.atR,hsh]
     have e2:y.atC W=min y.col ((W:Int)-1):=by simp[St.atC,hsh]
     have hw1:IntKind.i64.wrap ((W:Int)-1)=(W:Int)-1:=wrap_sm (by have:=oky.w1; omega) (by have:=oky.w2; omega)
     rw[e1,e2]
     simp (maxDischargeDepth:=6) only[ruW,putL,Nat.reduceLeDiff,xF,ruU,entryE,Nat.reduceLT,Nat.reduceAdd,Nat.reduceMul,Nat.reduceEqDiff]
     refine w_drawB [(14,1),(14,3),(14,6),(14,8),(17,14),(17,1),(17,3),(17,6),(17,8)] [] (by kernel_rfl) (by kernel_rfl) rfl fun ops anc hA hG=>?_
     simp only[all2_cons]at hA
     simp (maxDischargeDepth:=6) only[e8,n4,lpy,k4,hml4,hmb,i0,q0,hw1,hA,ruD,ruW,putL,Nat.reduceLeDiff,xF,ruU,entryE,Nat.reduceLT,Nat.reduceAdd,Nat.reduceMul,Nat.reduceEqDiff]
     obtain⟨a5,m5⟩:=a4.putU (y:={y with sr:=y.row,sc:=0}) ok4 (off:=1) (vs:=[.int .i64 y.row]) (L:=[]) rfl rfl
     obtain⟨a6,m6⟩:=a5.putU (y:={y with sr:=y.row,sc:=min y.col ((W:Int)-1)}) (m5.ok ok4) (off:=2) (vs:=[.int .i64 (min y.col ((W:Int)-1))]) (L:=[]) rfl rfl
     rw[hsh]at a6
     exact joinR_normal ⟨m34.trans (m5.trans m6),by simp only[e4,ruU,entryE,Nat.reduceLT,Nat.reduceAdd,Nat.reduceMul,Nat.reduceEqDiff],by simp only[e8,ruU,entryE,Nat.reduceLT,Nat.reduceAdd,Nat.reduceMul,Nat.reduceEqDiff],a6⟩
   ·rintro E Z2 ⟨m2,e4,e8,a7⟩
    have okZ2:=m2.ok okY
    obtain⟨z2,hz2n⟩:∃ n,Z2.next=n:=⟨_,rfl⟩
    have hyz2:yn≤z2:=by have:=m2.next; omega
    have k7:=a7.cell
    simp only[St.cells]at k7
    have l7:zn+0<z2:=by omega
    have l8:b+1<z2:=by omega
    have k8:=(m2.bk (n:=b+1) (by omega) (by simp only[zA4]; omega)).trans ky1
    obtain⟨nu,hu,eu2⟩:=sl2
    have hnu:nu<z2:=by
     have:=(a7.own.idv nu (by rw[eu2]; simp[idsV])).2.1
     omega
    have hsu2:scb z2 u2=true:=by rw[eu2]; exact blt_of hnu
    rw[show Z2=ext Z2 [] from rfl]
    rw[eu2]at k7 hsu2
    simp (maxDischargeDepth:=6) only[e4,e8,hz2n,l7,l8,k7,k8,hsu2,Tryd.results23,ruW,putL,Nat.reduceLeDiff,xF,ruU,entryE,Nat.reduceLT,Nat.reduceAdd,Nat.reduceMul,Nat.reduceEqDiff]
    rw[←eu2]
    have mU:Mod [b+1] Z2 (uw Z2 (b+1) 0 [u2,.int .i64 y.atR,.int .i64 (y.atC W)]):=Mod.uw (by simp)
    have mHZ2:Mod [] H Z2:=mHYf.step m2 hok (fun n hn=>.inr (by simp only[zA4]at hn; omega))
    refine⟨mHZ2.step mU hok (fun n hn=>.inr (by simp only[zA4]at hn; omega)),?_⟩
    rw[if_pos hk,hW,hall]
    refine⟨u2,rvs2,b+2,rfl,by omega,a7.own.of mU.next fun n h1 h2 h3=>mU.get n h2 (by simp only[zA4]; omega)⟩
 ·have hd:decide (¬k=0)=true:=by simp[hk0]
  simp (maxDischargeDepth:=6) only[hd,nX,k0,k1,l0,l1,Tryd.results23,ruW,putL,Nat.reduceLeDiff,xF,ruU,entryE,Nat.reduceLT,Nat.reduceAdd,Nat.reduceMul,Nat.reduceEqDiff]
  have mU:Mod [b+1] X (uw X (b+1) 0 [.slice none 0 0,.int .i64 0,.int .i64 0]):=Mod.uw (by simp)
  refine⟨mX.step mU hok (fun n hn=>.inr (by simp only[zA4]at hn; omega)),?_⟩
  rw[if_neg (by rw[hk]; exact hk0),hk]
def OpsA (H:AHeap) (g h:List (List Ce)) (r c r2 c2:Int) (out:Out) (X:AHeap):Prop :=
 Mod [] H X∧∃ v',out=.ok (.tuple #[v',.int .i64 (opsV g h r c r2 c2).2])∧OpsW X v' (opsV g h r c r2 c2).1∧∀ n∈idsV v',H.next≤n
theorem opsV_1 {g h:List (List Ce)} {r c r2 c2:Int} (h1:¬chkR g r c=0):opsV g h r c r2 c2=([],chkR g r c):=by rw[opsV,if_pos h1]
theorem opsV_2 {g h:List (List Ce)} {r c r2 c2:Int} (h1:chkR g r c=0) (h2:¬chkR h r2 c2=0):opsV g h r c r2 c2=([],chkR h r2 c2):=by rw[opsV,if_neg (fun k=>k h1),if_pos h2]
theorem opsV_3 {g h:List (List Ce)} {r c r2 c2:Int} (h1:chkR g r c=0) (h2:chkR h r2 c2=0) (h3:g.length≠h.length∨widG g≠widG h):opsV g h r c r2 c2=([],3):=by rw[opsV,if_neg (fun k=>k h1),if_neg (fun k=>k h2),if_pos h3]
theorem opsV_4 {g h:List (List Ce)} {r c r2 c2:Int} (h1:chkR g r c=0) (h2:chkR h r2 c2=0) (h3:g.length=h.length) (h4:widG g=widG h):opsV g h r c r2 c2=(opsR g h r c r2 c2,0):=by
 rw[opsV,if_neg (fun k=>k h1),if_neg (fun k=>k h2),if_neg (fun k=>k.elim (fun k=>k h3) (fun k=>k h4))]
theorem OpsA.err {H X:AHeap} {g h:List (List Ce)} {r c r2 c2 e:Int} (m:Mod [] H X) (he:opsV g h r c r2 c2=([],e)):OpsA H g h r c r2 c2 (.ok (.tuple #[.slice none 0 0,.int .i64 e])) X :=
 ⟨m,.slice none 0 0,by rw[he],by rw[he]; exact OpsW.nil,fun n hn=>by simp[idsV]at hn⟩
theorem WrAt.low {N q:Nat} {F:List Nat} {H U:AHeap} {p:Nat} {v:Value} {l:List Op} {k:Lk} (a:WrAt N F H p v l k) (m:Mod [q] H U) (hq:q<N):WrAt N F U p v l k:=by
 have h1:=a.lo
 exact⟨(m.bk a.lt (by simp only[zA4]; omega)).trans a.cell,a.ops.of m.next fun n hn=>m.get n (a.ops.ne n hn).2 (by simp only[zA4]; have:=(a.ids n hn).1; omega),a.apart,m.lt a.lt,a.lo,a.pF,a.ids,fun n hn=>m.lt (a.fl n hn)⟩
theorem ia61 {x k:Nat} {i:Int} (hi:i=k) (hk:k<2):aIndexAddr Tryd.prog 61 (.slice (some ⟨x,0,some 0⟩) 2 2) (.int .i64 i)=some (.pointer (some ⟨x,0+k*3,none⟩)):=by
 subst hi
 rw[ia_slice (e:=24) (sz:=3) (by kernel_rfl) (by kernel_rfl) (by omega) (by omega)]
 simp
theorem ld61_0 {a b c d e f:Value}:ldB Tryd.prog 24 (0+0*3) (some ⟨24,false,[a,b,c,d,e,f]⟩)=some (.agg ⟨[a,b,c]⟩):=by
 have h1:aggT Tryd.prog 24=some true:=by kernel_rfl
 have h2:szOf Tryd.prog 24=some 3:=by kernel_rfl
 simp only[ldB,h1,h2,zA3]
 rfl
theorem ld61_1 {a b c d e f:Value}:ldB Tryd.prog 24 (0+1*3) (some ⟨24,false,[a,b,c,d,e,f]⟩)=some (.agg ⟨[d,e,f]⟩):=by
 have h1:aggT Tryd.prog 24=some true:=by kernel_rfl
 have h2:szOf Tryd.prog 24=some 3:=by kernel_rfl
 simp only[ldB,h1,h2,zA3]
 rfl
theorem ops13_c (H:AHeap) (u1 u2:Value) (g h:List (List Ce)) (r c r2 c2:Int) (h1:GridS H u1 g) (h2:GridS H u2 h) (hok:H.base≤H.next) (hg12:g.length≤12) (hgw:∀ l∈g,l.length≤60) (hh12:h.length≤12) (hhw:∀ l∈h,l.length≤60) (hs1:scb H.next u1=true) (hs2:scb H.next u2=true) :
  CallA Tryd.prog 13 [.agg ⟨[u1,.int .i64 r,.int .i64 c]⟩,.agg ⟨[u2,.int .i64 r2,.int .i64 c2]⟩] H (OpsA H g h r c r2 c2):=by
 obtain⟨x,hx⟩:∃ x,H.next=x:=⟨_,rfl⟩
 have hxb:H.base≤x:=hx▸hok
 obtain⟨a1,b1,e1⟩:=h1.at_.sl
 obtain⟨a2,b2,e2⟩:=h2.at_.sl
 rw[hx]at hs1 hs2
 have hs1':=hs1
 have hs2':=hs2
 rw[e1]at hs1'
 rw[e2]at hs2'
 refine callE_fn mixed Tryd.func13 rfl Tryd.ntmps13 (zA7 rfl) ?_
 rw[e1,e2]
 simp (maxDischargeDepth:=6) only[hx,hxb,hs1',hs2',xD,ruW,putL,Nat.reduceLeDiff,xF,ruU,entryE,Nat.reduceLT,Nat.reduceAdd,Nat.reduceMul,Nat.reduceEqDiff]
 rw[←e1,←e2]
 refine w_env fun E hE=>?_
 have g2:E 2=.pointer (some ⟨x+0,0,none⟩):=by rw[hE]; simp only[ruU,entryE,Nat.reduceLT,Nat.reduceAdd,Nat.reduceMul,Nat.reduceEqDiff]
 have g3:E 3=.pointer (some ⟨x+1,0,none⟩):=by rw[hE]; simp only[ruU,entryE,Nat.reduceLT,Nat.reduceAdd,Nat.reduceMul,Nat.reduceEqDiff]
 have g16:E 16=.slice (some ⟨x+2,0,some 0⟩) 2 2:=by rw[hE]; simp only[ruU,entryE,Nat.reduceLT,Nat.reduceAdd,Nat.reduceMul,Nat.reduceEqDiff]
 have g17:E 17=.int .i64 2:=by rw[hE]; (simp only[ruU,entryE,Nat.reduceLT,Nat.reduceAdd,Nat.reduceMul,Nat.reduceEqDiff]<;>rfl)
 have g18:E 18=.int .i64 ((0:Nat):Int):=by rw[hE]; (simp only[ruU,entryE,Nat.reduceLT,Nat.reduceAdd,Nat.reduceMul,Nat.reduceEqDiff]<;>rfl)
 clear hE
 generalize hX:ext H _=X
 have mX:Mod [] H X:=hX▸Mod.ext hok
 have nX:X.next=x+3:=by rw[←hX,ext_next,hx]; rfl
 have bX0:bk X (x+0)=some ⟨24,false,[u1,.int .i64 r,.int .i64 c]⟩:=by rw[←hX,bk_at hx (by simp)]; rfl
 have bX1:bk X (x+1)=some ⟨24,false,[u2,.int .i64 r2,.int .i64 c2]⟩:=by rw[←hX,bk_at hx (by simp)]; rfl
 have bX2:bk X (x+2)=some ⟨24,false,[u1,.int .i64 r,.int .i64 c,u2,.int .i64 r2,.int .i64 c2]⟩:=by rw[←hX,bk_at hx (by simp)]; rfl
 clear hX
 refine blockC_meet (fun E' Y=>E' 2=.pointer (some ⟨x+0,0,none⟩)∧E' 3=.pointer (some ⟨x+1,0,none⟩)∧Mod [] H Y∧x+3≤Y.next∧bk Y (x+0)=some ⟨24,false,[u1,.int .i64 r,.int .i64 c]⟩∧bk Y (x+1)=some ⟨24,false,[u2,.int .i64 r2,.int .i64 c2]⟩∧chkR g r c=0∧chkR h r2 c2=0) ?_ ?_
 ·refine w_loop (fun (k:Nat) E' Y=>E' 2=.pointer (some ⟨x+0,0,none⟩)∧E' 3=.pointer (some ⟨x+1,0,none⟩)∧E' 16=.slice (some ⟨x+2,0,some 0⟩) 2 2∧E' 17=.int .i64 2∧E' 18=.int .i64 (k:Int)∧k≤2∧Mod [] H Y∧Mod [] X Y∧x+3≤Y.next∧(0<k→chkR g r c=0)∧(1<k→chkR h r2 c2=0)) (fun k=>2-k) 0
   ⟨g2,g3,g16,g17,g18,by omega,mX,Mod.refl,by omega,by omega,by omega⟩ ?_
  clear g2 g3 g16 g17 g18 E
  rintro k E Y ⟨g2,g3,g16,g17,g18,hk,mY,mXY,yl,hc1,hc2⟩
  have okY:=mY.ok hok
  obtain⟨y,hy⟩:∃ y,Y.next=y:=⟨_,rfl⟩
  have hyb:Y.base≤y:=hy▸okY
  have bY0:=(mXY.bk (n:=x+0) (by omega) (by simp)).trans bX0
  have bY1:=(mXY.bk (n:=x+1) (by omega) (by simp)).trans bX1
  have bY2:=(mXY.bk (n:=x+2) (by omega) (by simp)).trans bX2
  have l2:x+2<y:=by omega
  rw[show Y=ext Y [] from rfl]
  match k,hk,hc1,hc2,g18 with
  |2,_,hc1,hc2,g18 =>
   have hd:decide (((2:Nat):Int)<2)=false:=by decide
   simp (maxDischargeDepth:=6) only[g2,g3,g16,g17,g18,hd,xD,ruW,putL,Nat.reduceLeDiff,xF,ruU,entryE,Nat.reduceLT,Nat.reduceAdd,Nat.reduceMul,Nat.reduceEqDiff]
   exact joinR_normal ⟨by simp only[g2,ruU,entryE,Nat.reduceLT,Nat.reduceAdd,Nat.reduceMul,Nat.reduceEqDiff],by simp only[g3,ruU,entryE,Nat.reduceLT,Nat.reduceAdd,Nat.reduceMul,Nat.reduceEqDiff],mY,yl,bY0,bY1,hc1 (by omega),hc2 (by omega)⟩
  |0,_,_,_,g18 =>
   have hd:decide (((0:Nat):Int)<2)=true:=by decide
   have ia:=ia61 (x:=x+2) (k:=0) (i:=((0:Nat):Int)) rfl (by omega)
   have hsu:scb y (.slice a1 g.length b1)=true:=scb_mono (by omega) _ hs1'
   have bY2':=bY2
   rw[e1]at bY2'
   simp (maxDischargeDepth:=6) only[g2,g3,g16,g17,g18,hy,hyb,hd,bY2',l2,ia,ld61_0,qk_old,hsu,xD,ruW,putL,Nat.reduceLeDiff,xF,ruU,entryE,Nat.reduceLT,Nat.reduceAdd,Nat.reduceMul,Nat.reduceEqDiff]
   rw[←e1]
   generalize hV:ext Y _=V
   have mV:Mod [] Y V:=hV▸Mod.ext okY
   have nV:V.next=y+1:=by rw[←hV,ext_next,hy]; rfl
   have bV:bk V (y+0)=some ⟨24,false,[u1,.int .i64 r,.int .i64 c]⟩:=by rw[←hV,bk_at hy (by simp)]; rfl
   clear hV
   have lV:y+0<y+1:=by omega
   have mHV:=mY.trans mV
   rw[show V=ext V [] from rfl]
   obtain⟨e,he⟩:∃ e,chkR g r c=e:=⟨_,rfl⟩
   have hck:=check39_c (ext V []) u1 g r c (h1.at_.mod0 mHV) (fun l hl=>by have:=hgw l hl; omega) (by omega)
   rw[he]at hck
   refine hck.to ?_
   obtain⟨d,hd⟩:∃ d,decide (¬e=0)=d:=⟨_,rfl⟩
   cases d with
   |true =>
    have hne:=of_decide_eq_true hd
    simp (maxDischargeDepth:=6) only[g2,g3,g16,g17,g18,hd,joinR_ret,Tryd.results13,xD,ruW,putL,Nat.reduceLeDiff,xF,ruU,entryE,Nat.reduceLT,Nat.reduceAdd,Nat.reduceMul,Nat.reduceEqDiff]
    exact OpsA.err mHV ((opsV_1 (by rw[he]; exact hne)).trans (by rw[he]))
   |false =>
    have h0:e=0:=by simpa using of_decide_eq_false hd
    rw[h0]at he
    simp (maxDischargeDepth:=6) only[g2,g3,g16,g17,g18,hd,xD,ruW,putL,Nat.reduceLeDiff,xF,ruU,entryE,Nat.reduceLT,Nat.reduceAdd,Nat.reduceMul,Nat.reduceEqDiff]
    refine loopC_next ⟨1,by omega,by simp only[g2,ruU,entryE,Nat.reduceLT,Nat.reduceAdd,Nat.reduceMul,Nat.reduceEqDiff],by simp only[g3,ruU,entryE,Nat.reduceLT,Nat.reduceAdd,Nat.reduceMul,Nat.reduceEqDiff],by simp only[g16,ruU,entryE,Nat.reduceLT,Nat.reduceAdd,Nat.reduceMul,Nat.reduceEqDiff],by simp only[g17,ruU,entryE,Nat.reduceLT,Nat.reduceAdd,Nat.reduceMul,Nat.reduceEqDiff],by simp only[ruU,entryE,Nat.reduceLT,Nat.reduceAdd,Nat.reduceMul,Nat.reduceEqDiff]<;>rfl,by omega,mHV,mXY.trans mV,by rw[ext_next,nV]; simp only[zB8]; omega,fun _=>he,by omega⟩
  |1,_,hc1,_,g18 =>
   have hd:decide (((1:Nat):Int)<2)=true:=by decide
   have ia:=ia61 (x:=x+2) (k:=1) (i:=((1:Nat):Int)) rfl (by omega)
   have hsu:scb y (.slice a2 h.length b2)=true:=scb_mono (by omega) _ hs2'
   have bY2':=bY2
   rw[e2]at bY2'
   simp (maxDischargeDepth:=6) only[g2,g3,g16,g17,g18,hy,hyb,hd,bY2',l2,ia,ld61_1,qk_old,hsu,xD,ruW,putL,Nat.reduceLeDiff,xF,ruU,entryE,Nat.reduceLT,Nat.reduceAdd,Nat.reduceMul,Nat.reduceEqDiff]
   rw[←e2]
   generalize hV:ext Y _=V
   have mV:Mod [] Y V:=hV▸Mod.ext okY
   have nV:V.next=y+1:=by rw[←hV,ext_next,hy]; rfl
   have bV:bk V (y+0)=some ⟨24,false,[u2,.int .i64 r2,.int .i64 c2]⟩:=by rw[←hV,bk_at hy (by simp)]; rfl
   clear hV
   have lV:y+0<y+1:=by omega
   have mHV:=mY.trans mV
   rw[show V=ext V [] from rfl]
   obtain⟨e,he⟩:∃ e,chkR h r2 c2=e:=⟨_,rfl⟩
   have hck:=check39_c (ext V []) u2 h r2 c2 (h2.at_.mod0 mHV) (fun l hl=>by have:=hhw l hl; omega) (by omega)
   rw[he]at hck
   refine hck.to ?_
   obtain⟨d,hd⟩:∃ d,decide (¬e=0)=d:=⟨_,rfl⟩
   cases d with
   |true =>
    have hne:=of_decide_eq_true hd
    simp (maxDischargeDepth:=6) only[g2,g3,g16,g17,g18,hd,joinR_ret,Tryd.results13,xD,ruW,putL,Nat.reduceLeDiff,xF,ruU,entryE,Nat.reduceLT,Nat.reduceAdd,Nat.reduceMul,Nat.reduceEqDiff]
    exact OpsA.err mHV ((opsV_2 (hc1 (by omega)) (by rw[he]; exact hne)).trans (by rw[he]))
   |false =>
    have h0:e=0:=by simpa using of_decide_eq_false hd
    rw[h0]at he
    simp (maxDischargeDepth:=6) only[g2,g3,g16,g17,g18,hd,xD,ruW,putL,Nat.reduceLeDiff,xF,ruU,entryE,Nat.reduceLT,Nat.reduceAdd,Nat.reduceMul,Nat.reduceEqDiff]
    refine loopC_next ⟨2,by omega,by simp only[g2,ruU,entryE,Nat.reduceLT,Nat.reduceAdd,Nat.reduceMul,Nat.reduceEqDiff],by simp only[g3,ruU,entryE,Nat.reduceLT,Nat.reduceAdd,Nat.reduceMul,Nat.reduceEqDiff],by simp only[g16,ruU,entryE,Nat.reduceLT,Nat.reduceAdd,Nat.reduceMul,Nat.reduceEqDiff],by simp only[g17,ruU,entryE,Nat.reduceLT,Nat.reduceAdd,Nat.reduceMul,Nat.reduceEqDiff],by simp only[ruU,entryE,Nat.reduceLT,Nat.reduceAdd,Nat.reduceMul,Nat.reduceEqDiff]<;>rfl,by omega,mHV,mXY.trans mV,by rw[ext_next,nV]; simp only[zB8]; omega,fun _=>hc1 (by omega),fun _=>he⟩
 clear g2 g3 g16 g17 g18 E bX0 bX1 bX2 mX nX X
 rintro E Y ⟨g2,g3,mY,yl,bY0,bY1,hc1,hc2⟩
 have okY:=mY.ok hok
 obtain⟨y,hy⟩:∃ y,Y.next=y:=⟨_,rfl⟩
 have hyb:Y.base≤y:=hy▸okY
 have l0:x+0<y:=by omega
 have l1:x+1<y:=by omega
 obtain⟨ok1,hne1,hg0⟩:=chk_ok hc1
 obtain⟨ok2,hne2,hh0⟩:=chk_ok hc2
 have s1Y:=h1.mod0 mY
 have s2Y:=h2.mod0 mY
 have hgp:0<g.length:=List.length_pos_iff.2 hg0
 have hhp:0<h.length:=List.length_pos_iff.2 hh0
 obtain⟨n1,o1,sp1,cp1,t1,q1,L1,ev1,k1,n1l,le1,tk1⟩:=s1Y.r hg0
 obtain⟨n2,o2,sp2,cp2,t2,q2,L2,ev2,k2,n2l,le2,tk2⟩:=s2Y.r hh0
 rw[hy]at n1l n2l
 obtain⟨w1,hw1⟩:∃ r,g[0]?=some r:=⟨_,zA6 hgp⟩
 obtain⟨w2,hw2⟩:∃ r,h[0]?=some r:=⟨_,zA6 hhp⟩
 obtain⟨rv1,hrv1,rs1⟩:=tk1 0 w1 hw1
 obtain⟨rv2,hrv2,rs2⟩:=tk2 0 w2 hw2
 obtain⟨ra1,rc1,re1⟩:=rs1.sl
 obtain⟨ra2,rc2,re2⟩:=rs2.sl
 rw[re1]at hrv1
 rw[re2]at hrv2
 have hwid1:widG g=w1.length:=by rw[widG,zE2,hw1]; rfl
 have hwid2:widG h=w2.length:=by rw[widG,zE2,hw2]; rfl
 have i1:=grid_ia (n:=n1) (off:=o1) (s:=sp1) (cap:=cp1) (i:=0) (k:=0) rfl hgp
 have i2:=grid_ia (n:=n2) (off:=o2) (s:=sp2) (cap:=cp2) (i:=0) (k:=0) rfl hhp
 have q1':=grid_load (e:=t1) (o:=q1) hrv1
 have q2':=grid_load (e:=t2) (o:=q2) hrv2
 have bY0':=bY0
 have bY1':=bY1
 rw[ev1]at bY0'
 rw[ev2]at bY1'
 obtain⟨d1,hd1⟩:∃ d,decide (¬(g.length:Int)=(h.length:Int))=d:=⟨_,rfl⟩
 obtain⟨d2,hd2⟩:∃ d,decide (¬(w1.length:Int)=(w2.length:Int))=d:=⟨_,rfl⟩
 rw[show Y=ext Y [] from rfl]
 cases d1 with
 |true =>
  have hne:=of_decide_eq_true hd1
  simp (maxDischargeDepth:=6) only[g2,g3,xD,ruW,putL,Nat.reduceLeDiff,xF,ruU,entryE,Nat.reduceLT,Nat.reduceAdd,Nat.reduceMul,Nat.reduceEqDiff]
  refine w_drawB [] [(7,35)] (by kernel_rfl) rfl (by kernel_rfl) fun ops anc hA hG=>?_
  simp only[all2_cons]at hG
  simp (maxDischargeDepth:=6) only[g2,g3,hy,l0,l1,bY0',bY1',hd1,hG,Tryd.results13,xD,ruD,ruW,putL,Nat.reduceLeDiff,xF,ruU,entryE,Nat.reduceLT,Nat.reduceAdd,Nat.reduceMul,Nat.reduceEqDiff]
  exact OpsA.err mY (opsV_3 hc1 hc2 (.inl (by omega)))
 |false =>
 have hgh:g.length=h.length:=by have:=of_decide_eq_false hd1; omega
 cases d2 with
 |true =>
  have hne:=of_decide_eq_true hd2
  simp (maxDischargeDepth:=6) only[g2,g3,xD,ruW,putL,Nat.reduceLeDiff,xF,ruU,entryE,Nat.reduceLT,Nat.reduceAdd,Nat.reduceMul,Nat.reduceEqDiff]
  refine w_drawB [] [(7,35)] (by kernel_rfl) rfl (by kernel_rfl) fun ops anc hA hG=>?_
  simp only[all2_cons]at hG
  simp (maxDischargeDepth:=6) only[g2,g3,hy,l0,l1,bY0',bY1',hd1,hd2,i1,i2,k1,k2,n1l,n2l,q1',q2',qk_old,hG,Tryd.results13,xD,ruD,ruW,putL,Nat.reduceLeDiff,xF,ruU,entryE,Nat.reduceLT,Nat.reduceAdd,Nat.reduceMul,Nat.reduceEqDiff]
  exact OpsA.err mY (opsV_3 hc1 hc2 (.inr (by omega)))
 |false =>
 have hwh:widG g=widG h:=by have:=of_decide_eq_false hd2; omega
 have hV4:=opsV_4 hc1 hc2 hgh hwh
 simp (maxDischargeDepth:=6) only[g2,g3,xD,ruW,putL,Nat.reduceLeDiff,xF,ruU,entryE,Nat.reduceLT,Nat.reduceAdd,Nat.reduceMul,Nat.reduceEqDiff]
 refine w_drawB [] [(7,35)] (by kernel_rfl) rfl (by kernel_rfl) fun ops anc hA hG=>?_
 simp only[all2_cons]at hG
 simp (maxDischargeDepth:=6) only[g2,g3,hy,hyb,l0,l1,bY0',bY1',hd1,hd2,i1,i2,k1,k2,n1l,n2l,q1',q2',qk_old,hG,xD,ruD,ruW,putL,Nat.reduceLeDiff,xF,ruU,entryE,Nat.reduceLT,Nat.reduceAdd,Nat.reduceMul,Nat.reduceEqDiff]
 rw[←ev1,←ev2]
 generalize hV:ext Y _=V
 have mV:Mod [] Y V:=hV▸Mod.ext okY
 have nV:V.next=y+1:=by rw[←hV,ext_next,hy]; rfl
 have bV:bk V (y+0)=some ⟨64,false,[.slice none 0 0,.int .i64 0,.int .i64 0,.bool false,.bool false,.bool false]⟩:=by rw[←hV,bk_at hy (by simp)]; rfl
 clear hV
 have okV:=mV.ok okY
 obtain⟨z,hz⟩:∃ z,V.next=z:=⟨_,rfl⟩
 have hVb:V.base≤z:=hz▸okV
 have mHV:=mY.trans mV
 have s1V:=h1.mod0 mHV
 have s2V:=h2.mod0 mHV
 have bV0:=(mV.bk (n:=x+0) (by omega) (by simp)).trans bY0
 have bV1:=(mV.bk (n:=x+1) (by omega) (by simp)).trans bY1
 have wV:WrAt y [] V (y+0) (.slice none 0 0) [] lk0:=⟨bV,OpsW.nil,by simp[idsV],by omega,by omega,by simp,fun n hn=>by simp[idsV]at hn,fun n hn=>by cases hn⟩
 have hsc:=scroll_c (ext V []) u1 u2 g h s1V s2V (fun l hl=>by have:=hgw l hl; omega) (fun l hl=>by have:=hhw l hl; omega) hgh (by omega)
 obtain⟨so,hso⟩:∃ so,shiftR g h=so:=⟨_,rfl⟩
 rw[hso]at hsc
 obtain⟨ob,hob,hoo⟩:∃ ob:Op,Pure 36 [u1,u2] (ext V []) (.tuple #[ob.val,.bool so.isSome])∧∀ o,so=some o→ob=o:=by
  cases so with
  |none=>exact⟨_,hsc,fun o h=>by cases h⟩
  |some o=>exact⟨o,hsc,fun o' h=>by cases h; rfl⟩
 rw[show V=ext V [] from rfl]
 refine hob.to ?_
 simp (maxDischargeDepth:=6) only[g2,g3,hz,hVb,Op.val,Op.cells,xD,ruW,putL,Nat.reduceLeDiff,xF,ruU,entryE,Nat.reduceLT,Nat.reduceAdd,Nat.reduceMul,Nat.reduceEqDiff]
 generalize hU:ext V _=U
 have mU:Mod [] V U:=hU▸Mod.ext okV
 have nU:U.next=z+1:=by rw[←hU,ext_next,hz]; rfl
 have bU:bk U (z+0)=some ⟨47,false,ob.cells⟩:=by rw[←hU,bk_at hz (by simp)]; rfl
 clear hU
 have okU:=mU.ok okV
 have mHU:=mHV.trans mU
 have wU:=wV.of mU
 have bU0:=(mU.bk (n:=x+0) (by omega) (by simp)).trans bV0
 have bU1:=(mU.bk (n:=x+1) (by omega) (by simp)).trans bV1
 have hHN:H.next≤y:=by rw[←hy]; exact mY.next
 refine condC_meet (fun E' Z=>E' 2=.pointer (some ⟨x+0,0,none⟩)∧E' 3=.pointer (some ⟨x+1,0,none⟩)∧E' 9=.pointer (some ⟨y+0,0,none⟩)∧∃ F v uo rr cc,Mod [] H Z∧y+1≤Z.next∧bk Z (x+0)=some ⟨24,false,[uo,.int .i64 rr,.int .i64 cc]⟩∧bk Z (x+1)=some ⟨24,false,[u2,.int .i64 r2,.int .i64 c2]⟩∧WrAt y F Z (y+0) v so.toList lk0∧GridF y F Z uo (nowR g h r c)) ?_ ?_
 ·cases so with
  |none =>
   simp (maxDischargeDepth:=6) only[Option.isSome_none,xD,ruW,putL,Nat.reduceLeDiff,xF,ruU,entryE,Nat.reduceLT,Nat.reduceAdd,Nat.reduceMul,Nat.reduceEqDiff]
   have hnow:nowR g h r c=g:=by unfold nowR; rw[hso]
   exact joinR_normal ⟨by simp only[g2,ruU,entryE,Nat.reduceLT,Nat.reduceAdd,Nat.reduceMul,Nat.reduceEqDiff],by simp only[g3,ruU,entryE,Nat.reduceLT,Nat.reduceAdd,Nat.reduceMul,Nat.reduceEqDiff],by simp only[ruU,entryE,Nat.reduceLT,Nat.reduceAdd,Nat.reduceMul,Nat.reduceEqDiff],[],_,u1,r,c,mHU,by show y+1≤U.next; omega,bU0,bU1,wU,by rw[hnow]; exact (((h1.r hg0).f hHN).mod0 mHU)⟩
  |some o =>
   have hoe:=hoo o rfl
   subst hoe
   have lz0:z+0<z+1:=by omega
   have bU':=bU
   simp only[Op.cells]at bU'
   rw[show U=ext U [] from rfl]
   simp (maxDischargeDepth:=6) only[g2,g3,nU,bU',lz0,Option.isSome_some,Op.val,Op.cells,xD,ruW,putL,Nat.reduceLeDiff,xF,ruU,entryE,Nat.reduceLT,Nat.reduceAdd,Nat.reduceMul,Nat.reduceEqDiff]
   refine (put_c y [] (ext U []) (y+0) (.slice none 0 0) [] lk0 ob wU okU (by simp) (by show y≤U.next; omega)).mono ?_
   rintro _ Z1 ⟨rfl,v1,w1,kZ⟩
   replace kZ:KpN y [] U Z1:=kZ
   rw[zC1]at w1
   have okZ:=kZ.ok okU
   have mHZ:Mod [] H Z1:=kZ.mod mHU hok hHN
   have zn1:=kZ.next
   obtain⟨z1,hz1⟩:∃ n,Z1.next=n:=⟨_,rfl⟩
   have bZ0:=(kZ.bk (n:=x+0) (by omega) (.inl (by omega))).trans bU0
   have bZ1:=(kZ.bk (n:=x+1) (by omega) (.inl (by omega))).trans bU1
   have wc:=w1.cell
   have l0z:x+0<z1:=by omega
   have lyz:y+0<z1:=by omega
   obtain⟨F1,hF1,hFG⟩:=(h1.mod0 mHZ).at_.foot hg0
   obtain⟨F,hF⟩:∃ F,F=F1++idsV v1:=⟨_,rfl⟩
   have hFF:∀ n∈F,Z1.get n≠none∧n<Z1.next:=fun n hn=>by
    rw[hF]at hn
    rcases zB1.1 hn with hn|hn
    ·exact hF1 n hn
    exact w1.ops.ne n hn
   have hrn:=restrict_next Z1 F
   have hrg:∀ n∈F,(Z1.restrict F).get n=Z1.get n:=fun n hn=>by rw[restrict_get,if_pos hn]
   obtain⟨gR,_⟩:=hFG (Z1.restrict F) (by rw[hrn.1]; exact zA5 _) (fun n hn=>hrg n (hF▸zC7 _ hn))
   have oR:OpsAt (Z1.restrict F) v1 [ob]:=w1.ops.at_.of (by rw[hrn.1]; exact zA5 _) fun n hn=>hrg n (hF▸zD0 _ hn)
   obtain⟨tt,bb,ii,kk,hroll,hk56,-⟩:=shift_some hso hgh
   obtain⟨out,gg,hcs,hap⟩:=apply_s (Z1.restrict F) u1 v1 g r c [ob] gR oR (by rw[hrn.1,hrn.2.1]; exact zA5 _) (by rw[hrn.1,hz1]; exact scb_mono (by omega) _ hs1) (fun l hl=>by have:=hgw l hl; omega) (by omega) (fun o ho=>by rw[zA4]at ho; subst ho; rw[hroll]; exact hk56) (by simp)
   obtain⟨mg,ua,rva,Na,rfl,hNa,own⟩:=hap.val
   have hnow:nowR g h r c=(appV g r c [ob]).1:=by unfold nowR; rw[hso]
   obtain⟨⟨ga,ra,ca,ea,ia⟩,hav⟩:∃ q,appV g r c [ob]=q:=⟨_,rfl⟩
   rw[hav]at hcs own hnow
   simp only at hcs own hnow
   rw[hrn.1,hz1]at hNa
   rw[show Z1=ext Z1 [] from rfl]
   simp (maxDischargeDepth:=6) only[g2,g3,hz1,bZ0,wc,l0z,lyz,xD,ruW,putL,Nat.reduceLeDiff,xF,ruU,entryE,Nat.reduceLT,Nat.reduceAdd,Nat.reduceMul,Nat.reduceEqDiff]
   refine w_drawB [(10,0),(10,4),(10,5),(6,5),(7,5)] [] (by kernel_rfl) (by kernel_rfl) rfl fun ops anc hA hG=>?_
   simp only[all2_cons]at hA
   simp (maxDischargeDepth:=6) only[g2,hz1,bZ0,wc,l0z,lyz,hA,xD,ruD,ruW,putL,Nat.reduceLeDiff,xF,ruU,entryE,Nat.reduceLT,Nat.reduceAdd,Nat.reduceMul,Nat.reduceEqDiff]
   refine genV_mod (H:=ext Z1 []) (W:=[]) F okZ (by simp only[ruU,entryE,Nat.reduceLT,Nat.reduceAdd,Nat.reduceMul,Nat.reduceEqDiff]) (by kernel_rfl) (fun n hn=>(hFF n hn).1) (fun n hn=>(hFF n hn).2) (fun _ h=>by simp at h) (v:=.tuple #[.agg #[ua,.int .i64 ra,.int .i64 ca],.int .i64 ea,.int .i64 ia]) (g:=gg) (by simp only[ruU,entryE,Nat.reduceLT,Nat.reduceAdd,Nat.reduceMul,Nat.reduceEqDiff]; exact hcs) mg (by simp only[all2_cons,all2_nil,hA,true_or,and_true]; simp) ?_
   intro Z D mZ hFZ hNZ hnZ hDZ
   have hD0:D=[]:=List.eq_nil_iff_forall_not_mem.2 (fun q hq=>by simpa using hDZ q hq)
   subst hD0
   replace mZ:Mod [] Z1 Z:=mZ
   have hzn:=mZ.next
   have hnZ':Z.next=gg.next:=hnZ
   have ownZ:OwnG Na Z ua rva ga:=own.of (by omega) (fun n h3 h4 _=>hNZ n (by show Z1.next≤n; omega) h4)
   obtain⟨aua,cua,eua⟩:=ownZ.grid.sl
   obtain⟨zz,hzz⟩:∃ n,Z.next=n:=⟨_,rfl⟩
   have hsua:scb zz ua=true:=by
    rcases ownZ.at_ with⟨_,h⟩|⟨m,s,c',o,e,_,_,hm,_⟩
    ·rw[h]; rfl
    ·rw[e]; exact blt_of (show m<zz by omega)
   have kz0:=(mZ.bk (n:=x+0) (by omega) (by simp)).trans bZ0
   have kz1:=(mZ.bk (n:=x+1) (by omega) (by simp)).trans bZ1
   have lzz:x+0<zz:=by omega
   rw[show Z=ext Z [] from rfl,eua]
   rw[eua]at hsua
   simp (maxDischargeDepth:=6) only[g2,g3,hzz,kz0,lzz,hsua,hA,xD,ruD,ruW,putL,Nat.reduceLeDiff,xF,ruU,entryE,Nat.reduceLT,Nat.reduceAdd,Nat.reduceMul,Nat.reduceEqDiff]
   rw[←eua]
   generalize hW:uw Z (x+0) 0 _=W
   have mW:Mod [x+0] Z W:=hW▸Mod.uw (by simp)
   have kW0:bk W (x+0)=some ⟨24,false,[ua,.int .i64 ra,.int .i64 ca]⟩:=by rw[←hW,bk_uw_eq,kz0]; rfl
   clear hW
   have hq:∀ q∈idsV ua++rva.flatMap idsV,Z1.next≤q∧q<Z.next:=fun q hq=>by
    rcases zB1.1 hq with hq|hq
    ·have:=ownZ.idv q hq; omega
    ·have:=ownZ.ids q hq; omega
   have wW:=(w1.mores mZ hq).low mW (show x+0<y by omega)
   have ownW:OwnG Na W ua rva ga:=ownZ.of mW.next fun n h3 h4 _=>mW.get n h4 (by simp only[zA4]; omega)
   have hga:ga≠[]:=fun e=>by
    have h3:=(nowR_len (h:=h) hgh hc1).1
    rw[hnow,e,zB8]at h3
    omega
   have hWn:=mW.next
   exact joinR_normal ⟨by simp only[g2,ruU,entryE,Nat.reduceLT,Nat.reduceAdd,Nat.reduceMul,Nat.reduceEqDiff],by simp only[g3,ruU,entryE,Nat.reduceLT,Nat.reduceAdd,Nat.reduceMul,Nat.reduceEqDiff],by simp only[ruU,entryE,Nat.reduceLT,Nat.reduceAdd,Nat.reduceMul,Nat.reduceEqDiff],_,v1,ua,ra,ca,(mHZ.trans mZ).step mW hok fun n hn=>.inr (by simp only[zA4]at hn; omega),by show y+1≤W.next; omega,kW0,(mW.bk (by omega) (by simp only[zA4]; omega)).trans kz1,wW,by rw[hnow]; exact ownW.f hga fun n hn=>zC7 _ hn⟩
 clear g2 g3 E
 rintro E Z ⟨g2,g3,g9,F,v,uo,rr,cc,mZ,zl,bZ0,bZ1,w,gf⟩
 obtain⟨NR,hNR⟩:∃ NR,nowR g h r c=NR:=⟨_,rfl⟩
 have hnl:=nowR_len (h:=h) hgh hc1
 rw[hNR]at gf hnl
 have hneN:∀ l∈NR,l≠[]:=fun l hl e=>by
  have h3:=hnl.2 l hl
  rw[e,zB8]at h3
  have:=ok1.w1
  omega
 have okZ:=mZ.ok hok
 have gf2:GridF y F Z u2 h:=((h2.r hh0).f hHN).mod0 mZ
 obtain⟨zz,hzz⟩:∃ n,Z.next=n:=⟨_,rfl⟩
 have lz1:x+1<zz:=by omega
 have bZ1':=bZ1
 rw[e2]at bZ1'
 rw[show Z=ext Z [] from rfl]
 simp (maxDischargeDepth:=6) only[g2,g3,g9,hzz,lz1,bZ1',xD,ruW,putL,Nat.reduceLeDiff,xF,ruU,entryE,Nat.reduceLT,Nat.reduceAdd,Nat.reduceMul,Nat.reduceEqDiff]
 refine w_env fun E' hE=>?_
 have r2':E' 2=.pointer (some ⟨x+0,0,none⟩):=by rw[hE]; simp only[g2,ruU,entryE,Nat.reduceLT,Nat.reduceAdd,Nat.reduceMul,Nat.reduceEqDiff]
 have r3':E' 3=.pointer (some ⟨x+1,0,none⟩):=by rw[hE]; simp only[g3,ruU,entryE,Nat.reduceLT,Nat.reduceAdd,Nat.reduceMul,Nat.reduceEqDiff]
 have r9':E' 9=.pointer (some ⟨y+0,0,none⟩):=by rw[hE]; simp only[g9,ruU,entryE,Nat.reduceLT,Nat.reduceAdd,Nat.reduceMul,Nat.reduceEqDiff]
 have r73:E' 73=u2:=by rw[hE,e2]; simp only[ruU,entryE,Nat.reduceLT,Nat.reduceAdd,Nat.reduceMul,Nat.reduceEqDiff]
 have r74:E' 74=.int .i64 (h.length:Int):=by rw[hE]; simp only[ruU,entryE,Nat.reduceLT,Nat.reduceAdd,Nat.reduceMul,Nat.reduceEqDiff]
 have r75:E' 75=.int .i64 ((0:Nat):Int):=by rw[hE]; (simp only[ruU,entryE,Nat.reduceLT,Nat.reduceAdd,Nat.reduceMul,Nat.reduceEqDiff]<;>rfl)
 clear hE g2 g3 g9 E
 obtain⟨L,hL⟩:∃ L,so.toList++rowsR 0 NR h lk0=L:=⟨_,rfl⟩
 have hsl:so.toList.length≤1:=by cases so<;>simp
 refine blockC_meet (fun E' Y=>E' 3=.pointer (some ⟨x+1,0,none⟩)∧E' 9=.pointer (some ⟨y+0,0,none⟩)∧Mod [] H Y∧y+1≤Y.next∧bk Y (x+1)=some ⟨24,false,[u2,.int .i64 r2,.int .i64 c2]⟩∧∃ v k,WrAt y F Y (y+0) v L k∧L.length≤3000) ?_ ?_
 ·refine w_loop (fun (q:Nat × Value × List Op × Lk) E' Y=>E' 2=.pointer (some ⟨x+0,0,none⟩)∧E' 3=.pointer (some ⟨x+1,0,none⟩)∧E' 9=.pointer (some ⟨y+0,0,none⟩)∧E' 73=u2∧E' 74=.int .i64 (h.length:Int)∧E' 75=.int .i64 (q.1:Int)∧KpN y F Z Y∧WrAt y F Y (y+0) q.2.1 q.2.2.1 q.2.2.2∧q.1≤h.length∧q.2.2.1++rowsR q.1 (NR.drop q.1) (h.drop q.1) q.2.2.2=L∧q.2.2.1.length≤1+q.1*182) (fun q=>h.length-q.1) (0,v,so.toList,lk0)
   ⟨r2',r3',r9',r73,r74,r75,KpN.refl,w,zB0 _,by simp only[zD1]; exact hL,by simp only; omega⟩ ?_
  clear r2' r3' r9' r73 r74 r75 E'
  rintro⟨i,v,l,k⟩ E Y ⟨g2,g3,g9,g73,g74,g75,kY,w,hi,hL',hll⟩
  simp only at g75 w hi hL' hll
  have okY:=kY.ok okZ
  have yn:=kY.next
  obtain⟨yy,hyy⟩:∃ n,Y.next=n:=⟨_,rfl⟩
  have bY0:=(kY.bk (n:=x+0) (by omega) (.inl (by omega))).trans bZ0
  have bY1:=(kY.bk (n:=x+1) (by omega) (.inl (by omega))).trans bZ1
  rw[show Y=ext Y [] from rfl]
  by_cases hil:i<h.length
  case neg =>
   have hc0:decide ((i:Int)<(h.length:Int))=false:=decide_eq_false (by omega)
   rw[rowsR_end k (by omega),zC5]at hL'
   subst hL'
   simp (maxDischargeDepth:=6) only[g2,g3,g9,g73,g74,g75,hc0,xD,ruW,putL,Nat.reduceLeDiff,xF,ruU,entryE,Nat.reduceLT,Nat.reduceAdd,Nat.reduceMul,Nat.reduceEqDiff]
   exact joinR_normal ⟨by simp only[g3,ruU,entryE,Nat.reduceLT,Nat.reduceAdd,Nat.reduceMul,Nat.reduceEqDiff],by simp only[g9,ruU,entryE,Nat.reduceLT,Nat.reduceAdd,Nat.reduceMul,Nat.reduceEqDiff],kY.mod mZ hok hHN,by show y+1≤Y.next; omega,bY1,v,k,w,by omega⟩
  have hc0:decide ((i:Int)<(h.length:Int))=true:=decide_eq_true (by omega)
  obtain⟨b,hb⟩:∃ b,h[i]?=some b:=⟨_,zA6 hil⟩
  obtain⟨a,ha⟩:∃ a,NR[i]?=some a:=⟨_,zA6 (by omega)⟩
  have hal:=hnl.2 a (zB9 ha)
  have hbm:=zB9 hb
  have hbl:=ok2.wid b hbm
  have hb60:=hhw b hbm
  have hbne:=hne2 b hbm
  have hane:=hneN a (zB9 ha)
  rw[rowsR_step k ha hb]at hL'
  obtain⟨n1,o1,sp1,cp1,t1,q1,L1,ev1,k1,n1l,-,le1,tk1⟩:=gf.kp kY hneN
  obtain⟨n2,o2,sp2,cp2,t2,q2,L2,ev2,k2,n2l,-,le2,tk2⟩:=gf2.kp kY hne2
  rw[hyy]at n1l n2l
  obtain⟨rva,hrva,rsa,hia⟩:=tk1 i a ha
  obtain⟨rvb,hrvb,rsb,hib⟩:=tk2 i b hb
  have i1:=grid_ia (len:=NR.length) (n:=n1) (off:=o1) (s:=sp1) (cap:=cp1) (i:=(i:Int)) rfl (by omega)
  have i2:=grid_ia (len:=h.length) (n:=n2) (off:=o2) (s:=sp2) (cap:=cp2) (i:=(i:Int)) rfl hil
  have q1':=grid_load (e:=t1) (o:=q1) hrva
  have q2':=grid_load (e:=t2) (o:=q2) hrvb
  have g73':=g73
  rw[ev2]at g73'
  have bY0':=bY0
  rw[ev1]at bY0'
  have ly0:x+0<yy:=by omega
  obtain⟨d,hd⟩:∃ d,decide (a=b)=d:=⟨_,rfl⟩
  simp (maxDischargeDepth:=6) only[g2,g3,g9,g73',g74,g75,hyy,hc0,i1,i2,k1,k2,n1l,n2l,q1',q2',bY0',ly0,qk_old,xD,ruW,putL,Nat.reduceLeDiff,xF,ruU,entryE,Nat.reduceLT,Nat.reduceAdd,Nat.reduceMul,Nat.reduceEqDiff]
  refine (eqCells_c (ext Y []) rva rvb a b rsa.at_ rsb.at_ (by omega)).to ?_
  cases d with
  |true =>
   have he:=of_decide_eq_true hd
   rw[if_pos he]at hL'
   simp (maxDischargeDepth:=6) only[g2,g3,g9,g73',g74,g75,hd,zB5,wrap_succ (show i<1000000 by omega),xD,ruW,putL,Nat.reduceLeDiff,xF,ruU,entryE,Nat.reduceLT,Nat.reduceAdd,Nat.reduceMul,Nat.reduceEqDiff]
   exact loopC_next ⟨(i+1,v,l,k),by simp only; omega,by simp only[g2,ruU,entryE,Nat.reduceLT,Nat.reduceAdd,Nat.reduceMul,Nat.reduceEqDiff],by simp only[g3,ruU,entryE,Nat.reduceLT,Nat.reduceAdd,Nat.reduceMul,Nat.reduceEqDiff],by simp only[g9,ruU,entryE,Nat.reduceLT,Nat.reduceAdd,Nat.reduceMul,Nat.reduceEqDiff],by simp only[g73,ruU,entryE,Nat.reduceLT,Nat.reduceAdd,Nat.reduceMul,Nat.reduceEqDiff],by simp only[g74,ruU,entryE,Nat.reduceLT,Nat.reduceAdd,Nat.reduceMul,Nat.reduceEqDiff],by simp only[ruU,entryE,Nat.reduceLT,Nat.reduceAdd,Nat.reduceMul,Nat.reduceEqDiff],kY,w,by simp only; omega,hL',by simp only; omega⟩
  |false =>
   have he:=of_decide_eq_false hd
   rw[if_neg he]at hL'
   simp (maxDischargeDepth:=6) only[g2,g3,g9,g73',g74,g75,hyy,hd,i1,i2,k1,k2,n1l,n2l,q1',q2',bY0',ly0,qk_old,zC0,xD,ruW,putL,Nat.reduceLeDiff,xF,ruU,entryE,Nat.reduceLT,Nat.reduceAdd,Nat.reduceMul,Nat.reduceEqDiff]
   refine (rowW_c y F (ext Y []) (y+0) v rva rvb l k i a b w rsa rsb (hia hane) (hib hbne) (by omega) hbne (by omega) (by omega) (chk_isR hc2 b hbm) okY (by show y≤Y.next; omega)).mono ?_
   rintro _ Y2 ⟨rfl,v2,w2,k2⟩
   have hlr:=lineR_len i a b k
   simp (maxDischargeDepth:=6) only[g2,g3,g9,g73',g74,g75,wrap_succ (show i<1000000 by omega),xD,ruW,putL,Nat.reduceLeDiff,xF,ruU,entryE,Nat.reduceLT,Nat.reduceAdd,Nat.reduceMul,Nat.reduceEqDiff]
   exact loopC_next ⟨(i+1,v2,_,_),by simp only; omega,by simp only[g2,ruU,entryE,Nat.reduceLT,Nat.reduceAdd,Nat.reduceMul,Nat.reduceEqDiff],by simp only[g3,ruU,entryE,Nat.reduceLT,Nat.reduceAdd,Nat.reduceMul,Nat.reduceEqDiff],by simp only[g9,ruU,entryE,Nat.reduceLT,Nat.reduceAdd,Nat.reduceMul,Nat.reduceEqDiff],by simp only[g73,ruU,entryE,Nat.reduceLT,Nat.reduceAdd,Nat.reduceMul,Nat.reduceEqDiff],by simp only[g74,ruU,entryE,Nat.reduceLT,Nat.reduceAdd,Nat.reduceMul,Nat.reduceEqDiff],by simp only[ruU,entryE,Nat.reduceLT,Nat.reduceAdd,Nat.reduceMul,Nat.reduceEqDiff],kY.trans k2,w2,by simp only; omega,by simp only; rw[zF6]; exact hL',by simp only[zB7]; omega⟩
 clear r2' r3' r9' r73 r74 r75 E'
 rintro E Y ⟨g3,g9,mY2,yl2,bY1,v,k,w,hll⟩
 have okY2:=mY2.ok hok
 obtain⟨yy,hyy⟩:∃ n,Y.next=n:=⟨_,rfl⟩
 have ly1:x+1<yy:=by omega
 have hops:opsR g h r c r2 c2=L++curR r2 c2:=by rw[opsR,hso,hNR,hL]
 obtain⟨d,hd⟩:∃ d,decide (r2<0)=d:=⟨_,rfl⟩
 rw[show Y=ext Y [] from rfl]
 simp (maxDischargeDepth:=6) only[g3,g9,hyy,ly1,bY1,hd,xD,ruW,putL,Nat.reduceLeDiff,xF,ruU,entryE,Nat.reduceLT,Nat.reduceAdd,Nat.reduceMul,Nat.reduceEqDiff]
 refine condC_meet (fun E' X=>E' 9=.pointer (some ⟨y+0,0,none⟩)∧Mod [] H X∧y+1≤X.next∧∃ v k,WrAt y F X (y+0) v (opsR g h r c r2 c2) k) ?_ ?_
 ·cases d with
  |true =>
   have he:=of_decide_eq_true hd
   rw[hops,curR,if_pos he]
   simp (maxDischargeDepth:=6) only[g3,g9,hyy,ly1,bY1,xD,ruW,putL,Nat.reduceLeDiff,xF,ruU,entryE,Nat.reduceLT,Nat.reduceAdd,Nat.reduceMul,Nat.reduceEqDiff]
   refine (put_c y F (ext Y []) (y+0) v L k (opK 8) w okY2 (by omega) (by show y≤Y.next; omega)).mono ?_
   rintro _ X ⟨rfl,v2,w2,k2⟩
   replace k2:KpN y F Y X:=k2
   have:=k2.next
   simp (maxDischargeDepth:=6) only[xD,ruW,putL,Nat.reduceLeDiff,xF,ruU,entryE,Nat.reduceLT,Nat.reduceAdd,Nat.reduceMul,Nat.reduceEqDiff]
   exact joinR_normal ⟨by simp only[g9,ruU,entryE,Nat.reduceLT,Nat.reduceAdd,Nat.reduceMul,Nat.reduceEqDiff],k2.mod mY2 hok hHN,by omega,v2,k,w2⟩
  |false =>
   have he:=of_decide_eq_false hd
   rw[hops,curR,if_neg he]
   simp (maxDischargeDepth:=6) only[g3,g9,hyy,ly1,bY1,xD,ruW,putL,Nat.reduceLeDiff,xF,ruU,entryE,Nat.reduceLT,Nat.reduceAdd,Nat.reduceMul,Nat.reduceEqDiff]
   refine (put_c y F (ext Y []) (y+0) v L k (opM r2 c2) w okY2 (by omega) (by show y≤Y.next; omega)).mono ?_
   rintro _ X ⟨rfl,v2,w2,k2⟩
   replace k2:KpN y F Y X:=k2
   have hxn:=k2.next
   have okX:=k2.ok okY2
   rw[show X=ext X [] from rfl]
   simp (maxDischargeDepth:=6) only[g9,xD,ruW,putL,Nat.reduceLeDiff,xF,ruU,entryE,Nat.reduceLT,Nat.reduceAdd,Nat.reduceMul,Nat.reduceEqDiff]
   refine (put_c y F (ext X []) (y+0) v2 _ k (opK 7) w2 okX (by rw[zB7]; simp only[zF8]; omega) (by show y≤X.next; omega)).mono ?_
   rintro _ X3 ⟨rfl,v3,w3,k3⟩
   replace k3:KpN y F X X3:=k3
   have hxn3:=k3.next
   rw[zF6]at w3
   simp (maxDischargeDepth:=6) only[xD,ruW,putL,Nat.reduceLeDiff,xF,ruU,entryE,Nat.reduceLT,Nat.reduceAdd,Nat.reduceMul,Nat.reduceEqDiff]
   exact joinR_normal ⟨by simp only[g9,ruU,entryE,Nat.reduceLT,Nat.reduceAdd,Nat.reduceMul,Nat.reduceEqDiff],(k2.trans k3).mod mY2 hok hHN,by omega,v3,k,w3⟩
 clear g3 g9 E
 rintro E X ⟨g9,mX,xl,v,k,w⟩
 obtain⟨xx,hxx⟩:∃ n,X.next=n:=⟨_,rfl⟩
 have lx:y+0<xx:=by omega
 have wc:=w.cell
 rw[show X=ext X [] from rfl]
 simp (maxDischargeDepth:=6) only[g9,hxx,lx,wc,Tryd.results13,xD,ruW,putL,Nat.reduceLeDiff,xF,ruU,entryE,Nat.reduceLT,Nat.reduceAdd,Nat.reduceMul,Nat.reduceEqDiff]
 exact⟨mX,v,by rw[hV4],by rw[hV4]; exact w.ops,fun n hn=>by have:=(w.ids n hn).1; omega⟩
def OpsX (H:AHeap) (v:Value) (l:List Op):Prop:=OpsW H v l∨(l≠[]∧∃ n,v=.slice (some ⟨n,0,some 0⟩) l.length l.length∧bk H n=some ⟨47,false,opsOf l⟩∧n<H.next)
section
variable {H G X : AHeap} {v u : Value} {l l2 : List Op}
theorem OpsX.ne (h:OpsX H v l):∀ n∈idsV v,H.get n≠none∧n<H.next:=by
 rcases h with h|⟨h0,n,rfl,hb,hn⟩
 ·exact h.ne
 ·intro m hm
  simp only[idsV,zA4]at hm
  subst hm
  exact⟨bk_ne hb,hn⟩
theorem OpsX.of (h:OpsX H v l) (hn:H.next≤G.next) (hg:∀ n∈idsV v,G.get n=H.get n):OpsX G v l:=by
 rcases h with h|⟨h0,n,rfl,hb,hlt⟩
 ·exact .inl (h.of hn hg)
 ·exact .inr ⟨h0,n,rfl,(bk_get (hg n (by simp[idsV]))).trans hb,by omega⟩
theorem OpsX.mod0 (h:OpsX H v l) (m:Mod [] H G):OpsX G v l:=h.of m.next fun n hn=>m.get n (h.ne n hn).2 (by simp)
theorem OpsX.at_ (h:OpsX H v l):OpsAt H v l:=by
 rcases h with h|⟨h0,n,rfl,hb,hlt⟩
 ·exact h.at_
 ·exact .inr ⟨h0,n,0,some 0,_,_,_,_,rfl,rk_of hb,hlt,by rw[opsOf_len]; omega,by rw[zD1,zE6 (by rw[opsOf_len]; exact zA5 _)]⟩
theorem opsX_app (h:OpsX H v l) (hp:OpsAt H u l2) (h2:l2≠[]) (hok:H.base≤H.next) (hl:l.length+l2.length≤100000) :
  ∃ v' G,aBuiltin Tryd.prog H .append ⟨[28,28]⟩ [v,u]=some (v',G)∧OpsW G v' (l++l2)∧Mod (idsV v) H G∧∀ n∈idsV v',n∈idsV v∨H.next≤n:=by
 rcases h with h|⟨h0,m,rfl,hm,hlt⟩
 ·exact opsW_app h hp hok hl
 rcases hp with⟨e,_⟩|⟨_,n,off,s,c,e,o,L,rfl,hb,hnl,hle,ht⟩
 ·exact absurd e h2
 have hpos:0<l2.length:=List.length_pos_iff.2 h2
 have happ:=app_exactP (P:=Tryd.prog) (H:=H) (st:=28) (xt:=28) (e:=47) (sz:=10) (by1:=72) (m:=m) (k:=l.length) (n:=n) (off:=off) (cnt:=l2.length) (cap:=c) (s:=s) (b:=⟨e,o,L⟩) (bm:=⟨47,false,opsOf l⟩)
  o_und o_sz o_by o_zero rfl o_int hm (by simp only[opsOf_len]; exact zA5 _) (ops_one l) hb hle (by rw[ht]; exact ops_one l2) hpos (o_small (by omega))
 have hn:=new_ext (H:=H) (L:=[]) (e:=47) (l:=opsOf l++opsOf l2) (o:=true) (scbL_append (ops_sc _ _) (ops_sc _ _))
 have htk:(opsOf l).take (l.length*10)=opsOf l:=zE6 (by rw[opsOf_len]; exact zA5 _)
 simp only[ht,htk]at happ
 rw[show H=ext H [] from rfl,hn,zA9]at happ
 refine⟨_,_,happ,⟨by rw[opsOf_len],ops_one _,.inr ⟨by rw[zB7]; omega,H.next+0,by rw[zB7]; rfl,?_,by rw[ext_next]; simp⟩⟩,Mod.ext hok,fun q hq=>by simp only[idsV,zA4]at hq; exact .inr (by rw[hq]; exact zA5 _)⟩
 rw[zC1,bk_at rfl (by simp),opsOf_append]; rfl
theorem opsX_new {x m:Nat} {cs:List Value} (h:OpsX X v l) (hx:X.next=x) (hok:X.base≤X.next) (hc:opsOf l2=cs) (hm:l2.length=m) (h0:0<m) (hl:l.length+l2.length≤100000) :
  ∃ v' G,aBuiltin Tryd.prog (ext X [⟨47,false,cs⟩]) .append ⟨[28,28]⟩ [v,.slice (some ⟨x+0,0,some 0⟩) m m]=some (v',ext G [])∧OpsW G v' (l++l2)∧Mod (idsV v) X G∧∀ n∈idsV v',n∈idsV v∨x≤n:=by
 subst hc hm
 have m0:Mod [] X (ext X [⟨47,false,opsOf l2⟩]):=Mod.ext hok
 have hk:bk (ext X [⟨47,false,opsOf l2⟩]) (x+0)=some ⟨47,false,opsOf l2⟩:=by rw[bk_at hx (by simp)]; rfl
 have hne:l2≠[]:=List.length_pos_iff.1 h0
 have hu:OpsAt (ext X [⟨47,false,opsOf l2⟩]) (.slice (some ⟨x+0,0,some 0⟩) l2.length l2.length) l2 :=
  .inr ⟨hne,_,0,some 0,_,_,_,_,rfl,rk_of hk,by rw[ext_next,hx]; simp,by rw[opsOf_len]; omega,by rw[zD1,zE6 (by rw[opsOf_len]; exact zA5 _)]⟩
 obtain⟨v',G,h1,h2,h3,h4⟩:=opsX_app (h.mod0 m0) hu hne (m0.ok hok) hl
 refine⟨v',G,h1,h2,(Mod.ext hok).trans h3,fun n hn=>(h4 n hn).imp id fun h=>?_⟩
 have:=m0.next
 omega
end
theorem opL_cells (k:Lk):opsOf [opL k]=[.int .i64 2,.int .i64 0,.int .i64 0,.int .i64 0,.int .i64 k.fore,.int .i64 k.back,.bool k.bold,.bool k.under,.bool k.inv,.string .empty]:=rfl
theorem opT_cells (s:ByteArray):opsOf [opT s]=[.int .i64 3,.int .i64 0,.int .i64 0,.int .i64 0,.int .i64 0,.int .i64 0,.bool false,.bool false,.bool false,.string s]:=rfl
theorem spanR_head {k:Lk} {l:List Ce} {j n:Nat} (h:spanR k (l.drop j)+j=n) (hj:j<n):∃ c,l[j]?=some c∧c.look=k∧spanR k (l.drop (j+1))+(j+1)=n:=by
 rcases zC4 j l.length with hl|hl
 ·have hd:=zF0 hl
  rw[hd,spanR]at h
  by_cases hc:l[j].look=k
  ·rw[if_pos hc]at h
   exact⟨_,zA6 hl,hc,by omega⟩
  ·rw[if_neg hc]at h; omega
 ·rw[zE3 hl,spanR]at h; omega
theorem spanR_end {k:Lk} {l:List Ce} {n:Nat} {c:Ce} (h:spanR k (l.drop n)+n=n) (hc:l[n]?=some c):c.look≠k:=by
 have hl:=(zE8.1 hc).1
 rw[zA6 hl]at hc
 cases hc
 have hd:=zF0 hl
 rw[hd,spanR]at h
 by_cases hc:l[n].look=k
 ·rw[if_pos hc]at h; omega
 ·exact hc
theorem write60_c (H:AHeap) (ub:Value) (b:List Ce) (k:Lk) (row s t:Nat) (hr:RowAt H ub b) (hst:s<t) (htb:t≤b.length) (hbl:b.length≤10000) (hc:∀ c∈b,c.rune≠-1→isR c.rune=true) (hok:H.base≤H.next) :
  CallA Tryd.prog 60 [.int .i64 (row:Int),ub,.int .i64 (s:Int),.int .i64 (t:Int),k.val] H (fun out X=>Mod [] H X∧∃ v',out=.ok (.tuple #[v',(runsR row s ((b.take t).drop s) k).2.val])∧OpsX X v' (runsR row s ((b.take t).drop s) k).1∧∀ n∈idsV v',H.next≤n):=by
 obtain⟨x,hx⟩:∃ x,H.next=x:=⟨_,rfl⟩
 have hxb:H.base≤x:=hx▸hok
 have hne:b≠[]:=fun e=>by rw[e,zB8]at htb; omega
 refine callE_fn mixed Tryd.func60 rfl Tryd.ntmps60 (zA7 rfl) ?_
 simp (maxDischargeDepth:=6) only[Lk.val,hx,hxb,xD,ruW,putL,Nat.reduceLeDiff,xF,ruU,entryE,Nat.reduceLT,Nat.reduceAdd,Nat.reduceMul,Nat.reduceEqDiff]
 refine w_env fun E hE=>?_
 have g1:E 1=ub:=by rw[hE]; simp only[ruU,entryE,Nat.reduceLT,Nat.reduceAdd,Nat.reduceMul,Nat.reduceEqDiff]
 have g2:E 2=.int .i64 (s:Int):=by rw[hE]; simp only[ruU,entryE,Nat.reduceLT,Nat.reduceAdd,Nat.reduceMul,Nat.reduceEqDiff]
 have g3:E 3=.int .i64 (t:Int):=by rw[hE]; simp only[ruU,entryE,Nat.reduceLT,Nat.reduceAdd,Nat.reduceMul,Nat.reduceEqDiff]
 have g9:E 9=.pointer (some ⟨x+0,0,none⟩):=by rw[hE]; simp only[ruU,entryE,Nat.reduceLT,Nat.reduceAdd,Nat.reduceMul,Nat.reduceEqDiff]
 have g11:E 11=.pointer (some ⟨x+1,0,none⟩):=by rw[hE]; simp only[ruU,entryE,Nat.reduceLT,Nat.reduceAdd,Nat.reduceMul,Nat.reduceEqDiff]
 have g12:E 12=.slice (some ⟨x+2,0,some 0⟩) 1 1:=by rw[hE]; simp only[ruU,entryE,Nat.reduceLT,Nat.reduceAdd,Nat.reduceMul,Nat.reduceEqDiff]
 clear hE
 generalize hX:ext H _=X
 have mX:Mod [] H X:=hX▸Mod.ext hok
 have nX:X.next=x+3:=by rw[←hX,ext_next,hx]; rfl
 have okX:=mX.ok hok
 have bX0:bk X (x+0)=some ⟨45,false,k.cells⟩:=by rw[←hX,bk_at hx (by simp)]; rfl
 have bX1:bk X (x+1)=some ⟨45,false,lk0.cells⟩:=by rw[←hX,bk_at hx (by simp)]; rfl
 have bX2:bk X (x+2)=some ⟨47,false,opsOf [opM row s]⟩:=by rw[←hX,bk_at hx (by simp)]; rfl
 clear hX
 obtain⟨L,hL⟩:∃ L,(runsR row s ((b.take t).drop s) k).1=L:=⟨_,rfl⟩
 obtain⟨K,hK⟩:∃ K,(runsR row s ((b.take t).drop s) k).2=K:=⟨_,rfl⟩
 rw[hL,hK]
 simp only[runsR]at hL hK
 have hcs:((b.take t).drop s).length=t-s:=by simp; omega
 rw[hcs]at hL hK
 refine blockC_meet (fun E' Y=>∃ v,E' 9=.pointer (some ⟨x+0,0,none⟩)∧E' 11=.pointer (some ⟨x+1,0,none⟩)∧E' 12=v∧Mod [] H Y∧x+3≤Y.next∧bk Y (x+0)=some ⟨45,false,K.cells⟩∧bk Y (x+1)=some ⟨45,false,lk0.cells⟩∧OpsX Y v L∧∀ n∈idsV v,x+2≤n) ?_ ?_
 ·refine w_loop (fun (q:Nat × Nat × Value × List Op × Lk) E' Y=>E' 1=ub∧E' 2=.int .i64 (q.2.1:Int)∧E' 3=.int .i64 (t:Int)∧E' 9=.pointer (some ⟨x+0,0,none⟩)∧E' 11=.pointer (some ⟨x+1,0,none⟩)∧E' 12=q.2.2.1∧Mod [] H Y∧x+3≤Y.next∧bk Y (x+0)=some ⟨45,false,q.2.2.2.2.cells⟩∧bk Y (x+1)=some ⟨45,false,lk0.cells⟩∧OpsX Y q.2.2.1 q.2.2.2.1∧(∀ n∈idsV q.2.2.1,x+2≤n)∧q.2.1≤t∧t≤q.1+q.2.1∧q.2.2.2.1++(writeR q.1 ((b.take t).drop q.2.1) q.2.2.2.2).1=L∧(writeR q.1 ((b.take t).drop q.2.1) q.2.2.2.2).2=K∧q.2.2.2.1.length≤2*q.2.1+1) (fun q=>q.1) (t-s,s,.slice (some ⟨x+2,0,some 0⟩) 1 1,[opM row s],k)
   ⟨g1,g2,g3,g9,g11,g12,mX,by omega,bX0,bX1,.inr ⟨by simp,_,rfl,bX2,by omega⟩,fun n hn=>by simp only[idsV,zA4]at hn; omega,by simp only; omega,by simp only; omega,hL,hK,by simp⟩ ?_
  clear g1 g2 g3 g9 g11 g12 hL hK bX0 bX1 bX2 mX nX okX E
  clear X
  rintro⟨f,i,v,l,k⟩ E X ⟨g1,g2,g3,g9,g11,g12,mX,xl,bX0,bX1,ho,hid,hit,hfi,hL,hK,hll⟩
  simp only at g2 g12 bX0 ho hid hit hfi hL hK hll
  obtain⟨y,hy⟩:∃ y,X.next=y:=⟨_,rfl⟩
  have okX:=mX.ok hok
  have hyb:X.base≤y:=hy▸okX
  have hrX:=hr.of mX.next fun n hn=>mX.get n (hr.ne hne n hn).2 (by simp)
  rw[show X=ext X [] from rfl]
  by_cases hie:i=t
  ·have hc0:decide ((i:Int)<(t:Int))=false:=by simp[hie]
   have hnil:(b.take t).drop i=[]:=zE3 (by rw[zE7]; omega)
   rw[hnil,writeR_nil]at hL hK
   simp only[zC5]at hL hK
   subst hL hK
   simp (maxDischargeDepth:=6) only[g1,g2,g3,g9,g11,g12,hc0,xD,ruW,putL,Nat.reduceLeDiff,xF,ruU,entryE,Nat.reduceLT,Nat.reduceAdd,Nat.reduceMul,Nat.reduceEqDiff]
   exact joinR_normal ⟨v,by simp only[g9,ruU,entryE,Nat.reduceLT,Nat.reduceAdd,Nat.reduceMul,Nat.reduceEqDiff],by simp only[g11,ruU,entryE,Nat.reduceLT,Nat.reduceAdd,Nat.reduceMul,Nat.reduceEqDiff],by simp only[g12,ruU,entryE,Nat.reduceLT,Nat.reduceAdd,Nat.reduceMul,Nat.reduceEqDiff],mX,xl,bX0,bX1,ho,hid⟩
  have hlt:i<t:=by omega
  have hc0:decide ((i:Int)<(t:Int))=true:=decide_eq_true (by omega)
  obtain⟨f',rfl⟩:∃ f',f=f'+1:=⟨f-1,by omega⟩
  obtain⟨c,hci⟩:∃ c,b[i]?=some c:=⟨_,zA6 (by omega)⟩
  obtain⟨cs,hcs⟩:∃ cs,(b.take t).drop i=cs:=⟨_,rfl⟩
  have hcl:cs.length=t-i:=by rw[←hcs]; simp; omega
  have hcg:∀ j,cs[j]?=if i+j<t then b[i+j]? else none:=fun j=>by
   rw[←hcs,List.getElem?_drop,List.getElem?_take]
  have hcons:∃ cs',cs=c::cs':=by
   have h0:=hcg 0
   rw[zD3,if_pos hlt,hci]at h0
   cases cs with
   |nil=>cases h0
   |cons d cs'=>rw[zF4]at h0; cases h0; exact⟨_,rfl⟩
  obtain⟨cs',hcc⟩:=hcons
  obtain⟨n,hn⟩:∃ n,spanR c.look cs=n:=⟨_,rfl⟩
  have hnl:n≤t-i:=hcl▸hn▸spanR_le c.look cs
  have hn1:1≤n:=by rw[←hn,hcc]; exact spanR_pos c cs'
  rw[hcs]at hL hK
  have hw:writeR (f'+1) cs k=((if c.look=k then [] else [opL c.look])++opT (strR (runesR (cs.take n)))::(writeR f' (cs.drop n) c.look).1,(writeR f' (cs.drop n) c.look).2):=by
   rw[←hn,hcc]; rfl
  rw[hw]at hL hK
  clear hw
  simp only at hL hK
  rcases id hrX with⟨h,_⟩|⟨_,n1,o1,s1,x1,t1,p1,L1,ev1,b1,n1l,le1,tk1⟩
  ·exact absurd h hne
  have i1:=row_ia (n:=n1) (off:=o1) (s:=s1) (cap:=x1) (len:=b.length) (i:=(i:Int)) rfl (by omega)
  have q1:=look_load (e:=t1) (o:=p1) hci le1 tk1
  rw[hy]at n1l
  have g1':=g1
  rw[ev1]at g1'
  have lx0:x+0<y:=by omega
  have bX0':=bX0
  simp only[Lk.cells]at bX0'
  obtain⟨d,hd⟩:∃ d,decide (c.look=k)=d:=⟨_,rfl⟩
  simp (maxDischargeDepth:=6) only[g1',g2,g3,g9,g11,g12,hy,hyb,hc0,i1,b1,n1l,q1,qk_old,Lk.val,lx0,bX0',xD,ruW,putL,Nat.reduceLeDiff,xF,ruU,entryE,Nat.reduceLT,Nat.reduceAdd,Nat.reduceMul,Nat.reduceEqDiff]
  generalize hY:ext X _=Y
  have mY:Mod [] X Y:=hY▸Mod.ext okX
  have nY:Y.next=y+1:=by rw[←hY,ext_next,hy]; rfl
  have kY:bk Y (y+0)=some ⟨45,false,c.look.cells⟩:=by rw[←hY,bk_at hy (by simp)]; rfl
  clear hY
  have okY:=mY.ok okX
  have hYb:Y.base≤y+1:=nY▸okY
  have kY':=kY
  simp only[Lk.cells]at kY'
  have kY0:=(mY.bk (n:=x+0) (by omega) (by simp)).trans bX0
  have kY1:=(mY.bk (n:=x+1) (by omega) (by simp)).trans bX1
  have hoY:=ho.mod0 mY
  have ly0:y+0<y+1:=by omega
  have lxY:x+0<y+1:=by omega
  rw[show Y=ext Y [] from rfl]
  refine w_eqS (ts:=[3,3,4,4,4]) (xs:=c.look.cells) (ys:=k.cells) (r:=!decide (c.look=k)) fl45 ag45 gd45 (by rw[lk_eqL]; rfl) (by simp only[ruU,entryE,Nat.reduceLT,Nat.reduceAdd,Nat.reduceMul,Nat.reduceEqDiff]) (by simp only[ruU,entryE,Nat.reduceLT,Nat.reduceAdd,Nat.reduceMul,Nat.reduceEqDiff]) (by decide) (by simp only[ruU,entryE,Nat.reduceLT,Nat.reduceAdd,Nat.reduceMul,Nat.reduceEqDiff]; rfl) (by simp only[ruU,entryE,Nat.reduceLT,Nat.reduceAdd,Nat.reduceMul,Nat.reduceEqDiff]; rfl) (lk_fits _) (lk_fits _) ?_
  simp (maxDischargeDepth:=6) only[hd,xD,ruW,putL,Nat.reduceLeDiff,xF,ruU,entryE,Nat.reduceLT,Nat.reduceAdd,Nat.reduceMul,Nat.reduceEqDiff]
  refine condC_meet (fun E' Z=>E' 1=ub∧E' 2=.int .i64 (i:Int)∧E' 3=.int .i64 (t:Int)∧E' 9=.pointer (some ⟨x+0,0,none⟩)∧E' 11=.pointer (some ⟨x+1,0,none⟩)∧E' 13=.pointer (some ⟨y+0,0,none⟩)∧Mod [] H Z∧y+1≤Z.next∧bk Z (x+0)=some ⟨45,false,c.look.cells⟩∧bk Z (x+1)=some ⟨45,false,lk0.cells⟩∧bk Z (y+0)=some ⟨45,false,c.look.cells⟩∧∃ v2,E' 12=v2∧OpsX Z v2 (l++if c.look=k then [] else [opL c.look])∧∀ n∈idsV v2,x+2≤n∧n≠y+0) ?_ ?_
  ·cases d with
   |true =>
    have he:=of_decide_eq_true hd
    simp (maxDischargeDepth:=6) only[zB5,xD,ruW,putL,Nat.reduceLeDiff,xF,ruU,entryE,Nat.reduceLT,Nat.reduceAdd,Nat.reduceMul,Nat.reduceEqDiff]
    refine joinR_normal ⟨by simp only[g1,ruU,entryE,Nat.reduceLT,Nat.reduceAdd,Nat.reduceMul,Nat.reduceEqDiff],by simp only[g2,ruU,entryE,Nat.reduceLT,Nat.reduceAdd,Nat.reduceMul,Nat.reduceEqDiff],by simp only[g3,ruU,entryE,Nat.reduceLT,Nat.reduceAdd,Nat.reduceMul,Nat.reduceEqDiff],by simp only[g9,ruU,entryE,Nat.reduceLT,Nat.reduceAdd,Nat.reduceMul,Nat.reduceEqDiff],by simp only[g11,ruU,entryE,Nat.reduceLT,Nat.reduceAdd,Nat.reduceMul,Nat.reduceEqDiff],by simp only[ruU,entryE,Nat.reduceLT,Nat.reduceAdd,Nat.reduceMul,Nat.reduceEqDiff],mX.trans mY,by rw[show (ext Y []).next=y+1 from nY]; exact zA5 _,?_,kY1,kY,v,by simp only[g12,ruU,entryE,Nat.reduceLT,Nat.reduceAdd,Nat.reduceMul,Nat.reduceEqDiff],?_,fun n hn=>⟨hid n hn,?_⟩⟩
    ·rw[he]; exact kY0
    ·rw[if_pos he,zC5]; exact hoY
    ·have:=(ho.ne n hn).2; omega
   |false =>
    have he:=of_decide_eq_false hd
    obtain⟨v2,G,k1,k2,k3,k4⟩:=opsX_new (m:=1) (l2:=[opL c.look]) hoY nY okY (opL_cells c.look) rfl (Nat.succ_pos _) (by simp only[zF8]; omega)
    have hny:y+0∉idsV v:=fun h=>by have:=(ho.ne _ h).2; omega
    have hnx:x+0∉idsV v:=fun h=>by have:=hid _ h; omega
    have hnx1:x+1∉idsV v:=fun h=>by have:=hid _ h; omega
    have hGn:=k3.next
    obtain⟨z,hz⟩:∃ z,G.next=z:=⟨_,rfl⟩
    have lz0:x+0<z:=by omega
    have lzy:y+0<z:=by omega
    have kG:=(k3.bk (n:=y+0) (by omega) hny).trans kY
    have kG0:=(k3.bk (n:=x+0) (by omega) hnx).trans kY0
    have kG1:=(k3.bk (n:=x+1) (by omega) hnx1).trans kY1
    have kG':=kG
    simp only[Lk.cells]at kG'
    have kG0':=kG0
    simp only[Lk.cells]at kG0'
    simp (maxDischargeDepth:=6) only[g1,g2,g3,g9,g11,g12,nY,hYb,kY',ly0,k1,hz,lz0,lzy,kG',kG0',zC0,xD,ruW,putL,Nat.reduceLeDiff,xF,ruU,entryE,Nat.reduceLT,Nat.reduceAdd,Nat.reduceMul,Nat.reduceEqDiff]
    generalize hU:uw G (x+0) 0 _=U
    have mU:Mod [x+0] G U:=hU▸Mod.uw (by simp)
    have hU2:bk U (x+0)=some ⟨45,false,c.look.cells⟩:=by rw[←hU,bk_uw_eq,kG0']; rfl
    have hid2:∀ n∈idsV v2,x+2≤n∧n≠y+0:=fun n hn=>by
     rcases k4 n hn with h|h
     ·exact⟨hid n h,fun e=>hny (e▸h)⟩
     ·omega
    have mXG:Mod [] H G:=(mX.trans mY).step k3 hok fun n hn=>.inr (by have:=hid n hn; omega)
    have hUn:=mU.next
    refine joinR_normal ⟨by simp only[g1,ruU,entryE,Nat.reduceLT,Nat.reduceAdd,Nat.reduceMul,Nat.reduceEqDiff],by simp only[g2,ruU,entryE,Nat.reduceLT,Nat.reduceAdd,Nat.reduceMul,Nat.reduceEqDiff],by simp only[g3,ruU,entryE,Nat.reduceLT,Nat.reduceAdd,Nat.reduceMul,Nat.reduceEqDiff],by simp only[g9,ruU,entryE,Nat.reduceLT,Nat.reduceAdd,Nat.reduceMul,Nat.reduceEqDiff],by simp only[g11,ruU,entryE,Nat.reduceLT,Nat.reduceAdd,Nat.reduceMul,Nat.reduceEqDiff],by simp only[ruU,entryE,Nat.reduceLT,Nat.reduceAdd,Nat.reduceMul,Nat.reduceEqDiff],mXG.step mU hok (fun n hn=>.inr (by simp only[zA4]at hn; omega)),by rw[ext_next]; simp only[zB8]; omega,hU2,?_,?_,v2,by simp only[ruU,entryE,Nat.reduceLT,Nat.reduceAdd,Nat.reduceMul,Nat.reduceEqDiff],?_,hid2⟩
    ·exact (mU.bk (by omega) (by simp)).trans kG1
    ·exact (mU.bk (by omega) (by simp only[zA4]; omega)).trans kG
    ·rw[if_neg he]
     exact .inl (k2.of mU.next fun n hn=>mU.get n (k2.ne n hn).2 (by simp only[zA4]; have:=hid2 n hn; omega))
  clear g1 g1' g2 g3 g9 g11 g12 hd d kY kY' kY0 kY1 hoY lxY ly0 hYb E
  rintro E Z ⟨g1,g2,g3,g9,g11,g13,mZ,zl,bZ0,bZ1,bZy,v2,g12,hoZ,hid2⟩
  have okZ:=mZ.ok hok
  have hrZ:=hr.of mZ.next fun n hn=>mZ.get n (hr.ne hne n hn).2 (by simp)
  obtain⟨T,hT⟩:∃ T,cs.take n=T:=⟨_,rfl⟩
  have hTl:T.length=n:=by rw[←hT,zE7]; omega
  have hTc:∀ c∈T,c.rune≠-1→isR c.rune=true:=fun c h=>hc c (by
   rw[←hT,←hcs]at h
   exact zD4 (zD5 (zD4 h)))
  rw[hT]at hL
  have hcT:∀ j,j<n→T[j]?=b[i+j]?:=fun j hj=>by
   rw[←hT,List.getElem?_take,if_pos hj,hcg,if_pos (by omega)]
  obtain⟨z,hz⟩:∃ z,Z.next=z:=⟨_,rfl⟩
  simp (maxDischargeDepth:=6) only[xD,ruW,putL,Nat.reduceLeDiff,xF,ruU,entryE,Nat.reduceLT,Nat.reduceAdd,Nat.reduceMul,Nat.reduceEqDiff]
  refine w_env fun E' hE=>?_
  have r1:E' 1=ub:=by rw[hE]; simp only[g1,ruU,entryE,Nat.reduceLT,Nat.reduceAdd,Nat.reduceMul,Nat.reduceEqDiff]
  have r2:E' 2=.int .i64 ((i+0:Nat):Int):=by rw[hE]; simp only[g2,ruU,entryE,Nat.reduceLT,Nat.reduceAdd,Nat.reduceMul,Nat.reduceEqDiff]<;>rfl
  have r3:E' 3=.int .i64 (t:Int):=by rw[hE]; simp only[g3,ruU,entryE,Nat.reduceLT,Nat.reduceAdd,Nat.reduceMul,Nat.reduceEqDiff]
  have r9:E' 9=.pointer (some ⟨x+0,0,none⟩):=by rw[hE]; simp only[g9,ruU,entryE,Nat.reduceLT,Nat.reduceAdd,Nat.reduceMul,Nat.reduceEqDiff]
  have r11:E' 11=.pointer (some ⟨x+1,0,none⟩):=by rw[hE]; simp only[g11,ruU,entryE,Nat.reduceLT,Nat.reduceAdd,Nat.reduceMul,Nat.reduceEqDiff]
  have r12:E' 12=v2:=by rw[hE]; simp only[g12,ruU,entryE,Nat.reduceLT,Nat.reduceAdd,Nat.reduceMul,Nat.reduceEqDiff]
  have r13:E' 13=.pointer (some ⟨y+0,0,none⟩):=by rw[hE]; simp only[g13,ruU,entryE,Nat.reduceLT,Nat.reduceAdd,Nat.reduceMul,Nat.reduceEqDiff]
  have r14:E' 14=.slice none 0 0:=by rw[hE]; simp only[ruU,entryE,Nat.reduceLT,Nat.reduceAdd,Nat.reduceMul,Nat.reduceEqDiff]
  clear hE g1 g2 g3 g9 g11 g12 g13 E
  refine blockC_meet (fun E' W=>E' 1=ub∧E' 2=.int .i64 ((i+n:Nat):Int)∧E' 3=.int .i64 (t:Int)∧E' 9=.pointer (some ⟨x+0,0,none⟩)∧E' 11=.pointer (some ⟨x+1,0,none⟩)∧E' 12=v2∧∃ u,E' 14=u∧Mod [] Z W∧VsAt W 3 1 u (iv (runesR T)) (runesR T).length) ?_ ?_
  ·refine w_loop (fun (q:Nat × Value) E' W=>E' 1=ub∧E' 2=.int .i64 ((i+q.1:Nat):Int)∧E' 3=.int .i64 (t:Int)∧E' 9=.pointer (some ⟨x+0,0,none⟩)∧E' 11=.pointer (some ⟨x+1,0,none⟩)∧E' 12=v2∧E' 13=.pointer (some ⟨y+0,0,none⟩)∧E' 14=q.2∧q.1≤n∧spanR c.look (cs.drop q.1)+q.1=n∧Mod [] Z W∧VsAt W 3 1 q.2 (iv (runesR (T.take q.1))) (runesR (T.take q.1)).length∧∀ m∈idsV q.2,z≤m) (fun q=>n-q.1) (0,.slice none 0 0)
    ⟨r1,r2,r3,r9,r11,r12,r13,r14,zB0 _,by rw[zD1]; exact hn,Mod.refl,VsAt.nil,fun m hm=>by simp[idsV]at hm⟩ ?_
   clear r1 r2 r3 r9 r11 r12 r13 r14
   rintro⟨j,u⟩ E W ⟨g1,g2,g3,g9,g11,g12,g13,g14,hj,hsp,mW,ht,hidu⟩
   simp only at g2 g14 hj hsp ht hidu
   obtain⟨w,hw⟩:∃ w,W.next=w:=⟨_,rfl⟩
   have okW:=mW.ok okZ
   have hwb:W.base≤w:=hw▸okW
   have hzw:=mW.next
   have bWy:=(mW.bk (n:=y+0) (by omega) (by simp)).trans bZy
   simp only[Lk.cells]at bWy
   have lwy:y+0<w:=by omega
   rw[show W=ext W [] from rfl]
   rcases id (hrZ.of mW.next fun n hn=>mW.get n (hrZ.ne hne n hn).2 (by simp)) with⟨h,_⟩|⟨_,n2,o2,s2,x2,t2,p2,L2,ev2,b2,n2l,le2,tk2⟩
   ·exact absurd h hne
   rw[hw]at n2l
   have g1':=g1
   rw[ev2]at g1'
   by_cases hjn:j=n
   ·subst hjn
    rw[zE6 (by omega)]at ht
    by_cases hjt:i+j<t
    ·have hc0:decide (((i+j:Nat):Int)<(t:Int))=true:=decide_eq_true (by omega)
     obtain⟨cj,hcj⟩:∃ r,b[i+j]?=some r:=⟨_,zA6 (by omega)⟩
     have hcj':cs[j]?=some cj:=by rw[hcg,if_pos hjt]; exact hcj
     have hne3:=spanR_end hsp hcj'
     have i2:=row_ia (n:=n2) (off:=o2) (s:=s2) (cap:=x2) (len:=b.length) (i:=((i+j:Nat):Int)) rfl (by omega)
     have q2:=look_load (e:=t2) (o:=p2) hcj le2 tk2
     simp (maxDischargeDepth:=6) only[g1',g2,g3,g9,g11,g12,g13,g14,xD,ruW,putL,Nat.reduceLeDiff,xF,ruU,entryE,Nat.reduceLT,Nat.reduceAdd,Nat.reduceMul,Nat.reduceEqDiff]
     refine w_drawB [] [(3,41)] (by kernel_rfl) rfl (by kernel_rfl) fun ops anc hA hG=>?_
     simp only[all2_cons]at hG
     simp (maxDischargeDepth:=6) only[g1',g2,g3,g9,g11,g12,g13,g14,hw,hc0,hG,i2,b2,n2l,q2,qk_old,bWy,lwy,Lk.val,xD,ruD,ruW,putL,Nat.reduceLeDiff,xF,ruU,entryE,Nat.reduceLT,Nat.reduceAdd,Nat.reduceMul,Nat.reduceEqDiff]
     refine wd_eqS (ts:=[3,3,4,4,4]) (xs:=cj.look.cells) (ys:=c.look.cells) (r:=false) fl45 ag45 gd45 (by rw[lk_eqL,decide_eq_false hne3]; rfl) (by simp only[ruU,entryE,Nat.reduceLT,Nat.reduceAdd,Nat.reduceMul,Nat.reduceEqDiff]) (by simp only[ruU,entryE,Nat.reduceLT,Nat.reduceAdd,Nat.reduceMul,Nat.reduceEqDiff]) (by decide) (by simp only[ruU,entryE,Nat.reduceLT,Nat.reduceAdd,Nat.reduceMul,Nat.reduceEqDiff]; rfl) (by simp only[ruU,entryE,Nat.reduceLT,Nat.reduceAdd,Nat.reduceMul,Nat.reduceEqDiff]; rfl) (lk_fits _) (lk_fits _) ?_
     simp (maxDischargeDepth:=6) only[g1',g2,g3,g9,g11,g12,g13,g14,hG,xD,ruD,ruW,putL,Nat.reduceLeDiff,xF,ruU,entryE,Nat.reduceLT,Nat.reduceAdd,Nat.reduceMul,Nat.reduceEqDiff]
     exact joinR_normal ⟨by simp only[g1,ruU,entryE,Nat.reduceLT,Nat.reduceAdd,Nat.reduceMul,Nat.reduceEqDiff],by simp only[g2,ruU,entryE,Nat.reduceLT,Nat.reduceAdd,Nat.reduceMul,Nat.reduceEqDiff],by simp only[g3,ruU,entryE,Nat.reduceLT,Nat.reduceAdd,Nat.reduceMul,Nat.reduceEqDiff],by simp only[g9,ruU,entryE,Nat.reduceLT,Nat.reduceAdd,Nat.reduceMul,Nat.reduceEqDiff],by simp only[g11,ruU,entryE,Nat.reduceLT,Nat.reduceAdd,Nat.reduceMul,Nat.reduceEqDiff],by simp only[g12,ruU,entryE,Nat.reduceLT,Nat.reduceAdd,Nat.reduceMul,Nat.reduceEqDiff],u,by simp only[g14,ruU,entryE,Nat.reduceLT,Nat.reduceAdd,Nat.reduceMul,Nat.reduceEqDiff],mW,ht⟩
    ·have hc0:decide (((i+j:Nat):Int)<(t:Int))=false:=decide_eq_false (by omega)
     simp (maxDischargeDepth:=6) only[g1',g2,g3,g9,g11,g12,g13,g14,xD,ruW,putL,Nat.reduceLeDiff,xF,ruU,entryE,Nat.reduceLT,Nat.reduceAdd,Nat.reduceMul,Nat.reduceEqDiff]
     refine w_drawB [] [(3,41)] (by kernel_rfl) rfl (by kernel_rfl) fun ops anc hA hG=>?_
     simp only[all2_cons]at hG
     simp (maxDischargeDepth:=6) only[g1',g2,g3,g9,g11,g12,g13,g14,hw,hc0,hG,xD,ruD,ruW,putL,Nat.reduceLeDiff,xF,ruU,entryE,Nat.reduceLT,Nat.reduceAdd,Nat.reduceMul,Nat.reduceEqDiff]
     exact joinR_normal ⟨by simp only[g1,ruU,entryE,Nat.reduceLT,Nat.reduceAdd,Nat.reduceMul,Nat.reduceEqDiff],by simp only[g2,ruU,entryE,Nat.reduceLT,Nat.reduceAdd,Nat.reduceMul,Nat.reduceEqDiff],by simp only[g3,ruU,entryE,Nat.reduceLT,Nat.reduceAdd,Nat.reduceMul,Nat.reduceEqDiff],by simp only[g9,ruU,entryE,Nat.reduceLT,Nat.reduceAdd,Nat.reduceMul,Nat.reduceEqDiff],by simp only[g11,ruU,entryE,Nat.reduceLT,Nat.reduceAdd,Nat.reduceMul,Nat.reduceEqDiff],by simp only[g12,ruU,entryE,Nat.reduceLT,Nat.reduceAdd,Nat.reduceMul,Nat.reduceEqDiff],u,by simp only[g14,ruU,entryE,Nat.reduceLT,Nat.reduceAdd,Nat.reduceMul,Nat.reduceEqDiff],mW,ht⟩
   obtain⟨cj,hcj',hlk,hsp2⟩:=spanR_head hsp (by omega)
   have hcj:b[i+j]?=some cj:=by
    have:=hcg j
    rw[hcj',if_pos (by omega)]at this
    exact this.symm
   have hTj:T[j]?=some cj:=(hcT j (by omega)).trans hcj
   have hc0:decide (((i+j:Nat):Int)<(t:Int))=true:=decide_eq_true (by omega)
   have i2:=row_ia (n:=n2) (off:=o2) (s:=s2) (cap:=x2) (len:=b.length) (i:=((i+j:Nat):Int)) rfl (by omega)
   have q2:=look_load (e:=t2) (o:=p2) hcj le2 tk2
   have q3:=run_load (e:=t2) (o:=p2) hcj le2 tk2
   have htl:=runesR_take hTj
   have hrl:=zD7 (runesR_len (T.take j)) (List.length_take_le j T)
   obtain⟨d,hd⟩:∃ d,decide (¬cj.rune=-1)=d:=⟨_,rfl⟩
   simp (maxDischargeDepth:=6) only[g1',g2,g3,g9,g11,g12,g13,g14,xD,ruW,putL,Nat.reduceLeDiff,xF,ruU,entryE,Nat.reduceLT,Nat.reduceAdd,Nat.reduceMul,Nat.reduceEqDiff]
   refine w_drawB [] [(3,41)] (by kernel_rfl) rfl (by kernel_rfl) fun ops anc hA hG=>?_
   simp only[all2_cons]at hG
   simp (maxDischargeDepth:=6) only[g1',g2,g3,g9,g11,g12,g13,g14,hw,hc0,hG,i2,b2,n2l,q2,qk_old,bWy,lwy,Lk.val,xD,ruD,ruW,putL,Nat.reduceLeDiff,xF,ruU,entryE,Nat.reduceLT,Nat.reduceAdd,Nat.reduceMul,Nat.reduceEqDiff]
   refine wd_eqS (ts:=[3,3,4,4,4]) (xs:=cj.look.cells) (ys:=c.look.cells) (r:=true) fl45 ag45 gd45 (by rw[lk_eqL,decide_eq_true hlk]; rfl) (by simp only[ruU,entryE,Nat.reduceLT,Nat.reduceAdd,Nat.reduceMul,Nat.reduceEqDiff]) (by simp only[ruU,entryE,Nat.reduceLT,Nat.reduceAdd,Nat.reduceMul,Nat.reduceEqDiff]) (by decide) (by simp only[ruU,entryE,Nat.reduceLT,Nat.reduceAdd,Nat.reduceMul,Nat.reduceEqDiff]; rfl) (by simp only[ruU,entryE,Nat.reduceLT,Nat.reduceAdd,Nat.reduceMul,Nat.reduceEqDiff]; rfl) (lk_fits _) (lk_fits _) ?_
   simp (maxDischargeDepth:=6) only[g1',g2,g3,g9,g11,g12,g13,g14,hG,hw,i2,b2,n2l,q3,qk_old,hd,xD,ruD,ruW,putL,Nat.reduceLeDiff,xF,ruU,entryE,Nat.reduceLT,Nat.reduceAdd,Nat.reduceMul,Nat.reduceEqDiff]
   cases d with
   |false =>
    have he:cj.rune=-1:=by simpa using of_decide_eq_false hd
    rw[if_pos he,zC5]at htl
    simp (maxDischargeDepth:=6) only[g1',g2,g3,g9,g11,g12,g13,g14,wrap_succ (show i+j<1000000 by omega),xD,ruW,putL,Nat.reduceLeDiff,xF,ruU,entryE,Nat.reduceLT,Nat.reduceAdd,Nat.reduceMul,Nat.reduceEqDiff]
    refine loopC_next ⟨(j+1,u),by simp only; omega,by simp only[g1,ruU,entryE,Nat.reduceLT,Nat.reduceAdd,Nat.reduceMul,Nat.reduceEqDiff],by simp only[ruU,entryE,Nat.reduceLT,Nat.reduceAdd,Nat.reduceMul,Nat.reduceEqDiff]<;>rfl,by simp only[g3,ruU,entryE,Nat.reduceLT,Nat.reduceAdd,Nat.reduceMul,Nat.reduceEqDiff],by simp only[g9,ruU,entryE,Nat.reduceLT,Nat.reduceAdd,Nat.reduceMul,Nat.reduceEqDiff],by simp only[g11,ruU,entryE,Nat.reduceLT,Nat.reduceAdd,Nat.reduceMul,Nat.reduceEqDiff],by simp only[g12,ruU,entryE,Nat.reduceLT,Nat.reduceAdd,Nat.reduceMul,Nat.reduceEqDiff],by simp only[g13,ruU,entryE,Nat.reduceLT,Nat.reduceAdd,Nat.reduceMul,Nat.reduceEqDiff],by simp only[g14,ruU,entryE,Nat.reduceLT,Nat.reduceAdd,Nat.reduceMul,Nat.reduceEqDiff],by simp only; omega,hsp2,mW,?_,hidu⟩
    simp only[htl]
    exact ht
   |true =>
    have he:¬cj.rune=-1:=of_decide_eq_true hd
    rw[if_neg he]at htl
    obtain⟨G,k1,k2,k3,k4⟩:=int_app (c:=cj.rune) ht hw okW (by omega)
    simp (maxDischargeDepth:=6) only[g1',g2,g3,g9,g11,g12,g13,g14,hw,hwb,i2,b2,n2l,q3,qk_old,k1,wrap_succ (show i+j<1000000 by omega),xD,ruW,putL,Nat.reduceLeDiff,xF,ruU,entryE,Nat.reduceLT,Nat.reduceAdd,Nat.reduceMul,Nat.reduceEqDiff]
    refine loopC_next ⟨(j+1,.slice (some ⟨w+1,0,none⟩) ((runesR (T.take j)).length+1) ((runesR (T.take j)).length+1)),by simp only; omega,by simp only[g1,ruU,entryE,Nat.reduceLT,Nat.reduceAdd,Nat.reduceMul,Nat.reduceEqDiff],by simp only[ruU,entryE,Nat.reduceLT,Nat.reduceAdd,Nat.reduceMul,Nat.reduceEqDiff]<;>rfl,by simp only[g3,ruU,entryE,Nat.reduceLT,Nat.reduceAdd,Nat.reduceMul,Nat.reduceEqDiff],by simp only[g9,ruU,entryE,Nat.reduceLT,Nat.reduceAdd,Nat.reduceMul,Nat.reduceEqDiff],by simp only[g11,ruU,entryE,Nat.reduceLT,Nat.reduceAdd,Nat.reduceMul,Nat.reduceEqDiff],by simp only[g12,ruU,entryE,Nat.reduceLT,Nat.reduceAdd,Nat.reduceMul,Nat.reduceEqDiff],by simp only[g13,ruU,entryE,Nat.reduceLT,Nat.reduceAdd,Nat.reduceMul,Nat.reduceEqDiff],by simp only[ruU,entryE,Nat.reduceLT,Nat.reduceAdd,Nat.reduceMul,Nat.reduceEqDiff],by simp only; omega,hsp2,?_,?_,?_⟩
    ·exact mW.step k3 okZ fun m hm=>.inr (by rw[hz]; exact hidu m hm)
    ·simp only[htl]
     exact k2
    ·intro m hm
     simp only[idsV,zA4]at hm
     omega
  clear r1 r2 r3 r9 r11 r12 r13 r14 E'
  rintro E W ⟨g1,g2,g3,g9,g11,g12,u,g14,mW,ht⟩
  have hall:∀ c∈runesR T,isR c=true:=fun c h=>by
   simp only[runesR,List.mem_filter,List.mem_map,decide_eq_true_eq]at h
   obtain⟨⟨e,h1,rfl⟩,h2⟩:=h
   exact hTc e h1 h2
  have hrl:=runesR_len T
  obtain⟨w,hw⟩:∃ w,W.next=w:=⟨_,rfl⟩
  have okW:=mW.ok okZ
  have hwb:W.base≤w:=hw▸okW
  have hzw:=mW.next
  have hoW:=hoZ.mod0 mW
  have hl3:(l++if c.look=k then [] else [opL c.look]).length≤l.length+1:=by
   rw[zB7]
   split<;>simp
  obtain⟨v3,G,k1,k2,k3,k4⟩:=opsX_new (m:=1) (l2:=[opT (strR (runesR T))]) hoW hw okW (opT_cells _) rfl (Nat.succ_pos _) (by simp only[zF8]; omega)
  rw[show W=ext W [] from rfl]
  simp (maxDischargeDepth:=6) only[g1,g2,g3,g9,g11,g12,g14,xD,ruW,putL,Nat.reduceLeDiff,xF,ruU,entryE,Nat.reduceLT,Nat.reduceAdd,Nat.reduceMul,Nat.reduceEqDiff]
  refine (rtext_c (ext W []) u (runesR T) ht (by omega) hall).to ?_
  simp (maxDischargeDepth:=6) only[g1,g2,g3,g9,g11,g12,g14,hw,hwb,k1,xD,ruW,putL,Nat.reduceLeDiff,xF,ruU,entryE,Nat.reduceLT,Nat.reduceAdd,Nat.reduceMul,Nat.reduceEqDiff]
  have hnv:∀ q,q<x+2→q∉idsV v2:=fun q hq h=>by have:=(hid2 q h).1; omega
  have hGn:=k3.next
  refine loopC_next ⟨(f',i+n,v3,_,c.look),zD2 _,by simp only[g1,ruU,entryE,Nat.reduceLT,Nat.reduceAdd,Nat.reduceMul,Nat.reduceEqDiff],by simp only[g2,ruU,entryE,Nat.reduceLT,Nat.reduceAdd,Nat.reduceMul,Nat.reduceEqDiff],by simp only[g3,ruU,entryE,Nat.reduceLT,Nat.reduceAdd,Nat.reduceMul,Nat.reduceEqDiff],by simp only[g9,ruU,entryE,Nat.reduceLT,Nat.reduceAdd,Nat.reduceMul,Nat.reduceEqDiff],by simp only[g11,ruU,entryE,Nat.reduceLT,Nat.reduceAdd,Nat.reduceMul,Nat.reduceEqDiff],by simp only[ruU,entryE,Nat.reduceLT,Nat.reduceAdd,Nat.reduceMul,Nat.reduceEqDiff],?_,?_,?_,?_,.inl k2,?_,by simp only; omega,by simp only; omega,?_,?_,?_⟩
  ·exact (mZ.trans mW).step k3 hok fun q hq=>.inr (by have:=(hid2 q hq).1; omega)
  ·rw[ext_next]; simp only[zB8]; omega
  ·exact (k3.bk (by omega) (hnv _ (by omega))).trans ((mW.bk (by omega) (by simp)).trans bZ0)
  ·exact (k3.bk (by omega) (hnv _ (by omega))).trans ((mW.bk (by omega) (by simp)).trans bZ1)
  ·intro q hq
   rcases k4 q hq with h|h
   ·exact (hid2 q h).1
   ·omega
  ·have hdr:(b.take t).drop (i+n)=cs.drop n:=by rw[←hcs,List.drop_drop]
   simp only[hdr]
   rw[←hL]; simp
  ·have hdr:(b.take t).drop (i+n)=cs.drop n:=by rw[←hcs,List.drop_drop]
   simp only[hdr]
   exact hK
  ·simp only[zB7,zF8]at hl3 ⊢
   omega
 clear g1 g2 g3 g9 g11 g12 E
 rintro E Y ⟨v,g9,g11,g12,mY,yl,bY0,bY1,ho,hid⟩
 obtain⟨y,hy⟩:∃ y,Y.next=y:=⟨_,rfl⟩
 have ly0:x+0<y:=by omega
 have ly1:x+1<y:=by omega
 have bY0':=bY0
 simp only[Lk.cells]at bY0' bY1
 rw[show Y=ext Y [] from rfl]
 simp (maxDischargeDepth:=6) only[g9,g11,g12,xD,ruW,putL,Nat.reduceLeDiff,xF,ruU,entryE,Nat.reduceLT,Nat.reduceAdd,Nat.reduceMul,Nat.reduceEqDiff]
 refine w_drawB [(3,1)] [] (by kernel_rfl) (by kernel_rfl) rfl fun ops anc hA hG=>?_
 simp only[all2_cons]at hA
 simp (maxDischargeDepth:=6) only[g9,g11,g12,hy,ly0,ly1,bY0',bY1,hA,Tryd.results60,xD,ruD,ruW,putL,Nat.reduceLeDiff,xF,ruU,entryE,Nat.reduceLT,Nat.reduceAdd,Nat.reduceMul,Nat.reduceEqDiff]
 generalize hU:uw Y (x+1) 0 _=U
 have mU:Mod [x+1] Y U:=hU▸Mod.uw (by simp)
 refine⟨mY.step mU hok fun n hn=>.inr (by simp only[zA4]at hn; omega),v,rfl,ho.of mU.next fun n hn=>mU.get n (ho.ne n hn).2 ?_,fun n hn=>?_⟩
 ·have:=hid n hn
  simp only[zA4]
  omega
 ·have:=hid n hn
  omega
theorem opMK_cells (r c k:Int):opsOf [opM r c,opK k]=[.int .i64 1,.int .i64 r,.int .i64 c,.int .i64 0,.int .i64 0,.int .i64 0,.bool false,.bool false,.bool false,.string .empty,.int .i64 k,.int .i64 0,.int .i64 0,.int .i64 0,.int .i64 0,.int .i64 0,.bool false,.bool false,.bool false,.string .empty]:=rfl
theorem line41_c (H:AHeap) (ua ub:Value) (a b:List Ce) (k:Lk) (row:Nat) (h0:RowS H ua a) (h1:RowS H ub b) (hab:a.length=b.length) (hne:b≠[]) (hbl:b.length≤10000) (hc:∀ c∈b,c.rune≠-1→isR c.rune=true) (hok:H.base≤H.next) :
  CallA Tryd.prog 41 [.int .i64 (row:Int),ua,ub,k.val] H (fun out X=>Mod [] H X∧∃ v',out=.ok (.tuple #[v',(lineR row a b k).2.val])∧OpsW X v' (lineR row a b k).1∧∀ n∈idsV v',H.next≤n):=by
 obtain⟨x,hx⟩:∃ x,H.next=x:=⟨_,rfl⟩
 have hxb:H.base≤x:=hx▸hok
 have hnea:a≠[]:=fun e=>hne (zD8 (by rw[←hab,e]; rfl))
 obtain⟨T,hT⟩:∃ T,tailR b b.length=T:=⟨_,rfl⟩
 have hTl:=tailR_le b b.length
 rw[hT]at hTl
 refine callE_fn mixed Tryd.func41 rfl Tryd.ntmps41 (zA7 rfl) ?_
 simp (maxDischargeDepth:=6) only[Lk.val,hx,hxb,xD,ruW,putL,Nat.reduceLeDiff,xF,ruU,entryE,Nat.reduceLT,Nat.reduceAdd,Nat.reduceMul,Nat.reduceEqDiff]
 generalize hX:ext H _=X
 have mX:Mod [] H X:=hX▸Mod.ext hok
 have nX:X.next=x+2:=by rw[←hX,ext_next,hx]; rfl
 have okX:=mX.ok hok
 have bX0:bk X (x+0)=some ⟨45,false,k.cells⟩:=by rw[←hX,bk_at hx (by simp)]; rfl
 have bX1:bk X (x+1)=some ⟨45,false,lk0.cells⟩:=by rw[←hX,bk_at hx (by simp)]; rfl
 clear hX
 have h0X:=h0.mod0 mX
 have h1X:=h1.mod0 mX
 rw[show X=ext X [] from rfl]
 have htc:=tail_c' (ext X []) ub b h1X.at_ (by omega)
 rw[hT]at htc
 refine htc.to ?_
 simp (maxDischargeDepth:=6) only[xD,ruW,putL,Nat.reduceLeDiff,xF,ruU,entryE,Nat.reduceLT,Nat.reduceAdd,Nat.reduceMul,Nat.reduceEqDiff]
 refine (piece59_c (ext X []) ua ub a b 0 T h0X.at_ h1X.at_ (by omega) hTl (by omega) (by omega)).to ?_
 simp (maxDischargeDepth:=6) only[xD,ruW,putL,Nat.reduceLeDiff,xF,ruU,entryE,Nat.reduceLT,Nat.reduceAdd,Nat.reduceMul,Nat.reduceEqDiff]
 refine w_env fun E hE=>?_
 have g0:E 0=.int .i64 (row:Int):=by rw[hE]; simp only[ruU,entryE,Nat.reduceLT,Nat.reduceAdd,Nat.reduceMul,Nat.reduceEqDiff]
 have g1:E 1=ua:=by rw[hE]; simp only[ruU,entryE,Nat.reduceLT,Nat.reduceAdd,Nat.reduceMul,Nat.reduceEqDiff]
 have g2:E 2=ub:=by rw[hE]; simp only[ruU,entryE,Nat.reduceLT,Nat.reduceAdd,Nat.reduceMul,Nat.reduceEqDiff]
 have g7:E 7=.pointer (some ⟨x+0,0,none⟩):=by rw[hE]; simp only[ruU,entryE,Nat.reduceLT,Nat.reduceAdd,Nat.reduceMul,Nat.reduceEqDiff]
 have g9:E 9=.pointer (some ⟨x+1,0,none⟩):=by rw[hE]; simp only[ruU,entryE,Nat.reduceLT,Nat.reduceAdd,Nat.reduceMul,Nat.reduceEqDiff]
 have g10:E 10=.slice none 0 0:=by rw[hE]; simp only[ruU,entryE,Nat.reduceLT,Nat.reduceAdd,Nat.reduceMul,Nat.reduceEqDiff]
 have g11:E 11=.int .i64 (T:Int):=by rw[hE]; simp only[ruU,entryE,Nat.reduceLT,Nat.reduceAdd,Nat.reduceMul,Nat.reduceEqDiff]
 have g12:E 12=.int .i64 ((pieceR a b 0 T).1:Int):=by rw[hE]; simp only[ruU,entryE,Nat.reduceLT,Nat.reduceAdd,Nat.reduceMul,Nat.reduceEqDiff]
 have g13:E 13=.int .i64 ((pieceR a b 0 T).2:Int):=by rw[hE]; simp only[ruU,entryE,Nat.reduceLT,Nat.reduceAdd,Nat.reduceMul,Nat.reduceEqDiff]
 clear hE
 obtain⟨L,hL⟩:∃ L,(piecesR row a b T (b.length+1) 0 k).1=L:=⟨_,rfl⟩
 obtain⟨K,hK⟩:∃ K,(piecesR row a b T (b.length+1) 0 k).2=K:=⟨_,rfl⟩
 have hline:lineR row a b k=(L++endR row a b T,K):=by rw[←hK,←hL,←hT]; rfl
 rw[hline]
 simp only
 refine blockC_meet (fun E' Y=>∃ v,E' 0=.int .i64 (row:Int)∧E' 1=ua∧E' 2=ub∧E' 7=.pointer (some ⟨x+0,0,none⟩)∧E' 9=.pointer (some ⟨x+1,0,none⟩)∧E' 10=v∧E' 11=.int .i64 (T:Int)∧Mod [] H Y∧x+2≤Y.next∧bk Y (x+0)=some ⟨45,false,K.cells⟩∧bk Y (x+1)=some ⟨45,false,lk0.cells⟩∧OpsW Y v L∧(∀ n∈idsV v,x+2≤n)∧L.length≤3*b.length) ?_ ?_
 ·refine w_loop (fun (q:Nat × Nat × Value × List Op × Lk) E' Y=>E' 0=.int .i64 (row:Int)∧E' 1=ua∧E' 2=ub∧E' 7=.pointer (some ⟨x+0,0,none⟩)∧E' 9=.pointer (some ⟨x+1,0,none⟩)∧E' 10=q.2.2.1∧E' 11=.int .i64 (T:Int)∧E' 12=.int .i64 ((pieceR a b q.2.1 T).1:Int)∧E' 13=.int .i64 ((pieceR a b q.2.1 T).2:Int)∧Mod [] H Y∧x+2≤Y.next∧bk Y (x+0)=some ⟨45,false,q.2.2.2.2.cells⟩∧bk Y (x+1)=some ⟨45,false,lk0.cells⟩∧OpsW Y q.2.2.1 q.2.2.2.1∧(∀ n∈idsV q.2.2.1,x+2≤n)∧q.2.1≤b.length∧b.length+1≤q.1+q.2.1∧q.2.2.2.1++(piecesR row a b T q.1 q.2.1 q.2.2.2.2).1=L∧(piecesR row a b T q.1 q.2.1 q.2.2.2.2).2=K∧q.2.2.2.1.length≤3*q.2.1) (fun q=>b.length+1-q.2.1) (b.length+1,0,.slice none 0 0,[],k)
   ⟨g0,g1,g2,g7,g9,g10,g11,g12,g13,mX,by simp only[ext_next,zB8]; omega,bX0,bX1,OpsW.nil,fun n hn=>by simp[idsV]at hn,zB0 _,zA5 _,hL,hK,zA5 _⟩ ?_
  clear g0 g1 g2 g7 g9 g10 g11 g12 g13 hL hK bX0 bX1 mX nX okX h0X h1X htc hline E
  clear X
  rintro⟨f,i,v,l,k⟩ E X ⟨g0,g1,g2,g7,g9,g10,g11,g12,g13,mX,xl,bX0,bX1,ho,hid,hib,hfi,hL,hK,hll⟩
  simp only at g10 g12 g13 bX0 ho hid hib hfi hL hK hll
  have okX:=mX.ok hok
  have h0X:=h0.mod0 mX
  have h1X:=h1.mod0 mX
  have hpl:=pieceR_le a b i T hTl hib
  have hpg:=pieceR_ge a b i T
  have hnone:=fun h=>piecesR_none (row:=row) (i:=i) (e:=T) (a:=a) (b:=b) h f k
  have hsome:(pieceR a b i T).1<(pieceR a b i T).2→∀ f',f=f'+1→piecesR row a b T f i k=((runsR row (pieceR a b i T).1 ((b.take (pieceR a b i T).2).drop (pieceR a b i T).1) k).1++(piecesR row a b T f' (pieceR a b i T).2 (runsR row (pieceR a b i T).1 ((b.take (pieceR a b i T).2).drop (pieceR a b i T).1) k).2).1,(piecesR row a b T f' (pieceR a b i T).2 (runsR row (pieceR a b i T).1 ((b.take (pieceR a b i T).2).drop (pieceR a b i T).1) k).2).2):=fun h f' e=>by rw[e,piecesR,if_pos h]
  obtain⟨s,hs⟩:∃ s,(pieceR a b i T).1=s:=⟨_,rfl⟩
  obtain⟨t,ht⟩:∃ t,(pieceR a b i T).2=t:=⟨_,rfl⟩
  rw[hs]at g12 hpg hnone hsome
  rw[ht]at g13 hpl hpg hnone hsome
  obtain⟨y,hy⟩:∃ y,X.next=y:=⟨_,rfl⟩
  rw[show X=ext X [] from rfl]
  by_cases hst:s<t
  case neg =>
   have hc0:decide ((s:Int)<(t:Int))=false:=decide_eq_false (by omega)
   rw[hnone hst]at hL hK
   simp only[zC5]at hL hK
   subst hL hK
   simp (maxDischargeDepth:=6) only[g0,g1,g2,g7,g9,g10,g11,g12,g13,hc0,xD,ruW,putL,Nat.reduceLeDiff,xF,ruU,entryE,Nat.reduceLT,Nat.reduceAdd,Nat.reduceMul,Nat.reduceEqDiff]
   exact joinR_normal ⟨v,by simp only[g0,ruU,entryE,Nat.reduceLT,Nat.reduceAdd,Nat.reduceMul,Nat.reduceEqDiff],by simp only[g1,ruU,entryE,Nat.reduceLT,Nat.reduceAdd,Nat.reduceMul,Nat.reduceEqDiff],by simp only[g2,ruU,entryE,Nat.reduceLT,Nat.reduceAdd,Nat.reduceMul,Nat.reduceEqDiff],by simp only[g7,ruU,entryE,Nat.reduceLT,Nat.reduceAdd,Nat.reduceMul,Nat.reduceEqDiff],by simp only[g9,ruU,entryE,Nat.reduceLT,Nat.reduceAdd,Nat.reduceMul,Nat.reduceEqDiff],by simp only[g10,ruU,entryE,Nat.reduceLT,Nat.reduceAdd,Nat.reduceMul,Nat.reduceEqDiff],by simp only[g11,ruU,entryE,Nat.reduceLT,Nat.reduceAdd,Nat.reduceMul,Nat.reduceEqDiff],mX,xl,bX0,bX1,ho,hid,by omega⟩
  have hc0:decide ((s:Int)<(t:Int))=true:=decide_eq_true (by omega)
  obtain⟨f',hf'⟩:∃ f',f=f'+1:=⟨f-1,by omega⟩
  rw[hsome hst f' hf']at hL hK
  clear hsome hnone
  obtain⟨R,hR⟩:∃ R,runsR row s ((b.take t).drop s) k=R:=⟨_,rfl⟩
  have hRl:R.1.length≤2*(t-s)+1:=by
   have:=runsR_len row s ((b.take t).drop s) k
   have h2:((b.take t).drop s).length=t-s:=by simp; omega
   rw[hR,h2]at this
   exact this
  have hRne:R.1≠[]:=by rw[←hR]; simp[runsR]
  rw[hR]at hL hK
  simp only at hL hK
  have lx0:x+0<y:=by omega
  have bX0':=bX0
  simp only[Lk.cells]at bX0'
  simp (maxDischargeDepth:=6) only[g0,g1,g2,g7,g9,g10,g11,g12,g13,hy,hc0,lx0,bX0',xD,ruW,putL,Nat.reduceLeDiff,xF,ruU,entryE,Nat.reduceLT,Nat.reduceAdd,Nat.reduceMul,Nat.reduceEqDiff]
  have hw60:=write60_c (ext X []) ub b k row s t h1X.at_ hst hpl hbl hc okX
  rw[hR]at hw60
  refine hw60.mono ?_
  rintro _ Y ⟨mY,v6,rfl,ho6,hid6⟩
  replace mY:Mod [] X Y:=mY
  replace hid6:∀ n∈idsV v6,y≤n:=fun n hn=>by have:X.next≤n:=hid6 n hn; omega
  obtain⟨z,hz⟩:∃ z,Y.next=z:=⟨_,rfl⟩
  have okY:=mY.ok okX
  have hzb:Y.base≤z:=hz▸okY
  have hyz:=mY.next
  rw[show Y=ext Y [] from rfl]
  simp (maxDischargeDepth:=6) only[g0,g1,g2,g7,g9,g10,g11,g12,g13,hz,hzb,Lk.val,xD,ruW,putL,Nat.reduceLeDiff,xF,ruU,entryE,Nat.reduceLT,Nat.reduceAdd,Nat.reduceMul,Nat.reduceEqDiff]
  generalize hV:ext Y _=V
  have mV:Mod [] Y V:=hV▸Mod.ext okY
  have nV:V.next=z+1:=by rw[←hV,ext_next,hz]; rfl
  have kV:bk V (z+0)=some ⟨45,false,R.2.cells⟩:=by rw[←hV,bk_at hz (by simp)]; rfl
  clear hV
  have okV:=mV.ok okY
  have mXV:=mY.trans mV
  have hoV:=ho.mod0 mXV
  have ho6V:=ho6.mod0 mV
  have hidv:∀ n∈idsV v,n<y:=fun n hn=>hy▸(ho.ne n hn).2
  rw[show V=ext V [] from rfl]
  refine w_drawB [(4,2),(5,3),(5,2)] [] (by kernel_rfl) (by kernel_rfl) rfl fun ops anc hA hG=>?_
  simp only[all2_cons]at hA
  simp (maxDischargeDepth:=6) only[g0,g1,g2,g7,g9,g10,g11,g12,g13,hA,xD,ruD,ruW,putL,Nat.reduceLeDiff,xF,ruU,entryE,Nat.reduceLT,Nat.reduceAdd,Nat.reduceMul,Nat.reduceEqDiff]
  rw[wd_app (by simp only[ruU,entryE,Nat.reduceLT,Nat.reduceAdd,Nat.reduceMul,Nat.reduceEqDiff])]
  refine genV_appW (l2:=R.1) hoV ho6V.at_ (fun n hn _=>⟨(ho6V.ne n hn).2,(ho6V.ne n hn).1⟩) okV (by omega) (zA7 rfl) (by simp only[ruU,entryE,Nat.reduceLT,Nat.reduceAdd,Nat.reduceMul,Nat.reduceEqDiff]) (by simp only[zC8,zF5,g10,ruU,entryE,Nat.reduceLT,Nat.reduceAdd,Nat.reduceMul,Nat.reduceEqDiff]) (by simp only[all2_nil]) ?_
  intro v7 Z D F' mZ ho7 hid7 hD
  replace mZ:Mod (idsV v) V Z:=mZ
  have hzn:=mZ.next
  obtain⟨z7,hz7⟩:∃ z7,Z.next=z7:=⟨_,rfl⟩
  have okZ:=mZ.ok okV
  have hzn':V.next≤Z.next:=hzn
  have hyz':y≤z:=by have:X.next≤Y.next:=hyz; omega
  have nid:∀ q,y≤q→q∉idsV v:=fun q hq h=>by have:=hidv q h; omega
  have nid2:∀ q,q<x+2→q∉idsV v:=fun q hq h=>by have:=hid q h; omega
  have kZ:bk Z (z+0)=some ⟨45,false,R.2.cells⟩:=(mZ.bk (by omega) (nid _ (by omega))).trans kV
  have kZ0:bk Z (x+0)=some ⟨45,false,k.cells⟩:=(mZ.bk (by omega) (nid2 _ (by omega))).trans ((mXV.bk (by omega) (by simp)).trans bX0)
  have kZ1:bk Z (x+1)=some ⟨45,false,lk0.cells⟩:=(mZ.bk (by omega) (nid2 _ (by omega))).trans ((mXV.bk (by omega) (by simp)).trans bX1)
  have kZ':=kZ
  simp only[Lk.cells]at kZ'
  have kZ0':=kZ0
  simp only[Lk.cells]at kZ0'
  have lz0:z+0<z7:=by omega
  have lz1:x+0<z7:=by omega
  have lzn:¬z+0=x+0:=by omega
  rw[show Z=ext Z [] from rfl]
  simp (maxDischargeDepth:=6) only[g0,g1,g2,g7,g9,g10,g11,g12,g13,hz7,kZ',kZ0',lz0,lz1,lzn,hA,xD,ruD,ruW,putL,Nat.reduceLeDiff,xF,ruU,entryE,Nat.reduceLT,Nat.reduceAdd,Nat.reduceMul,Nat.reduceEqDiff]
  refine⟨.inr ⟨fun n hn e=>?_,fun _=>.inl (by omega)⟩,?_⟩
  ·have:=hidv n (hD n hn); omega
  generalize hU:uw Z (x+0) 0 _=U
  have mU:Mod [x+0] Z U:=hU▸Mod.uw (by simp)
  have kU0:bk U (x+0)=some ⟨45,false,R.2.cells⟩:=by rw[←hU,bk_uw_eq,kZ0']; rfl
  clear hU
  have hnv7:∀ n∈idsV v7,x+2≤n:=fun n hn=>by
   rcases hid7 n hn with h|h
   ·exact hid n h
   ·have:V.next≤n:=h; omega
  have kU1:=(mU.bk (n:=x+1) (by omega) (by simp only[zA4]; omega)).trans kZ1
  have oU:OpsW U v7 (l++R.1):=ho7.of mU.next fun n hn=>mU.get n (ho7.ne n hn).2 (by simp only[zA4]; have:=hnv7 n hn; omega)
  have mHU:Mod [] H U:=((mX.trans mXV).step mZ hok fun n hn=>.inr (by have:=hid n hn; omega)).step mU hok fun n hn=>.inr (by simp only[zA4]at hn; omega)
  have nU:=mU.next
  refine (piece59_c (ext U []) ua ub a b t T (h0.mod0 mHU).at_ (h1.mod0 mHU).at_ (by omega) hTl (by omega) (by omega)).to ?_
  simp (maxDischargeDepth:=6) only[g0,g1,g2,g7,g9,g10,g11,g12,g13,xD,ruW,putL,Nat.reduceLeDiff,xF,ruU,entryE,Nat.reduceLT,Nat.reduceAdd,Nat.reduceMul,Nat.reduceEqDiff]
  refine loopC_next ⟨(f',t,v7,l++R.1,R.2),by simp only; omega,by simp only[g0,ruU,entryE,Nat.reduceLT,Nat.reduceAdd,Nat.reduceMul,Nat.reduceEqDiff],by simp only[g1,ruU,entryE,Nat.reduceLT,Nat.reduceAdd,Nat.reduceMul,Nat.reduceEqDiff],by simp only[g2,ruU,entryE,Nat.reduceLT,Nat.reduceAdd,Nat.reduceMul,Nat.reduceEqDiff],by simp only[g7,ruU,entryE,Nat.reduceLT,Nat.reduceAdd,Nat.reduceMul,Nat.reduceEqDiff],by simp only[g9,ruU,entryE,Nat.reduceLT,Nat.reduceAdd,Nat.reduceMul,Nat.reduceEqDiff],by simp only[ruU,entryE,Nat.reduceLT,Nat.reduceAdd,Nat.reduceMul,Nat.reduceEqDiff],by simp only[g11,ruU,entryE,Nat.reduceLT,Nat.reduceAdd,Nat.reduceMul,Nat.reduceEqDiff],by simp only[ruU,entryE,Nat.reduceLT,Nat.reduceAdd,Nat.reduceMul,Nat.reduceEqDiff],by simp only[ruU,entryE,Nat.reduceLT,Nat.reduceAdd,Nat.reduceMul,Nat.reduceEqDiff],mHU,by rw[ext_next]; simp only[zB8]; omega,kU0,kU1,oU,hnv7,by simp only; omega,by simp only; omega,by simp only; rw[zF6]; exact hL,hK,by simp only[zB7]; omega⟩
 clear g0 g1 g2 g7 g9 g10 g11 g12 g13 E
 rintro E Y ⟨v,g0,g1,g2,g7,g9,g10,g11,mY,yl,bY0,bY1,ho,hid,hll⟩
 obtain⟨y,hy⟩:∃ y,Y.next=y:=⟨_,rfl⟩
 have okY:=mY.ok hok
 have hyb:Y.base≤y:=hy▸okY
 have ly0:x+0<y:=by omega
 have ly1:x+1<y:=by omega
 have h0Y:=h0.mod0 mY
 have h1Y:=h1.mod0 mY
 obtain⟨w0,sl0,rs0,-,-⟩:=h0Y.slice hnea (x:=some (.int .i64 (T:Int))) (y:=none) (lo:=T) (hi:=a.length) (by simp[bound]) rfl (by omega) (zA5 _)
 obtain⟨w1,sl1,rs1,-,-⟩:=h1Y.slice hne (x:=some (.int .i64 (T:Int))) (y:=none) (lo:=T) (hi:=b.length) (by simp[bound]) rfl (by omega) (zA5 _)
 rw[zE4]at rs0 rs1
 obtain⟨d,hd⟩:∃ d,decide (a.drop T=b.drop T)=d:=⟨_,rfl⟩
 rw[show Y=ext Y [] from rfl]
 simp (maxDischargeDepth:=6) only[g0,g1,g2,g7,g9,g10,g11,hy,xD,ruW,putL,Nat.reduceLeDiff,xF,ruU,entryE,Nat.reduceLT,Nat.reduceAdd,Nat.reduceMul,Nat.reduceEqDiff]
 refine w_drawB [] [] (by kernel_rfl) rfl rfl fun ops anc hA hG=>?_
 simp (maxDischargeDepth:=6) only[g0,g1,g2,g7,g9,g10,g11,hy,wd_slice,xD,ruD,ruW,putL,Nat.reduceLeDiff,xF,ruU,entryE,Nat.reduceLT,Nat.reduceAdd,Nat.reduceMul,Nat.reduceEqDiff]
 refine genV_sl (v:=w0) (idsV ua) rfl rfl rfl rfl (zA7 rfl) (h0Y.get hnea) (fun G hG=>by simp only[g1,g11,bnds_none,bnds_some,ruU,entryE,Nat.reduceLT,Nat.reduceAdd,Nat.reduceMul,Nat.reduceEqDiff]; exact sl0 G hG) (by simp[Meets]) ?_
 simp (maxDischargeDepth:=6) only[g0,g1,g2,g7,g9,g10,g11,hy,wd_slice,xD,ruD,ruW,putL,Nat.reduceLeDiff,xF,ruU,entryE,Nat.reduceLT,Nat.reduceAdd,Nat.reduceMul,Nat.reduceEqDiff]
 refine genV_sl (v:=w1) (idsV ub) rfl rfl rfl rfl (zA7 rfl) (h1Y.get hne) (fun G hG=>by simp only[g2,g11,bnds_none,bnds_some,ruU,entryE,Nat.reduceLT,Nat.reduceAdd,Nat.reduceMul,Nat.reduceEqDiff]; exact sl1 G hG) (by simp[Meets]) ?_
 simp (maxDischargeDepth:=6) only[g0,g1,g2,g7,g9,g10,g11,hy,wd_slice,xD,ruD,ruW,putL,Nat.reduceLeDiff,xF,ruU,entryE,Nat.reduceLT,Nat.reduceAdd,Nat.reduceMul,Nat.reduceEqDiff]
 refine genV_quiet (v:=.bool (decide (a.drop T=b.drop T))) (rowF (a.drop T) w0++rowF (b.drop T) w1) (by simp only[ruU,entryE,Nat.reduceLT,Nat.reduceAdd,Nat.reduceMul,Nat.reduceEqDiff]) (by kernel_rfl) (by decide) (fun m hm=>?_) (fun G hn hg=>?_) (by simp[Meets]) ?_
 ·rcases zB1.1 hm with hm|hm
  ·exact rs0.at_.f m hm
  ·exact rs1.at_.f m hm
 ·simp only[ruU,entryE,Nat.reduceLT,Nat.reduceAdd,Nat.reduceMul,Nat.reduceEqDiff]
  exact sameCells_c G w0 w1 _ _ (rs0.at_.ofF (zC6 hn.symm) fun m hm=>hg m (zC7 _ hm)) (rs1.at_.ofF (zC6 hn.symm) fun m hm=>hg m (zD0 _ hm)) (by rw[zF1]; omega)
 simp (maxDischargeDepth:=6) only[g0,g1,g2,g7,g9,g10,g11,hd,xD,ruD,ruW,putL,Nat.reduceLeDiff,xF,ruU,entryE,Nat.reduceLT,Nat.reduceAdd,Nat.reduceMul,Nat.reduceEqDiff]
 have bY0':=bY0
 simp only[Lk.cells]at bY0'
 have bY1':=bY1
 simp only[Lk.cells]at bY1'
 refine condC_meet (fun E' Z=>E' 7=.pointer (some ⟨x+0,0,none⟩)∧E' 9=.pointer (some ⟨x+1,0,none⟩)∧∃ v2,E' 10=v2∧Mod [] H Z∧x+2≤Z.next∧bk Z (x+0)=some ⟨45,false,K.cells⟩∧bk Z (x+1)=some ⟨45,false,lk0.cells⟩∧OpsW Z v2 (L++endR row a b T)∧∀ n∈idsV v2,x+2≤n) ?_ ?_
 ·cases d with
  |true =>
   have he:=of_decide_eq_true hd
   simp (maxDischargeDepth:=6) only[zB5,xD,ruW,putL,Nat.reduceLeDiff,xF,ruU,entryE,Nat.reduceLT,Nat.reduceAdd,Nat.reduceMul,Nat.reduceEqDiff]
   refine joinR_normal ⟨by simp only[g7,ruU,entryE,Nat.reduceLT,Nat.reduceAdd,Nat.reduceMul,Nat.reduceEqDiff],by simp only[g9,ruU,entryE,Nat.reduceLT,Nat.reduceAdd,Nat.reduceMul,Nat.reduceEqDiff],v,by simp only[g10,ruU,entryE,Nat.reduceLT,Nat.reduceAdd,Nat.reduceMul,Nat.reduceEqDiff],mY,yl,bY0,bY1,?_,hid⟩
   rw[endR,if_pos he,zC5]
   exact ho
  |false =>
   have he:=of_decide_eq_false hd
   obtain⟨v2,G,k1,k2,k3,k4⟩:=opsX_new (m:=2) (l2:=[opM row T,opK 4]) (.inl ho) hy okY (opMK_cells _ _ _) rfl (Nat.succ_pos _) (by simp only[zB6,zB8]; omega)
   have hGn:=k3.next
   have hnv:∀ q,q<x+2→q∉idsV v:=fun q hq h=>by have:=hid q h; omega
   simp (maxDischargeDepth:=6) only[g0,g1,g2,g7,g9,g10,g11,hy,hyb,k1,zC0,xD,ruW,putL,Nat.reduceLeDiff,xF,ruU,entryE,Nat.reduceLT,Nat.reduceAdd,Nat.reduceMul,Nat.reduceEqDiff]
   refine joinR_normal ⟨by simp only[g7,ruU,entryE,Nat.reduceLT,Nat.reduceAdd,Nat.reduceMul,Nat.reduceEqDiff],by simp only[g9,ruU,entryE,Nat.reduceLT,Nat.reduceAdd,Nat.reduceMul,Nat.reduceEqDiff],v2,by simp only[ruU,entryE,Nat.reduceLT,Nat.reduceAdd,Nat.reduceMul,Nat.reduceEqDiff],mY.step k3 hok fun n hn=>.inr (by have:=hid n hn; omega),by rw[ext_next]; simp only[zB8]; omega,(k3.bk (by omega) (hnv _ (by omega))).trans bY0,(k3.bk (by omega) (hnv _ (by omega))).trans bY1,?_,fun n hn=>?_⟩
   ·rw[endR,if_neg he]
    exact k2
   ·rcases k4 n hn with h|h
    ·exact hid n h
    ·omega
 clear g0 g1 g2 g7 g9 g10 g11 E
 rintro E Z ⟨g7,g9,v2,g10,mZ,zl,bZ0,bZ1,hoZ,hidZ⟩
 obtain⟨z,hz⟩:∃ z,Z.next=z:=⟨_,rfl⟩
 have lz0:x+0<z:=by omega
 have lz1:x+1<z:=by omega
 have bZ0':=bZ0
 simp only[Lk.cells]at bZ0' bZ1
 rw[show Z=ext Z [] from rfl]
 simp (maxDischargeDepth:=6) only[g7,g9,g10,xD,ruW,putL,Nat.reduceLeDiff,xF,ruU,entryE,Nat.reduceLT,Nat.reduceAdd,Nat.reduceMul,Nat.reduceEqDiff]
 refine w_drawB [(3,1)] [] (by kernel_rfl) (by kernel_rfl) rfl fun ops anc hA hG=>?_
 simp only[all2_cons]at hA
 simp (maxDischargeDepth:=6) only[g7,g9,g10,hz,lz0,lz1,bZ0',bZ1,hA,Tryd.results41,xD,ruD,ruW,putL,Nat.reduceLeDiff,xF,ruU,entryE,Nat.reduceLT,Nat.reduceAdd,Nat.reduceMul,Nat.reduceEqDiff]
 generalize hU:uw Z (x+1) 0 _=U
 have mU:Mod [x+1] Z U:=hU▸Mod.uw (by simp)
 refine⟨mZ.step mU hok fun n hn=>.inr (by simp only[zA4]at hn; omega),v2,rfl,hoZ.of mU.next fun n hn=>mU.get n (hoZ.ne n hn).2 ?_,fun n hn=>?_⟩
 ·have:=hidZ n hn
  simp only[zA4]
  omega
 ·have:=hidZ n hn
  omega
theorem op_cells1 (o:Op):opsOf [o]=[.int .i64 o.kind,.int .i64 o.row,.int .i64 o.col,.int .i64 o.n,.int .i64 o.look.fore,.int .i64 o.look.back,.bool o.look.bold,.bool o.look.under,.bool o.look.inv,.string o.text]:=rfl
theorem RowS.old {H:AHeap} {v:Value} {l:List Ce} (h:RowS H v l) (hne:l≠[]):∀ n∈idsV v,H.get n≠none∧n<H.next:=by
 rcases h with⟨h,_⟩|⟨_,h⟩
 ·exact absurd h hne
 ·exact h.ne
theorem ops14_c (H:AHeap) (u1 u2:Value) (g h:List (List Ce)) (r c r2 c2:Int) (h1:GridS H u1 g) (h2:GridS H u2 h) (sc1:GridSc H u1) (hok:H.base≤H.next) (hg12:g.length≤12) (hgw:∀ l∈g,l.length≤60) (hh12:h.length≤12) (hhw:∀ l∈h,l.length≤60) (hs1:scb H.next u1=true) (hs2:scb H.next u2=true) :
  CallA Tryd.prog 14 [.agg ⟨[u1,.int .i64 r,.int .i64 c]⟩,.agg ⟨[u2,.int .i64 r2,.int .i64 c2]⟩] H (OpsA H g h r c r2 c2):=by
 have hs10:=hs1
 obtain⟨x,hx⟩:∃ x,H.next=x:=⟨_,rfl⟩
 have hxb:H.base≤x:=hx▸hok
 obtain⟨a1,b1,e1⟩:=h1.at_.sl
 obtain⟨a2,b2,e2⟩:=h2.at_.sl
 rw[hx]at hs1 hs2
 have hs1':=hs1
 have hs2':=hs2
 rw[e1]at hs1'
 rw[e2]at hs2'
 refine callE_fn mixed Tryd.func14 rfl Tryd.ntmps14 (zA7 rfl) ?_
 rw[e1,e2]
 simp (maxDischargeDepth:=6) only[hx,hxb,hs1',hs2',xD,ruW,putL,Nat.reduceLeDiff,xF,ruU,entryE,Nat.reduceLT,Nat.reduceAdd,Nat.reduceMul,Nat.reduceEqDiff]
 rw[←e1,←e2]
 generalize hX:ext H _=Y
 have mY:Mod [] H Y:=hX▸Mod.ext hok
 have nY:Y.next=x+2:=by rw[←hX,ext_next,hx]; rfl
 have bY0:bk Y (x+0)=some ⟨24,false,[u1,.int .i64 r,.int .i64 c]⟩:=by rw[←hX,bk_at hx (by simp)]; rfl
 have bY1:bk Y (x+1)=some ⟨24,false,[u2,.int .i64 r2,.int .i64 c2]⟩:=by rw[←hX,bk_at hx (by simp)]; rfl
 clear hX
 have okY:=mY.ok hok
 obtain⟨y,hy⟩:∃ y,Y.next=y:=⟨_,rfl⟩
 have hyb:Y.base≤y:=hy▸okY
 have l0:x+0<y:=by omega
 have l1:x+1<y:=by omega
 rw[show Y=ext Y [] from rfl]
 obtain⟨ea,hea⟩:∃ e,chkR g r c=e:=⟨_,rfl⟩
 have hcka:=refCheck39_c (ext Y []) u1 g r c (h1.at_.mod0 mY) (fun l hl=>by have:=hgw l hl; omega) (by omega)
 rw[hea]at hcka
 refine hcka.to ?_
 obtain⟨da,hda⟩:∃ d,decide (¬ea=0)=d:=⟨_,rfl⟩
 cases da with
 |true =>
  have hne:=of_decide_eq_true hda
  simp (maxDischargeDepth:=6) only[hda,joinR_ret,Tryd.results14,xD,ruW,putL,Nat.reduceLeDiff,xF,ruU,entryE,Nat.reduceLT,Nat.reduceAdd,Nat.reduceMul,Nat.reduceEqDiff]
  exact OpsA.err mY ((opsV_1 (by rw[hea]; exact hne)).trans (by rw[hea]))
 |false =>
 have hea0:ea=0:=by simpa using of_decide_eq_false hda
 rw[hea0]at hea
 simp (maxDischargeDepth:=6) only[hda,hy,l1,bY1,xD,ruW,putL,Nat.reduceLeDiff,xF,ruU,entryE,Nat.reduceLT,Nat.reduceAdd,Nat.reduceMul,Nat.reduceEqDiff]
 obtain⟨eb,heb⟩:∃ e,chkR h r2 c2=e:=⟨_,rfl⟩
 have hckb:=refCheck39_c (ext Y []) u2 h r2 c2 (h2.at_.mod0 mY) (fun l hl=>by have:=hhw l hl; omega) (by omega)
 rw[heb]at hckb
 refine hckb.to ?_
 obtain⟨db,hdb⟩:∃ d,decide (¬eb=0)=d:=⟨_,rfl⟩
 cases db with
 |true =>
  have hne:=of_decide_eq_true hdb
  simp (maxDischargeDepth:=6) only[hdb,joinR_ret,Tryd.results14,xD,ruW,putL,Nat.reduceLeDiff,xF,ruU,entryE,Nat.reduceLT,Nat.reduceAdd,Nat.reduceMul,Nat.reduceEqDiff]
  exact OpsA.err mY ((opsV_2 hea (by rw[heb]; exact hne)).trans (by rw[heb]))
 |false =>
 have heb0:eb=0:=by simpa using of_decide_eq_false hdb
 rw[heb0]at heb
 have hc1:=hea
 have hc2:=heb
 obtain⟨ok1,hne1,hg0⟩:=chk_ok hc1
 obtain⟨ok2,hne2,hh0⟩:=chk_ok hc2
 have s1Y:=h1.mod0 mY
 have s2Y:=h2.mod0 mY
 have hgp:0<g.length:=List.length_pos_iff.2 hg0
 have hhp:0<h.length:=List.length_pos_iff.2 hh0
 obtain⟨n1,o1,sp1,cp1,t1,q1,L1,ev1,k1,n1l,le1,tk1⟩:=s1Y.r hg0
 obtain⟨n2,o2,sp2,cp2,t2,q2,L2,ev2,k2,n2l,le2,tk2⟩:=s2Y.r hh0
 rw[hy]at n1l n2l
 obtain⟨w1,hw1⟩:∃ r,g[0]?=some r:=⟨_,zA6 hgp⟩
 obtain⟨w2,hw2⟩:∃ r,h[0]?=some r:=⟨_,zA6 hhp⟩
 obtain⟨rv1,hrv1,rs1⟩:=tk1 0 w1 hw1
 obtain⟨rv2,hrv2,rs2⟩:=tk2 0 w2 hw2
 obtain⟨ra1,rc1,re1⟩:=rs1.sl
 obtain⟨ra2,rc2,re2⟩:=rs2.sl
 rw[re1]at hrv1
 rw[re2]at hrv2
 have hwid1:widG g=w1.length:=by rw[widG,zE2,hw1]; rfl
 have hwid2:widG h=w2.length:=by rw[widG,zE2,hw2]; rfl
 have i1:=grid_ia (n:=n1) (off:=o1) (s:=sp1) (cap:=cp1) (i:=0) (k:=0) rfl hgp
 have i2:=grid_ia (n:=n2) (off:=o2) (s:=sp2) (cap:=cp2) (i:=0) (k:=0) rfl hhp
 have q1':=grid_load (e:=t1) (o:=q1) hrv1
 have q2':=grid_load (e:=t2) (o:=q2) hrv2
 have bY0':=bY0
 have bY1':=bY1
 rw[ev1]at bY0'
 rw[ev2]at bY1'
 obtain⟨d1,hd1⟩:∃ d,decide (¬(g.length:Int)=(h.length:Int))=d:=⟨_,rfl⟩
 obtain⟨d2,hd2⟩:∃ d,decide (¬(w1.length:Int)=(w2.length:Int))=d:=⟨_,rfl⟩
 cases d1 with
 |true =>
  have hne:=of_decide_eq_true hd1
  simp (maxDischargeDepth:=6) only[hdb,xD,ruW,putL,Nat.reduceLeDiff,xF,ruU,entryE,Nat.reduceLT,Nat.reduceAdd,Nat.reduceMul,Nat.reduceEqDiff]
  refine w_drawB [] [(7,33)] (by kernel_rfl) rfl (by kernel_rfl) fun ops anc hA hG=>?_
  simp only[all2_cons]at hG
  simp (maxDischargeDepth:=6) only[hy,l0,l1,bY0',bY1',hd1,hG,Tryd.results14,xD,ruD,ruW,putL,Nat.reduceLeDiff,xF,ruU,entryE,Nat.reduceLT,Nat.reduceAdd,Nat.reduceMul,Nat.reduceEqDiff]
  exact OpsA.err mY (opsV_3 hc1 hc2 (.inl (by omega)))
 |false =>
 have hgh:g.length=h.length:=by have:=of_decide_eq_false hd1; omega
 cases d2 with
 |true =>
  have hne:=of_decide_eq_true hd2
  simp (maxDischargeDepth:=6) only[hdb,xD,ruW,putL,Nat.reduceLeDiff,xF,ruU,entryE,Nat.reduceLT,Nat.reduceAdd,Nat.reduceMul,Nat.reduceEqDiff]
  refine w_drawB [] [(7,33)] (by kernel_rfl) rfl (by kernel_rfl) fun ops anc hA hG=>?_
  simp only[all2_cons]at hG
  simp (maxDischargeDepth:=6) only[hy,l0,l1,bY0',bY1',hd1,hd2,i1,i2,k1,k2,n1l,n2l,q1',q2',qk_old,hG,Tryd.results14,xD,ruD,ruW,putL,Nat.reduceLeDiff,xF,ruU,entryE,Nat.reduceLT,Nat.reduceAdd,Nat.reduceMul,Nat.reduceEqDiff]
  exact OpsA.err mY (opsV_3 hc1 hc2 (.inr (by omega)))
 |false =>
 have hwh:widG g=widG h:=by have:=of_decide_eq_false hd2; omega
 have hV4:=opsV_4 hc1 hc2 hgh hwh
 simp (maxDischargeDepth:=6) only[hdb,xD,ruW,putL,Nat.reduceLeDiff,xF,ruU,entryE,Nat.reduceLT,Nat.reduceAdd,Nat.reduceMul,Nat.reduceEqDiff]
 refine w_drawB [] [(7,33)] (by kernel_rfl) rfl (by kernel_rfl) fun ops anc hA hG=>?_
 simp only[all2_cons]at hG
 simp (maxDischargeDepth:=6) only[hy,hyb,l0,l1,bY0',bY1',hd1,hd2,i1,i2,k1,k2,n1l,n2l,q1',q2',qk_old,hG,xD,ruD,ruW,putL,Nat.reduceLeDiff,xF,ruU,entryE,Nat.reduceLT,Nat.reduceAdd,Nat.reduceMul,Nat.reduceEqDiff]
 rw[←ev1,←ev2]
 generalize hV:ext Y _=V
 have mV:Mod [] Y V:=hV▸Mod.ext okY
 have nV:V.next=y+1:=by rw[←hV,ext_next,hy]; rfl
 have bV:bk V (y+0)=some ⟨24,false,[u1,.int .i64 r,.int .i64 c]⟩:=by rw[←hV,bk_at hy (by simp)]; rfl
 clear hV
 have okV:=mV.ok okY
 obtain⟨z,hz⟩:∃ z,V.next=z:=⟨_,rfl⟩
 have hVb:V.base≤z:=hz▸okV
 have mHV:=mY.trans mV
 have bV0:=(mV.bk (n:=x+0) (by omega) (by simp)).trans bY0
 have bV1:=(mV.bk (n:=x+1) (by omega) (by simp)).trans bY1
 have hsc:=moved_c (ext V []) u1 u2 g h (h1.at_.mod0 mHV) (h2.at_.mod0 mHV) (fun l hl=>by have:=hgw l hl; omega) (fun l hl=>by have:=hhw l hl; omega) hgh (by omega)
 obtain⟨so,hso⟩:∃ so,shiftR g h=so:=⟨_,rfl⟩
 rw[hso]at hsc
 obtain⟨ob,hob,hoo⟩:∃ ob:Op,Pure 40 [u1,u2] (ext V []) (.tuple #[ob.val,.bool so.isSome])∧∀ o,so=some o→ob=o:=by
  cases so with
  |none=>exact⟨_,hsc,fun o h=>by cases h⟩
  |some o=>exact⟨o,hsc,fun o' h=>by cases h; rfl⟩
 rw[show V=ext V [] from rfl]
 refine hob.to ?_
 simp (maxDischargeDepth:=6) only[hz,hVb,Op.val,Op.cells,xD,ruW,putL,Nat.reduceLeDiff,xF,ruU,entryE,Nat.reduceLT,Nat.reduceAdd,Nat.reduceMul,Nat.reduceEqDiff]
 generalize hU:ext V _=U
 have mU:Mod [] V U:=hU▸Mod.ext okV
 have nU:U.next=z+1:=by rw[←hU,ext_next,hz]; rfl
 have bU:bk U (z+0)=some ⟨47,false,ob.cells⟩:=by rw[←hU,bk_at hz (by simp)]; rfl
 clear hU
 have okU:=mU.ok okV
 obtain⟨w,hw⟩:∃ w,U.next=w:=⟨_,rfl⟩
 have hUb:U.base≤w:=hw▸okU
 have mHU:=mHV.trans mU
 have bU0:=(mU.bk (n:=x+0) (by omega) (by simp)).trans bV0
 have bU1:=(mU.bk (n:=x+1) (by omega) (by simp)).trans bV1
 have bUy:=(mU.bk (n:=y+0) (by omega) (by simp)).trans bV
 have hHN:H.next≤y:=by rw[←hy]; exact mY.next
 refine condC_meet (fun E' Z=>E' 3=.pointer (some ⟨x+1,0,none⟩)∧E' 9=.pointer (some ⟨y+0,0,none⟩)∧∃ F v uo rr cc,E' 8=v∧Mod [] H Z∧y+1≤Z.next∧bk Z (y+0)=some ⟨24,false,[uo,.int .i64 rr,.int .i64 cc]⟩∧bk Z (x+1)=some ⟨24,false,[u2,.int .i64 r2,.int .i64 c2]⟩∧OpsW Z v so.toList∧(∀ n∈idsV v,y≤n∧n∉F)∧y+0∈F∧(∀ n∈F,n<Z.next)∧GridF y F Z uo (nowR g h r c)) ?_ ?_
 ·cases so with
  |none =>
   simp (maxDischargeDepth:=6) only[Option.isSome_none,xD,ruW,putL,Nat.reduceLeDiff,xF,ruU,entryE,Nat.reduceLT,Nat.reduceAdd,Nat.reduceMul,Nat.reduceEqDiff]
   have hnow:nowR g h r c=g:=by unfold nowR; rw[hso]
   exact joinR_normal ⟨by simp only[ruU,entryE,Nat.reduceLT,Nat.reduceAdd,Nat.reduceMul,Nat.reduceEqDiff],by simp only[ruU,entryE,Nat.reduceLT,Nat.reduceAdd,Nat.reduceMul,Nat.reduceEqDiff],[y+0],.slice none 0 0,u1,r,c,by simp only[ruU,entryE,Nat.reduceLT,Nat.reduceAdd,Nat.reduceMul,Nat.reduceEqDiff],mHU,by show y+1≤U.next; omega,bUy,bU1,OpsW.nil,fun n hn=>by simp[idsV]at hn,by simp,fun n hn=>by rw[zA4]at hn; show n<U.next; omega,by rw[hnow]; exact (((h1.r hg0).f hHN).mod0 mHU)⟩
  |some o =>
   have hoe:=hoo o rfl
   subst hoe
   have lz0:z+0<w:=by omega
   have bU':=bU
   simp only[Op.cells]at bU'
   have oN:OpsX U (.slice none 0 0) []:=.inl OpsW.nil
   obtain⟨v1,G,ga1,ga2,ga3,ga4⟩:=opsX_new (m:=1) (l2:=[ob]) oN hw okU (op_cells1 ob) rfl (Nat.succ_pos _) (by simp)
   replace ga3:Mod [] U G:=ga3
   rw[zC1]at ga2
   have okG:=ga3.ok okU
   have mHG:=mHU.trans ga3
   have gn:=ga3.next
   obtain⟨z1,hz1⟩:∃ n,G.next=n:=⟨_,rfl⟩
   have bG0:=(ga3.bk (n:=x+0) (by omega) (by simp)).trans bU0
   have bG1:=(ga3.bk (n:=x+1) (by omega) (by simp)).trans bU1
   have bGy:=(ga3.bk (n:=y+0) (by omega) (by simp)).trans bUy
   have lg0:x+0<z1:=by omega
   have hv1:∀ n∈idsV v1,y+1≤n:=fun n hn=>by
    rcases ga4 n hn with h|h
    ·simp[idsV]at h
    ·omega
   rw[show U=ext U [] from rfl]
   simp (maxDischargeDepth:=6) only[hw,hUb,bU',lz0,ga1,hz1,bG0,lg0,Option.isSome_some,xD,ruW,putL,Nat.reduceLeDiff,xF,ruU,entryE,Nat.reduceLT,Nat.reduceAdd,Nat.reduceMul,Nat.reduceEqDiff]
   obtain⟨tt,bb,ii,kk,hroll,hk56,-⟩:=shift_some hso hgh
   refine (refApply_s (ext G []) u1 v1 g r c [ob] (h1.at_.mod0 mHG) (sc1.mod0 hs10 mHG) ga2.at_ okG (by show scb G.next u1=true; rw[hz1]; exact scb_mono (by omega) _ hs1) (fun l hl=>by have:=hgw l hl; omega) (by omega) (fun o ho=>by rw[zA4]at ho; subst ho; rw[hroll]; exact hk56) (by simp)).mono ?_
   intro out Z hap
   obtain⟨mZ,ua,rva,Na,rfl,hNa,own⟩:=hap.val
   have hnow:nowR g h r c=(appV g r c [ob]).1:=by unfold nowR; rw[hso]
   obtain⟨⟨ga,ra,ca,ea,ia⟩,hav⟩:∃ q,appV g r c [ob]=q:=⟨_,rfl⟩
   rw[hav]at own hnow ⊢
   simp only at own hnow ⊢
   replace hNa:z1≤Na:=hz1▸hNa
   replace mZ:Mod [] G Z:=mZ
   have hzn:=mZ.next
   obtain⟨aua,cua,eua⟩:=own.grid.sl
   obtain⟨zz,hzz⟩:∃ n,Z.next=n:=⟨_,rfl⟩
   have hsua:scb zz ua=true:=by
    rcases own.at_ with⟨_,h⟩|⟨m,s,c',o,e,_,_,hm,_⟩
    ·rw[h]; rfl
    ·rw[e]; exact blt_of (show m<zz by omega)
   have kzy:=(mZ.bk (n:=y+0) (by omega) (by simp)).trans bGy
   have kz1:=(mZ.bk (n:=x+1) (by omega) (by simp)).trans bG1
   have lzz:y+0<zz:=by omega
   rw[show Z=ext Z [] from rfl,eua]
   rw[eua]at hsua
   simp (maxDischargeDepth:=6) only[hzz,kzy,lzz,hsua,xD,ruW,putL,Nat.reduceLeDiff,xF,ruU,entryE,Nat.reduceLT,Nat.reduceAdd,Nat.reduceMul,Nat.reduceEqDiff]
   rw[←eua]
   generalize hW:uw Z (y+0) 0 _=W
   have mW:Mod [y+0] Z W:=hW▸Mod.uw (by simp)
   have kW0:bk W (y+0)=some ⟨24,false,[ua,.int .i64 ra,.int .i64 ca]⟩:=by rw[←hW,bk_uw_eq,kzy]; rfl
   clear hW
   have hq:∀ q∈idsV ua++rva.flatMap idsV,z1≤q∧q<Z.next:=fun q hq=>by
    rcases zB1.1 hq with hq|hq
    ·have:=own.idv q hq; omega
    ·have:=own.ids q hq; omega
   have ownW:OwnG Na W ua rva ga:=own.of mW.next fun n h3 h4 _=>mW.get n h4 (by simp only[zA4]; omega)
   have hga:ga≠[]:=fun e=>by
    have h3:=(nowR_len (h:=h) hgh hc1).1
    rw[hnow,e,zB8]at h3
    omega
   have hWn:=mW.next
   have o1:=(ga2.mod0 mZ)
   exact joinR_normal ⟨by simp only[ruU,entryE,Nat.reduceLT,Nat.reduceAdd,Nat.reduceMul,Nat.reduceEqDiff],by simp only[ruU,entryE,Nat.reduceLT,Nat.reduceAdd,Nat.reduceMul,Nat.reduceEqDiff],(y+0)::(idsV ua++rva.flatMap idsV),v1,ua,ra,ca,by simp only[ruU,entryE,Nat.reduceLT,Nat.reduceAdd,Nat.reduceMul,Nat.reduceEqDiff],(mHG.trans mZ).step mW hok fun n hn=>.inr (by simp only[zA4]at hn; omega),by show y+1≤W.next; omega,kW0,(mW.bk (by omega) (by simp only[zA4]; omega)).trans kz1,
    o1.of mW.next fun n hn=>mW.get n (o1.ne n hn).2 (by simp only[zA4]; have:=hv1 n hn; omega),
    fun n hn=>⟨by have:=hv1 n hn; omega,fun hm=>by
     have h3:=hv1 n hn
     have h4:=(ga2.ne n hn).2
     rcases zB3.1 hm with e|hm
     ·omega
     ·have:=hq n hm; omega⟩,by simp,fun n hn=>by
     rcases zB3.1 hn with e|hm
     ·show n<W.next; omega
     ·have:=hq n hm; show n<W.next; omega,by rw[hnow]; exact ownW.f hga fun n hn=>zB4 _ hn⟩
 rintro E Z ⟨g3,g9,F,v,uo,rr,cc,g8,mZ,zl,bZy,bZ1,ho,hid,hyF,hFl,gf⟩
 obtain⟨NR,hNR⟩:∃ NR,nowR g h r c=NR:=⟨_,rfl⟩
 have hnl:=nowR_len (h:=h) hgh hc1
 rw[hNR]at gf hnl
 have hneN:∀ l∈NR,l≠[]:=fun l hl e=>by
  have h3:=hnl.2 l hl
  rw[e,zB8]at h3
  have:=ok1.w1
  omega
 have okZ:=mZ.ok hok
 obtain⟨p,hp⟩:∃ n,Z.next=n:=⟨_,rfl⟩
 have hpb:Z.base≤p:=hp▸okZ
 rw[show Z=ext Z [] from rfl]
 simp (maxDischargeDepth:=6) only[g3,g8,g9,hp,hpb,xD,ruW,putL,Nat.reduceLeDiff,xF,ruU,entryE,Nat.reduceLT,Nat.reduceAdd,Nat.reduceMul,Nat.reduceEqDiff]
 refine w_env fun E' hE=>?_
 have r3':E' 3=.pointer (some ⟨x+1,0,none⟩):=by rw[hE]; simp only[g3,ruU,entryE,Nat.reduceLT,Nat.reduceAdd,Nat.reduceMul,Nat.reduceEqDiff]
 have r8':E' 8=v:=by rw[hE]; simp only[g8,ruU,entryE,Nat.reduceLT,Nat.reduceAdd,Nat.reduceMul,Nat.reduceEqDiff]
 have r9':E' 9=.pointer (some ⟨y+0,0,none⟩):=by rw[hE]; simp only[g9,ruU,entryE,Nat.reduceLT,Nat.reduceAdd,Nat.reduceMul,Nat.reduceEqDiff]
 have r12:E' 12=.pointer (some ⟨p+0,0,none⟩):=by rw[hE]; simp only[ruU,entryE,Nat.reduceLT,Nat.reduceAdd,Nat.reduceMul,Nat.reduceEqDiff]
 have r13:E' 13=.int .i64 ((0:Nat):Int):=by rw[hE]; (simp only[ruU,entryE,Nat.reduceLT,Nat.reduceAdd,Nat.reduceMul,Nat.reduceEqDiff]<;>rfl)
 clear hE g3 g8 g9 E
 generalize hP:ext Z _=P
 have mP:Mod [] Z P:=hP▸Mod.ext okZ
 have nP:P.next=p+1:=by rw[←hP,ext_next,hp]; rfl
 have bP:bk P (p+0)=some ⟨45,false,lk0.cells⟩:=by rw[←hP,bk_at hp (by simp)]; rfl
 clear hP
 have okP:=mP.ok okZ
 have mHP:=mZ.trans mP
 have bPy:=(mP.bk (n:=y+0) (by omega) (by simp)).trans bZy
 have bP1:=(mP.bk (n:=x+1) (by omega) (by simp)).trans bZ1
 have gfP:=gf.mod0 mP
 have gf2:GridF y F P u2 h:=((h2.r hh0).f hHN).mod0 mHP
 have hpF:p+0∉F:=fun h=>by have:=hFl _ h; omega
 obtain⟨L,hL⟩:∃ L,so.toList++rowsR 0 NR h lk0=L:=⟨_,rfl⟩
 have hsl:so.toList.length≤1:=by cases so<;>simp
 refine blockC_meet (fun E' Y=>E' 3=.pointer (some ⟨x+1,0,none⟩)∧∃ v,E' 8=v∧Mod [] H Y∧y+1≤Y.next∧bk Y (x+1)=some ⟨24,false,[u2,.int .i64 r2,.int .i64 c2]⟩∧OpsW Y v L∧(∀ n∈idsV v,y≤n)∧L.length≤3000) ?_ ?_
 ·refine w_loop (fun (q:Nat × Value × List Op × Lk) E' Y=>E' 3=.pointer (some ⟨x+1,0,none⟩)∧E' 8=q.2.1∧E' 9=.pointer (some ⟨y+0,0,none⟩)∧E' 12=.pointer (some ⟨p+0,0,none⟩)∧E' 13=.int .i64 (q.1:Int)∧KpN y F P Y∧bk Y (p+0)=some ⟨45,false,q.2.2.2.cells⟩∧OpsW Y q.2.1 q.2.2.1∧(∀ n∈idsV q.2.1,y≤n∧n∉F∧n≠p+0)∧q.1≤h.length∧q.2.2.1++rowsR q.1 (NR.drop q.1) (h.drop q.1) q.2.2.2=L∧q.2.2.1.length≤1+q.1*182) (fun q=>h.length-q.1) (0,v,so.toList,lk0)
   ⟨r3',r8',r9',r12,r13,KpN.refl,bP,ho.mod0 mP,fun n hn=>⟨(hid n hn).1,(hid n hn).2,by have:=(ho.ne n hn).2; omega⟩,zB0 _,by simp only[zD1]; exact hL,by simp only; omega⟩ ?_
  clear r3' r8' r9' r12 r13 E' ho hid v
  rintro⟨i,v,l,k⟩ E Y ⟨g3,g8,g9,g12,g13,kY,bYp,ho,hid,hi,hL',hll⟩
  simp only at g8 g13 bYp ho hid hi hL' hll
  have okY:=kY.ok okP
  have yn:=kY.next
  obtain⟨yy,hyy⟩:∃ n,Y.next=n:=⟨_,rfl⟩
  have bYy:=(kY.bk (n:=y+0) (by omega) (.inr hyF)).trans bPy
  have bY1:=(kY.bk (n:=x+1) (by omega) (.inl (by omega))).trans bP1
  have bY1':=bY1
  rw[e2]at bY1'
  have ly1:x+1<yy:=by omega
  rw[show Y=ext Y [] from rfl]
  by_cases hil:i<h.length
  case neg =>
   have hc0:decide ((i:Int)<(h.length:Int))=false:=decide_eq_false (by omega)
   rw[rowsR_end k (by omega),zC5]at hL'
   subst hL'
   simp (maxDischargeDepth:=6) only[g3,g8,g9,g12,g13,hyy,ly1,bY1',hc0,xD,ruW,putL,Nat.reduceLeDiff,xF,ruU,entryE,Nat.reduceLT,Nat.reduceAdd,Nat.reduceMul,Nat.reduceEqDiff]
   exact joinR_normal ⟨by simp only[g3,ruU,entryE,Nat.reduceLT,Nat.reduceAdd,Nat.reduceMul,Nat.reduceEqDiff],v,by simp only[g8,ruU,entryE,Nat.reduceLT,Nat.reduceAdd,Nat.reduceMul,Nat.reduceEqDiff],kY.mod mHP hok hHN,by show y+1≤Y.next; omega,bY1,ho,fun n hn=>(hid n hn).1,by omega⟩
  have hc0:decide ((i:Int)<(h.length:Int))=true:=decide_eq_true (by omega)
  obtain⟨b,hb⟩:∃ b,h[i]?=some b:=⟨_,zA6 hil⟩
  obtain⟨a,ha⟩:∃ a,NR[i]?=some a:=⟨_,zA6 (by omega)⟩
  have hal:=hnl.2 a (zB9 ha)
  have hbm:=zB9 hb
  have hbl:=ok2.wid b hbm
  have hb60:=hhw b hbm
  have hbne:=hne2 b hbm
  have hane:=hneN a (zB9 ha)
  rw[rowsR_step k ha hb]at hL'
  obtain⟨n1,o1,sp1,cp1,t1,q1,L1,ev1,k1,n1l,-,le1,tk1⟩:=gfP.kp kY hneN
  obtain⟨n2,o2,sp2,cp2,t2,q2,L2,ev2,k2,n2l,-,le2,tk2⟩:=gf2.kp kY hne2
  rw[hyy]at n1l n2l
  obtain⟨rva,hrva,rsa,hia⟩:=tk1 i a ha
  obtain⟨rvb,hrvb,rsb,hib⟩:=tk2 i b hb
  have i1:=grid_ia (len:=NR.length) (n:=n1) (off:=o1) (s:=sp1) (cap:=cp1) (i:=(i:Int)) rfl (by omega)
  have i2:=grid_ia (len:=h.length) (n:=n2) (off:=o2) (s:=sp2) (cap:=cp2) (i:=(i:Int)) rfl hil
  have q1':=grid_load (e:=t1) (o:=q1) hrva
  have q2':=grid_load (e:=t2) (o:=q2) hrvb
  have bYy':=bYy
  rw[ev1]at bYy'
  have bY1e:=bY1
  rw[ev2]at bY1e
  have lyy:y+0<yy:=by omega
  obtain⟨d,hd⟩:∃ d,decide (a=b)=d:=⟨_,rfl⟩
  simp (maxDischargeDepth:=6) only[g3,g8,g9,g12,g13,hyy,ly1,bY1e,hc0,xD,ruW,putL,Nat.reduceLeDiff,xF,ruU,entryE,Nat.reduceLT,Nat.reduceAdd,Nat.reduceMul,Nat.reduceEqDiff]
  refine w_drawB [] [] (by kernel_rfl) rfl rfl fun ops anc hA hG=>?_
  simp (maxDischargeDepth:=6) only[g3,g8,g9,g12,g13,hyy,ly1,lyy,bY1e,bYy',i1,i2,k1,k2,n1l,n2l,q1',q2',qk_old,xD,ruD,ruW,putL,Nat.reduceLeDiff,xF,ruU,entryE,Nat.reduceLT,Nat.reduceAdd,Nat.reduceMul,Nat.reduceEqDiff]
  refine genV_quiet (v:=.bool (decide (a=b))) (rowF a rva++rowF b rvb) (by simp only[ruU,entryE,Nat.reduceLT,Nat.reduceAdd,Nat.reduceMul,Nat.reduceEqDiff]) (by kernel_rfl) (by decide) (fun m hm=>?_) (fun G hn hg=>?_) (by simp[Meets]) ?_
  ·rcases zB1.1 hm with hm|hm
   ·exact rsa.at_.f m hm
   ·exact rsb.at_.f m hm
  ·simp only[ruU,entryE,Nat.reduceLT,Nat.reduceAdd,Nat.reduceMul,Nat.reduceEqDiff]
   exact sameCells_c G rva rvb _ _ (rsa.at_.ofF (zC6 hn.symm) fun m hm=>hg m (zC7 _ hm)) (rsb.at_.ofF (zC6 hn.symm) fun m hm=>hg m (zD0 _ hm)) (by omega)
  clear hA hG
  cases d with
  |true =>
   have he:=of_decide_eq_true hd
   rw[if_pos he]at hL'
   simp (maxDischargeDepth:=6) only[g3,g8,g9,g12,g13,hd,wrap_succ (show i<1000000 by omega),xD,ruD,ruW,putL,Nat.reduceLeDiff,xF,ruU,entryE,Nat.reduceLT,Nat.reduceAdd,Nat.reduceMul,Nat.reduceEqDiff]
   exact loopC_next ⟨(i+1,v,l,k),by simp only; omega,by simp only[g3,ruU,entryE,Nat.reduceLT,Nat.reduceAdd,Nat.reduceMul,Nat.reduceEqDiff],by simp only[g8,ruU,entryE,Nat.reduceLT,Nat.reduceAdd,Nat.reduceMul,Nat.reduceEqDiff],by simp only[g9,ruU,entryE,Nat.reduceLT,Nat.reduceAdd,Nat.reduceMul,Nat.reduceEqDiff],by simp only[g12,ruU,entryE,Nat.reduceLT,Nat.reduceAdd,Nat.reduceMul,Nat.reduceEqDiff],by simp only[ruU,entryE,Nat.reduceLT,Nat.reduceAdd,Nat.reduceMul,Nat.reduceEqDiff],kY,bYp,ho,hid,by simp only; omega,hL',by simp only; omega⟩
  |false =>
   have he:=of_decide_eq_false hd
   rw[if_neg he]at hL'
   have hlr:=lineR_len i a b k
   obtain⟨FF,hFF⟩:∃ FF,FF=idsV rva++idsV rvb:=⟨_,rfl⟩
   have hFFn:∀ n∈FF,Y.get n≠none∧n<Y.next:=fun n hn=>by
    rw[hFF]at hn
    rcases zB1.1 hn with hn|hn
    ·exact rsa.old hane n hn
    ·exact rsb.old hbne n hn
   have hrn:=restrict_next Y FF
   have hrg:∀ n∈FF,(Y.restrict FF).get n=Y.get n:=fun n hn=>by rw[restrict_get,if_pos hn]
   obtain⟨out,gg,hcs,mg,v6,rfl,og,hidg⟩:=line41_c (Y.restrict FF) rva rvb a b k i (rsa.of (by rw[hrn.1]; exact zA5 _) fun n hn=>hrg n (hFF▸zC7 _ hn)) (rsb.of (by rw[hrn.1]; exact zA5 _) fun n hn=>hrg n (hFF▸zD0 _ hn)) (by omega) hbne (by omega) (chk_isR hc2 b hbm) (by rw[hrn.1,hrn.2.1]; exact zA5 _)
   rw[hrn.1,hyy]at hidg
   obtain⟨LR,hLR⟩:∃ LR,(lineR i a b k).1=LR:=⟨_,rfl⟩
   obtain⟨K,hK⟩:∃ K,(lineR i a b k).2=K:=⟨_,rfl⟩
   rw[hLR]at og hlr
   rw[hK]at hcs
   rw[hLR,hK]at hL'
   have bYp':=bYp
   simp only[Lk.cells]at bYp'
   have lpp:p+0<yy:=by omega
   simp (maxDischargeDepth:=6) only[g3,g8,g9,g12,g13,hd,xD,ruD,ruW,putL,Nat.reduceLeDiff,xF,ruU,entryE,Nat.reduceLT,Nat.reduceAdd,Nat.reduceMul,Nat.reduceEqDiff]
   refine w_drawB [(13,12),(14,12),(15,12),(17,12),(17,16),(18,16),(18,12),(18,11),(18,10),(18,7),(18,5),(18,2)] [] (by kernel_rfl) (by kernel_rfl) rfl fun ops anc hA hG=>?_
   simp only[all2_cons]at hA
   simp (maxDischargeDepth:=6) only[g3,g8,g9,g12,g13,hyy,ly1,lyy,lpp,bY1e,bYy',bYp',i1,i2,k1,k2,n1l,n2l,q1',q2',qk_old,hA,xD,ruD,ruW,putL,Nat.reduceLeDiff,xF,ruU,entryE,Nat.reduceLT,Nat.reduceAdd,Nat.reduceMul,Nat.reduceEqDiff]
   refine genV_mod (H:=ext Y []) (W:=[]) FF okY (by simp only[ruU,entryE,Nat.reduceLT,Nat.reduceAdd,Nat.reduceMul,Nat.reduceEqDiff]) (by kernel_rfl) (fun n hn=>(hFFn n hn).1) (fun n hn=>(hFFn n hn).2) (fun _ h=>by simp at h) (v:=.tuple #[v6,K.val]) (g:=gg) (by simp only[ruU,entryE,Nat.reduceLT,Nat.reduceAdd,Nat.reduceMul,Nat.reduceEqDiff]; exact hcs) mg (by simp only[all2_cons,all2_nil,hA,true_or,and_true]; simp) ?_
   intro Z2 D mZ2 hFZ hNZ hnZ hDZ
   have hD0:D=[]:=List.eq_nil_iff_forall_not_mem.2 (fun q hq=>by simpa using hDZ q hq)
   subst hD0
   replace mZ2:Mod [] Y Z2:=mZ2
   have hzn2:=mZ2.next
   have hnZ':Z2.next=gg.next:=hnZ
   have opZ:OpsW Z2 v6 LR:=og.of (by omega) fun n hn=>hNZ n (by show Y.next≤n; rw[hyy]; exact hidg n hn) (og.ne n hn).2
   have okZ2:=mZ2.ok okY
   obtain⟨z2,hz2⟩:∃ n,Z2.next=n:=⟨_,rfl⟩
   have hz2b:Z2.base≤z2:=hz2▸okZ2
   rw[show Z2=ext Z2 [] from rfl]
   simp (maxDischargeDepth:=6) only[g3,g8,g9,g12,g13,hz2,hz2b,hA,Lk.val,xD,ruD,ruW,putL,Nat.reduceLeDiff,xF,ruU,entryE,Nat.reduceLT,Nat.reduceAdd,Nat.reduceMul,Nat.reduceEqDiff]
   refine⟨.inr fun _=>.inr (by omega),?_⟩
   refine w_env fun E' hE=>?_
   have s3:E' 3=.pointer (some ⟨x+1,0,none⟩):=by rw[hE]; simp only[g3,ruU,entryE,Nat.reduceLT,Nat.reduceAdd,Nat.reduceMul,Nat.reduceEqDiff]
   have s8:E' 8=v:=by rw[hE]; simp only[g8,ruU,entryE,Nat.reduceLT,Nat.reduceAdd,Nat.reduceMul,Nat.reduceEqDiff]
   have s9:E' 9=.pointer (some ⟨y+0,0,none⟩):=by rw[hE]; simp only[g9,ruU,entryE,Nat.reduceLT,Nat.reduceAdd,Nat.reduceMul,Nat.reduceEqDiff]
   have s12:E' 12=.pointer (some ⟨p+0,0,none⟩):=by rw[hE]; simp only[g12,ruU,entryE,Nat.reduceLT,Nat.reduceAdd,Nat.reduceMul,Nat.reduceEqDiff]
   have s13:E' 13=.int .i64 (i:Int):=by rw[hE]; simp only[g13,ruU,entryE,Nat.reduceLT,Nat.reduceAdd,Nat.reduceMul,Nat.reduceEqDiff]
   have s14:E' 14=v6:=by rw[hE]; simp only[ruU,entryE,Nat.reduceLT,Nat.reduceAdd,Nat.reduceMul,Nat.reduceEqDiff]
   have s15:E' 15=.pointer (some ⟨z2+0,0,none⟩):=by rw[hE]; simp only[ruU,entryE,Nat.reduceLT,Nat.reduceAdd,Nat.reduceMul,Nat.reduceEqDiff]
   clear hE hA hG g3 g8 g9 g12 g13 E
   generalize hV:ext Z2 _=V2
   have mV2:Mod [] Z2 V2:=hV▸Mod.ext okZ2
   have nV2:V2.next=z2+1:=by rw[←hV,ext_next,hz2]; rfl
   have kV2:bk V2 (z2+0)=some ⟨45,false,K.cells⟩:=by rw[←hV,bk_at hz2 (by simp)]; rfl
   clear hV
   have okV2:=mV2.ok okZ2
   have mYV:=mZ2.trans mV2
   have hoV:=ho.mod0 mYV
   have ho6V:=opZ.mod0 mV2
   rw[show V2=ext V2 [] from rfl]
   refine w_drawB [(4,2),(5,3),(5,2)] [] (by kernel_rfl) (by kernel_rfl) rfl fun ops anc hA hG=>?_
   simp only[all2_cons]at hA
   simp (maxDischargeDepth:=6) only[s3,s8,s9,s12,s13,s14,s15,hA,xD,ruD,ruW,putL,Nat.reduceLeDiff,xF,ruU,entryE,Nat.reduceLT,Nat.reduceAdd,Nat.reduceMul,Nat.reduceEqDiff]
   rw[wd_app (by simp only[ruU,entryE,Nat.reduceLT,Nat.reduceAdd,Nat.reduceMul,Nat.reduceEqDiff])]
   refine genV_appW (l2:=LR) hoV ho6V.at_ (fun n hn _=>⟨(ho6V.ne n hn).2,(ho6V.ne n hn).1⟩) okV2 (by omega) (zA7 rfl) (by simp only[ruU,entryE,Nat.reduceLT,Nat.reduceAdd,Nat.reduceMul,Nat.reduceEqDiff]) (by simp only[zC8,zF5,s8,s14,ruU,entryE,Nat.reduceLT,Nat.reduceAdd,Nat.reduceMul,Nat.reduceEqDiff]) (by simp only[all2_nil]) ?_
   intro v7 Z D F' mZ3 ho7 hid7 hD
   replace mZ3:Mod (idsV v) V2 Z:=mZ3
   have hzn3:=mZ3.next
   obtain⟨z7,hz7⟩:∃ z7,Z.next=z7:=⟨_,rfl⟩
   have okZ3:=mZ3.ok okV2
   have hidv:∀ n∈idsV v,n<yy:=fun n hn=>by have:=(ho.ne n hn).2; omega
   have nz:z2+0∉idsV v:=fun h=>by have:=hidv _ h; omega
   have np:p+0∉idsV v:=fun h=>(hid _ h).2.2 rfl
   have kZ:bk Z (z2+0)=some ⟨45,false,K.cells⟩:=(mZ3.bk (by omega) nz).trans kV2
   have kZp:bk Z (p+0)=some ⟨45,false,k.cells⟩:=(mZ3.bk (by omega) np).trans ((mYV.bk (by omega) (by simp)).trans bYp)
   have kZ':=kZ
   simp only[Lk.cells]at kZ'
   have kZp':=kZp
   simp only[Lk.cells]at kZp'
   have lz0:z2+0<z7:=by omega
   have lz1:p+0<z7:=by omega
   have lzn:¬z2+0=p+0:=by omega
   rw[show Z=ext Z [] from rfl]
   simp (maxDischargeDepth:=6) only[s3,s8,s9,s12,s13,s14,s15,hz7,kZ',kZp',lz0,lz1,lzn,hA,wrap_succ (show i<1000000 by omega),xD,ruD,ruW,putL,Nat.reduceLeDiff,xF,ruU,entryE,Nat.reduceLT,Nat.reduceAdd,Nat.reduceMul,Nat.reduceEqDiff]
   refine⟨.inr ⟨fun n hn e=>?_,fun _=>.inl (by omega)⟩,?_⟩
   ·have:=hidv n (hD n hn); omega
   generalize hU:uw Z (p+0) 0 _=U2
   have mU2:Mod [p+0] Z U2:=hU▸Mod.uw (by simp)
   have kUp:bk U2 (p+0)=some ⟨45,false,K.cells⟩:=by rw[←hU,bk_uw_eq,kZp']; rfl
   clear hU
   have hid7':∀ n∈idsV v7,y≤n∧n∉F∧n≠p+0:=fun n hn=>by
    rcases hid7 n hn with h|h
    ·exact hid n h
    ·have h3:V2.next≤n:=h
     refine⟨by omega,fun hm=>?_,by omega⟩
     have:=hFl n hm
     omega
   have kK:KpN y F P U2:=((kY.trans (KpN.of0 mYV)).trans ⟨idsV v,fun n hn=>⟨(hid n hn).1,(hid n hn).2.1⟩,mZ3⟩).trans (KpN.one mU2 (by omega) hpF)
   have o7:OpsW U2 v7 (l++LR):=ho7.of mU2.next fun n hn=>mU2.get n (ho7.ne n hn).2 (by simp only[zA4]; exact (hid7' n hn).2.2)
   exact loopC_next ⟨(i+1,v7,l++LR,K),by simp only; omega,by simp only[s3,ruU,entryE,Nat.reduceLT,Nat.reduceAdd,Nat.reduceMul,Nat.reduceEqDiff],by simp only[ruU,entryE,Nat.reduceLT,Nat.reduceAdd,Nat.reduceMul,Nat.reduceEqDiff],by simp only[s9,ruU,entryE,Nat.reduceLT,Nat.reduceAdd,Nat.reduceMul,Nat.reduceEqDiff],by simp only[s12,ruU,entryE,Nat.reduceLT,Nat.reduceAdd,Nat.reduceMul,Nat.reduceEqDiff],by simp only[ruU,entryE,Nat.reduceLT,Nat.reduceAdd,Nat.reduceMul,Nat.reduceEqDiff],kK,kUp,o7,hid7',by simp only; omega,by simp only; rw[zF6]; exact hL',by simp only[zB7]; omega⟩
 clear r3' r8' r9' r12 r13 E' ho hid v
 rintro E Y ⟨g3,v,g8,mY2,yl2,bY1,ho,hid,hll⟩
 have okY2:=mY2.ok hok
 obtain⟨yy,hyy⟩:∃ n,Y.next=n:=⟨_,rfl⟩
 have hyyb:Y.base≤yy:=hyy▸okY2
 have ly1:x+1<yy:=by omega
 have hops:opsR g h r c r2 c2=L++curR r2 c2:=by rw[opsR,hso,hNR,hL]
 obtain⟨d,hd⟩:∃ d,decide (r2<0)=d:=⟨_,rfl⟩
 rw[show Y=ext Y [] from rfl]
 cases d with
 |true =>
  have he:=of_decide_eq_true hd
  rw[curR,if_pos he]at hops
  obtain⟨v',G,ga1,ga2,ga3,ga4⟩:=opsX_new (m:=1) (l2:=[opK 8]) (.inl ho) hyy okY2 (show opsOf [opK 8]=[.int .i64 8,.int .i64 0,.int .i64 0,.int .i64 0,.int .i64 0,.int .i64 0,.bool false,.bool false,.bool false,.string .empty] from rfl) rfl (Nat.succ_pos _) (by simp only[zF8]; omega)
  simp (maxDischargeDepth:=6) only[g3,g8,hyy,hyyb,ly1,bY1,hd,ga1,joinR_ret,Tryd.results14,xD,ruW,putL,Nat.reduceLeDiff,xF,ruU,entryE,Nat.reduceLT,Nat.reduceAdd,Nat.reduceMul,Nat.reduceEqDiff]
  refine⟨mY2.step ga3 hok fun n hn=>.inr (by have:=hid n hn; omega),v',by rw[hV4],by rw[hV4,hops]; exact ga2,fun n hn=>?_⟩
  rcases ga4 n hn with h|h
  ·have:=hid n h; omega
  ·omega
 |false =>
  have he:=of_decide_eq_false hd
  rw[curR,if_neg he]at hops
  obtain⟨v',G,ga1,ga2,ga3,ga4⟩:=opsX_new (m:=2) (l2:=[opM r2 c2,opK 7]) (.inl ho) hyy okY2 (opMK_cells _ _ _) rfl (Nat.succ_pos _) (by simp only[zB6,zB8]; omega)
  simp (maxDischargeDepth:=6) only[g3,g8,hyy,hyyb,ly1,bY1,hd,ga1,joinR_ret,Tryd.results14,xD,ruW,putL,Nat.reduceLeDiff,xF,ruU,entryE,Nat.reduceLT,Nat.reduceAdd,Nat.reduceMul,Nat.reduceEqDiff]
  refine⟨mY2.step ga3 hok fun n hn=>.inr (by have:=hid n hn; omega),v',by rw[hV4],by rw[hV4,hops]; exact ga2,fun n hn=>?_⟩
  rcases ga4 n hn with h|h
  ·have:=hid n h; omega
  ·omega
end Go.Proofs.YtaojjfebkldmnaaDoor
namespace Go.Ax
open Go.ChangeShapes
section
variable {P : Program} {ρ : Ren} {H : AHeap} {w : World}
def roObj (e:TypeId) (vs:List Value):AObj:=⟨.cells #[] e (1,0),true,RV.ofList vs⟩
theorem roObj_fz {e:TypeId} {vs:List Value}:Fz (some (roObj e vs)):=⟨_,rfl,rfl⟩
def roH (H:AHeap) (e:TypeId) (vs:List Value):AHeap:=⟨rootPut H.root H.next (some (roObj e vs)),H.next+1,H.next+1,H.dirty⟩
theorem roH_get {e:TypeId} {vs:List Value} (m:Nat):(roH H e vs).get m=if m=H.next then some (roObj e vs) else H.get m:=rootPut_get _ _ _ _
theorem roH_rk {e:TypeId} {vs:List Value}:rk (roH H e vs) H.next=some ⟨e,true,vs⟩:=by
 rw[rk_eq]
 simp only[cellsR,roH_get,if_true,roObj,zA9,RV.n_ofList,RV.gets_ofList]
def isU8:Value→Bool
 |.int .u8 _=>true
 |_=>false
structure Ro (P:Program) (ρ:Ren) (H:AHeap) (w:World):Prop where
 rel:Rel P ρ H w
 base:H.base=H.next
 dirty:H.dirty=[]
 al:∀ n,H.get n≠none→Fz (H.get n)∨n<P.globals.size∧∃ c e,w.heap[n]?=some (.cells c e (0,0))∧∀ v∈c.toList,isU8 v=true
structure Gro (H H1:AHeap):Prop where
 next:H.next≤H1.next
 get:∀ n,n<H.next→H1.get n=H.get n
theorem Gro.refl:Gro H H:=⟨zA5 _,fun _ _=>rfl⟩
theorem Gro.trans {H1 H2:AHeap} (a:Gro H H1) (b:Gro H1 H2):Gro H H2:=⟨zD7 a.next b.next,fun n hn=>(b.get n (zD9 hn a.next)).trans (a.get n hn)⟩
theorem Ro.add (R:Ro P ρ H w) {b off:Nat} {e:TypeId} {c:Array Value} {fz:Nat × Nat} {vs:List Value} (hb:w.heap[b]?=some (.cells c e fz)) (hc:∀ i,i<vs.length→c[off+i]?=some (ρ.val (vs.getD i undef)))
  (hs:scbL H.next vs=true) (h0:∃ i,i<vs.length∧isU8 (ρ.val (vs.getD i undef))=false):Ro P (ρ.at H.next b off 0) (roH H e vs) w∧Ext H.next ρ (ρ.at H.next b off 0)∧Gro H (roH H e vs):=by
 have ex:=Ren.at_ext ρ H.next b off 0
 have r:=R.rel
 have hal:∀ n,H.get n≠none→ρ.blk n=b→Fz (H.get n):=fun n hn he=>by
  rcases R.al n hn with h|⟨hg,c',e',h1,h2⟩
  ·exact h
  ·rw[(r.glob.2 n hg).1]at he
   subst he
   rw[hb]at h1
   simp only[Option.some.injEq,Obj.cells.injEq]at h1
   obtain⟨i,hi,hu⟩:=h0
   have h3:=hc i hi
   rw[h1.1]at h3
   have:=h2 _ (Array.mem_toList_iff.2 (Array.mem_of_getElem? h3))
   rw[hu]at this
   cases this
 have hgr:Gro H (roH H e vs):=⟨Nat.le_succ _,fun n hn=>by rw[roH_get,if_neg (by omega)]⟩
 refine⟨⟨⟨zA5 _,⟨Nat.le_succ_of_le r.glob.1,fun g hg=>?_⟩,fun m n hm hn he=>?_,fun n o hn=>?_,fun n o hn=>?_⟩,rfl,R.dirty,fun n hn=>?_⟩,ex,hgr⟩
 ·have:=r.glob.1
  rw[ex.blk g (by omega),ex.sh g (by omega)]; exact r.glob.2 g hg
 ·rw[roH_get]at hm hn ⊢
  rw[roH_get]
  by_cases h1:m=H.next<;>by_cases h2:n=H.next
  ·exact .inl (h1.trans h2.symm)
  ·rw[if_neg h2]at hn
   rw[if_pos h1,if_neg h2]
   subst h1
   rw[Ren.at_blk,ex.blk n (r.lt hn)]at he
   exact .inr ⟨roObj_fz,hal n hn he.symm⟩
  ·rw[if_neg h1]at hm
   rw[if_neg h1,if_pos h2]
   subst h2
   rw[Ren.at_blk,ex.blk m (r.lt hm)]at he
   exact .inr ⟨hal m hm he,roObj_fz⟩
  ·rw[if_neg h1]at hm
   rw[if_neg h2]at hn
   rw[if_neg h1,if_neg h2]
   rw[ex.blk m (r.lt hm),ex.blk n (r.lt hn)]at he
   exact r.inj m n hm hn he
 ·rw[roH_get]at hn
  by_cases h:n=H.next
  ·rw[if_pos h]at hn
   cases hn
   subst h
   refine⟨zD2 _,?_⟩
   simp only[sco,roObj,RV.n_ofList,RV.get_ofList]
   intro i hi
   exact scb_mono (Nat.le_succ _) _ (scbL_iff.1 hs _ (by simp[List.getD,hi]))
  ·rw[if_neg h]at hn
   have:=r.dom n o hn
   exact⟨Nat.lt_succ_of_lt this.1,this.2.mono (Nat.le_succ _)⟩
 ·rw[roH_get]at hn
  by_cases h:n=H.next
  ·rw[if_pos h]at hn
   cases hn
   subst h
   refine⟨_,by rw[Ren.at_blk]; exact hb,?_⟩
   simp only[Fits,roObj]
   refine⟨c,fz,rfl,fun i hi=>?_,fun h=>(by cases h),fun _ h=>(by cases h)⟩
   simp only[RV.n_ofList]at hi
   rw[RV.get_ofList,Ren.at_sh,val_ext ex _ (scbL_iff.1 hs _ (by simp[List.getD,hi])),Nat.add_comm]
   exact hc i hi
  ·rw[if_neg h]at hn
   obtain⟨o',h1,h2⟩:=r.obj n o hn
   have hd:=r.dom n o hn
   exact⟨o',by rw[ex.blk n hd.1]; exact h1,h2.ext hd.1 hd.2 ex⟩
 ·rw[roH_get]at hn ⊢
  by_cases h:n=H.next
  ·rw[if_pos h]; exact .inl roObj_fz
  ·rw[if_neg h]at hn ⊢
   exact R.al n hn
theorem Ro.skipE (R:Ro P ρ H w) {ρ':Ren} (ex:Ext H.next ρ ρ'):Ro P ρ' ⟨H.root,H.next+1,H.next+1,H.dirty⟩ w∧Gro H ⟨H.root,H.next+1,H.next+1,H.dirty⟩:=by
 have r:=R.rel
 have hg:∀ n,(⟨H.root,H.next+1,H.next+1,H.dirty⟩:AHeap).get n=H.get n:=fun n=>rfl
 refine⟨⟨⟨zA5 _,⟨Nat.le_succ_of_le r.glob.1,fun g hg=>?_⟩,fun m n hm hn he=>?_,fun n o hn=>?_,fun n o hn=>?_⟩,rfl,R.dirty,fun n hn=>R.al n hn⟩,Nat.le_succ _,fun n _=>rfl⟩
 ·have:=r.glob.1
  rw[ex.blk g (by omega),ex.sh g (by omega)]; exact r.glob.2 g hg
 ·rw[hg]at hm hn
  rw[ex.blk m (r.lt hm),ex.blk n (r.lt hn)]at he
  exact r.inj m n hm hn he
 ·have:=r.dom n o hn
  exact⟨Nat.lt_succ_of_lt this.1,this.2.mono (Nat.le_succ _)⟩
 ·obtain⟨o',h1,h2⟩:=r.obj n o hn
  have hd:=r.dom n o hn
  exact⟨o',by rw[ex.blk n hd.1]; exact h1,h2.ext hd.1 hd.2 ex⟩
theorem Ro.skip (R:Ro P ρ H w) (b off:Nat):Ro P (ρ.at H.next b off 0) ⟨H.root,H.next+1,H.next+1,H.dirty⟩ w∧Ext H.next ρ (ρ.at H.next b off 0)∧Gro H ⟨H.root,H.next+1,H.next+1,H.dirty⟩ :=
 ⟨(R.skipE (Ren.at_ext ρ H.next b off 0)).1,Ren.at_ext ρ H.next b off 0,(R.skipE (Ren.at_ext ρ H.next b off 0)).2⟩
def Ren.atJ (ρ:Ren) (n b s j:Nat):Ren:=⟨fun m=>if m=n then b else ρ.blk m,fun m=>if m=n then s else ρ.sh m,fun m=>if m=n then 0 else ρ.ex m,fun m=>if m=n then .int .i64 j else ρ.op m,fun m=>by
 by_cases h:m=n
 ·simp only[h,if_true]; rfl
 ·simp only[h,if_false]; exact ρ.op1 m⟩
theorem Ren.atJ_ext (ρ:Ren) (n b s j:Nat):Ext n ρ (ρ.atJ n b s j) :=
 ⟨fun m h=>if_neg (Nat.ne_of_lt h),fun m h=>if_neg (Nat.ne_of_lt h),fun m h=>if_neg (Nat.ne_of_lt h),fun m h=>if_neg (Nat.ne_of_lt h)⟩
theorem val_slJ {N b off j:Nat}:(ρ.atJ N b off j).val (.slice (some ⟨N,0,some 1⟩) 0 0)=.slice (some ⟨b,off,some j⟩) 0 0:=by
 simp[Ren.val,Ren.atJ,Ren.offS,Ren.spS,Ren.capS,spO]
def SlAt (H:AHeap) (sz:Nat) (u:Value) (vs:List Value) (len:Nat):Prop :=
 vs.length=len*sz∧∃ a cap,u=.slice a len cap∧(len=0∨∃ n e,a=some ⟨n,0,some 0⟩∧n<H.next∧rk H n=some ⟨e,true,vs⟩∧len≤cap)
theorem SlAt.gro {H1:AHeap} {sz:Nat} {u:Value} {vs:List Value} {len:Nat} (h:SlAt H sz u vs len) (g:Gro H H1):SlAt H1 sz u vs len:=by
 obtain⟨h1,a,cap,h2,h3⟩:=h
 refine⟨h1,a,cap,h2,h3.imp id ?_⟩
 rintro⟨n,e,h4,h5,h6,h7⟩
 exact⟨n,e,h4,zD9 h5 g.next,(rk_get (g.get n h5)).trans h6,h7⟩
theorem val_sl {N b off len cap:Nat}:(ρ.at N b off 0).val (.slice (some ⟨N,0,some 0⟩) len cap)=.slice (some ⟨b,off,none⟩) len cap:=by
 simp[Ren.val,Ren.at_blk,Ren.at_sh]
theorem Ro.sl (R:Ro P ρ H w) {sz len cap b off:Nat} {sp:Option Nat} (hspot:sp=none∨len=0∧cap=0) {vs:List Value} (hlen:vs.length=len*sz)
  (hcell:len=0∨∃ c e fz,w.heap[b]?=some (.cells c e fz)∧∀ i,i<vs.length→c[off+i]?=some (ρ.val (vs.getD i undef))) (hs:scbL H.next vs=true) (h0:len=0∨∃ i,i<vs.length∧isU8 (ρ.val (vs.getD i undef))=false) (hlc:len≤cap) :
  ∃ ρ1 H1 u,Ro P ρ1 H1 w∧Ext H.next ρ ρ1∧Gro H H1∧ρ1.val u=.slice (some ⟨b,off,sp⟩) len cap∧scb H1.next u=true∧SlAt H1 sz u vs len:=by
 by_cases hz:len=0
 ·cases sp with
  |none =>
   obtain⟨k1,k2,k3⟩:=R.skip b off
   exact⟨_,_,.slice (some ⟨H.next,0,some 0⟩) len cap,k1,k2,k3,val_sl,blt_of (zD2 _),hlen,_,_,rfl,.inl hz⟩
  |some j =>
   have hc:cap=0:=by
    rcases hspot with h|h
    ·cases h
    ·exact h.2
   subst hc hz
   obtain⟨k1,k3⟩:=R.skipE (ρ.atJ_ext H.next b off j)
   exact⟨_,_,.slice (some ⟨H.next,0,some 1⟩) 0 0,k1,ρ.atJ_ext H.next b off j,k3,val_slJ,blt_of (zD2 _),hlen,_,_,rfl,.inl rfl⟩
 ·obtain rfl:sp=none:=by
   rcases hspot with h|h
   ·exact h
   ·exact absurd h.1 hz
  obtain⟨c,e,fz,hb,hc⟩:=hcell.resolve_left hz
  obtain⟨k1,k2,k3⟩:=R.add hb hc hs (h0.resolve_left hz)
  exact⟨_,_,.slice (some ⟨H.next,0,some 0⟩) len cap,k1,k2,k3,val_sl,blt_of (zD2 _),hlen,_,_,rfl,.inr ⟨H.next,e,rfl,zD2 _,roH_rk,hlc⟩⟩
variable {K : Type} {enc : TypeId × Value → K} {spare : Nat → Bool} {held : Bool} {fuel : Nat}
theorem sl_spot {t e:TypeId} {sz len cap:Nat} {a:Addr} {x:DataW K × List MemPlace} (hsp:∀ b,spare b=true) (ht:P.underlying t=some (.slice e)) (hsz:szOf P e=some (sz+1)) (h:DataW.trod enc P w 0 spare held fuel t [.slice (some a) len cap]=some x):a.spot=none∨len=0∧cap=0:=by
 have none_at:∀ y,(w.cells? 0 (a.add 0) (sz+1)).bind y=(none:Option (DataW K × List MemPlace))∨a.spot=none:=fun y=>by
  cases hs:a.spot with
  |none=>exact .inr rfl
  |some j =>
   left
   cases hc:w.cells? 0 (a.add 0) (sz+1) with
   |none=>rfl
   |some cs =>
    unfold World.cells? at hc
    rw[if_pos (zB0 _)]at hc
    obtain⟨v,hv⟩:=Go.Ax.mapM_each hc 0 (by simp)
    simp only[Addr.add,if_true,World.cell?,hs,Option.isSome_some]at hv
    split at hv<;>cases hv
 rcases DataW.trod_slice ht h with⟨h1,_⟩|⟨a',len',cap',elems,rest,n,_,h1,_,_,hle,_,hel,hcells,hrest,_⟩
 ·simp at h1
 ·simp only[List.cons.injEq,Value.slice.injEq,Option.some.injEq,and_true]at h1
  obtain⟨rfl,rfl,rfl⟩:=h1
  rw[cellsOf_szOf hsz]at hcells hrest
  rcases Nat.eq_zero_or_pos len with h0|h0
  ·subst h0
   rcases Nat.eq_zero_or_pos cap with hc|hc
   ·exact .inr ⟨rfl,hc⟩
   ·obtain⟨hl,hr⟩:=hrest (hsp _)
    have:=hr 0 (by omega)
    rw[zC2,zE9]at this
    rcases none_at (DataW.trod enc P w 0 spare held n e) with h2|h2
    ·rw[h2,zA6 (by omega)]at this
     cases this
    ·exact .inl h2
  ·have:=hcells 0 h0
   rw[zE9]at this
   rcases none_at (DataW.trod enc P w 0 spare held n e) with h2|h2
   ·rw[h2,zA6 (by omega)]at this
    cases this
   ·exact .inl h2
theorem sl_cells {t e:TypeId} {sz b off len cap:Nat} {x:DataW K × List MemPlace} (ht:P.underlying t=some (.slice e)) (hsz:szOf P e=some sz) (h:DataW.trod enc P w 0 spare held fuel t [.slice (some ⟨b,off,none⟩) len cap]=some x) :
  ∃ (vs:List Value) (n:Nat),vs.length=len*sz∧(len*sz=0∨∃ c e' fz,w.heap[b]?=some (.cells c e' fz)∧∀ i,i<vs.length→c[off+i]?=some (vs.getD i undef)) ∧
   ∀ i,i<len→∃ y,DataW.trod enc P w 0 spare held n e ((vs.drop (i*sz)).take sz)=some y:=by
 rcases DataW.trod_slice ht h with⟨h1,_⟩|⟨a,len',cap',elems,rest,n,_,h1,_,_,_,_,hel,hcells,_,_⟩
 ·simp at h1
 ·simp only[List.cons.injEq,Value.slice.injEq,Option.some.injEq,and_true]at h1
  obtain⟨rfl,rfl,rfl⟩:=h1
  rw[cellsOf_szOf hsz]at hcells
  have each:∀ i,i<len→∃ cs y,w.cells? 0 ((⟨b,off,none⟩:Addr).add (i*sz)) sz=some cs∧DataW.trod enc P w 0 spare held n e cs=some y:=fun i hi=>by
   have:=hcells i hi
   rw[zA6 (by omega)]at this
   obtain⟨cs,h1,h2⟩:=zA2.1 this
   exact⟨cs,_,h1,h2⟩
  by_cases h0:len*sz=0
  ·refine⟨[],n,by simp[h0],.inl h0,fun i hi=>?_⟩
   obtain⟨cs,y,h1,h2⟩:=each i hi
   have hsz0:sz=0:=by
    rcases Nat.eq_zero_or_pos sz with h|h
    ·exact h
    ·have:=Nat.mul_pos (show 0<len by omega) h; omega
   subst hsz0
   unfold World.cells? at h1
   rw[if_pos (zB0 _)]at h1
   simp at h1
   subst h1
   exact⟨y,by simpa using h2⟩
  ·have hp:0<sz:=Nat.pos_of_ne_zero fun h=>h0 (by rw[h,Nat.mul_zero])
   have cell:∀ i,i<len*sz→∃ v,w.cell? ⟨b,off+i,none⟩=some v:=fun i hi=>by
    have hq:i / sz<len:=(Nat.div_lt_iff_lt_mul hp).2 hi
    obtain⟨cs,y,hcs,_⟩:=each _ hq
    unfold World.cells? at hcs
    rw[if_pos (zB0 _)]at hcs
    obtain⟨v,hv⟩:=mapM_each hcs (i % sz) (by simpa using Nat.mod_lt _ hp)
    rw[addr_add,addr_add]at hv
    have:off+i / sz*sz+i % sz=off+i:=by rw[Nat.add_assoc,Nat.mul_comm,Nat.div_add_mod]
    rw[this]at hv
    exact⟨v,hv⟩
   obtain⟨v0,hv0⟩:=cell 0 (by omega)
   unfold World.cell? at hv0
   cases hb:w.heap[b]? with
   |none=>simp[hb]at hv0
   |some o =>
    cases o with
    |cells c e' fz =>
     have cell':∀ i,i<len*sz→∃ v,c[off+i]?=some v:=fun i hi=>by
      obtain⟨v,hv⟩:=cell i hi
      simp only[World.cell?,hb]at hv
      exact⟨v,by simpa using hv⟩
     obtain⟨vs,hvs⟩:∃ vs:List Value,vs=(List.range (len*sz)).map fun i=>(c[off+i]?).getD undef:=⟨_,rfl⟩
     have hvl:vs.length=len*sz:=by simp[hvs]
     have hvg:∀ i,i<vs.length→c[off+i]?=some (vs.getD i undef):=fun i hi=>by
      rw[hvl]at hi
      obtain⟨v,hv⟩:=cell' i hi
      simp[hvs,hi,hv,zE2]
     refine⟨vs,n,hvl,.inr ⟨c,e',fz,rfl,hvg⟩,fun i hi=>?_⟩
     obtain⟨cs,y,hcs,hy⟩:=each i hi
     have hcs':(vs.drop (i*sz)).take sz=cs:=by
      unfold World.cells? at hcs
      rw[if_pos (zB0 _)]at hcs
      have hin:i*sz+sz≤len*sz:=by rw[←Nat.succ_mul]; exact Nat.mul_le_mul_right _ hi
      have hr:=mapM_range_of (f:=fun j=>w.cell? (((⟨b,off,none⟩:Addr).add (i*sz)).add j)) (g:=fun j=>vs.getD (i*sz+j) undef) sz (fun j hj=>by
       have h3:=hvg (i*sz+j) (by rw[hvl]; omega)
       rw[addr_add,addr_add,Nat.add_assoc]
       simp[World.cell?,hb,h3])
      rw[hr]at hcs
      cases hcs
      apply List.ext_getElem?
      intro j
      by_cases hj:j<sz
      ·rw[List.getElem?_take,if_pos hj,List.getElem?_drop,List.getElem?_map,List.getElem?_range hj,zA6 (by rw[hvl]; omega)]
       simp only[zA9,zE2]
       rw[zA6 (by rw[hvl]; omega)]
       rfl
      ·rw[zE5 (by simp; omega),zE5 (by simp; omega)]
     rw[hcs']
     exact⟨y,hy⟩
    |_=>simp[hb]at hv0
end
open Go.ChangeShapes
section
variable {P : Program} {ρ : Ren} {H : AHeap} {w : World}
variable {K : Type} {enc : TypeId × Value → K} {spare : Nat → Bool} {held : Bool}
theorem fit1_af {t:TypeId} {v:Value} (h:fit1 P t v=true):af v=true:=by
 unfold fit1 at h
 split at h<;>first|rfl|cases h
theorem fits_afm:∀ {ts:List TypeId} {cs:List Value},fits P ts cs=true→∀ v∈cs,af v=true
 |[],[],_,v,hv=>by cases hv
 |t::ts,c::cs,h,v,hv=>by
  simp only[fits,zA8]at h
  rcases zB3.1 hv with rfl|hv
  ·exact fit1_af h.1
  ·exact fits_afm h.2 v hv
 |[],_::_,h,_,_=>by cases h
 |_::_,[],h,_,_=>by cases h
def nu8 (P:Program) (t:TypeId):Bool :=
 match P.underlying t with
 |some (.int .u8)=>false
 |_=>true
theorem nu8_val {t:TypeId} {v:Value} (hn:nu8 P t=true) (h:fit1 P t v=true):isU8 v=false:=by
 unfold isU8
 split
 ·unfold fit1 at h
  unfold nu8 at hn
  split at h
  ·rename_i hv; cases hv
  ·rename_i k k' n hu hv
   cases hv
   have:k=.u8:=by simpa using h
   subst this
   rw[hu]at hn
   cases hn
  ·rename_i hv; cases hv
  ·cases h
 ·rfl
def chunkd (P:Program) (ts:List TypeId) (vs:List Value) (len:Nat):Prop:=∀ i,i<len→fits P ts ((vs.drop (i*ts.length)).take ts.length)=true
theorem chunkd_af {ts:List TypeId} {vs:List Value} {len:Nat} (hl:vs.length=len*ts.length) (h:chunkd P ts vs len):∀ v∈vs,af v=true:=by
 intro v hv
 rw[cut_flat len vs hl]at hv
 obtain⟨l,hl2,hv⟩:=List.mem_flatten.1 hv
 obtain⟨i,hi,rfl⟩:=List.mem_map.1 hl2
 exact fits_afm (h i (zF3.1 hi)) v hv
theorem map_val_af {vs:List Value} (h:∀ v∈vs,af v=true) (i:Nat) (hi:i<vs.length):ρ.val (vs.getD i undef)=vs.getD i undef :=
 val_af ρ _ (h _ (by simp[List.getD,hi]))
theorem Ro.slF (R:Ro P ρ H w) {t e t0:TypeId} {ts:List TypeId} {D fuel:Nat} {v:Value} {x:DataW K × List MemPlace} (ht:P.underlying t=some (.slice e)) (hsz:szOf P e=some (t0::ts).length) (hfl:flat P D e=some (t0::ts)) (hu:nu8 P t0=true)
  (hall:∀ b,spare b=true) (h:DataW.trod enc P w 0 spare held fuel t [v]=some x) :
  ∃ ρ1 H1 u vs len,Ro P ρ1 H1 w∧Ext H.next ρ ρ1∧Gro H H1∧ρ1.val u=v∧scb H1.next u=true∧SlAt H1 (t0::ts).length u vs len∧chunkd P (t0::ts) vs len:=by
 rcases DataW.trod_slice ht h with⟨h1,_⟩|⟨a,len,cap,_,_,_,_,h1,_,_,hlc,_⟩
 ·simp only[List.cons.injEq,and_true]at h1
  subst h1
  exact⟨ρ,H,.slice none 0 0,[],0,R,Ext.refl _ _,Gro.refl,by rw[Ren.val],rfl,⟨by simp,none,0,rfl,.inl rfl⟩,fun i hi=>absurd hi (by omega)⟩
 ·simp only[List.cons.injEq,and_true]at h1
  subst h1
  have hs0:=sl_spot hall ht hsz h
  obtain⟨b,off,s⟩:=a
  simp only at hs0
  rcases hs0 with hs0|⟨rfl,rfl⟩
  case inr =>
   obtain⟨ρ1,H1,u,q1,q2,q3,q4,q5,q6⟩:=R.sl (sz:=(t0::ts).length) (len:=0) (cap:=0) (b:=b) (off:=off) (sp:=s) (vs:=[]) (.inr ⟨rfl,rfl⟩) (by simp) (.inl rfl) rfl (.inl rfl) (zA5 _)
   exact⟨ρ1,H1,u,[],0,q1,q2,q3,q4,q5,q6,fun i hi=>absurd hi (by omega)⟩
  subst hs0
  obtain⟨vs,n,k1,k2,k3⟩:=sl_cells ht hsz h
  have hch:chunkd P (t0::ts) vs len:=fun i hi=>by
   obtain⟨y,hy⟩:=k3 i hi
   exact trod_fits n D e (t0::ts) _ y hfl hsz hy
  have haf:=chunkd_af k1 hch
  have hsc:scbL H.next vs=true:=scbL_of_af _ (afL_of haf)
  have h0:len=0∨∃ i,i<vs.length∧isU8 (ρ.val (vs.getD i undef))=false:=by
   rcases Nat.eq_zero_or_pos len with h|h
   ·exact .inl h
   ·right
    have hp:0<vs.length:=by rw[k1]; exact Nat.mul_pos h (by simp)
    refine⟨0,hp,?_⟩
    rw[map_val_af haf 0 hp]
    have hc:=hch 0 h
    rw[zE9,zD1]at hc
    cases vs with
    |nil=>simp at hp
    |cons y ys =>
     simp only[zB6,List.take_succ_cons,fits,zA8]at hc
     exact nu8_val hu hc.1
  have hcell:len=0∨∃ c e fz,w.heap[b]?=some (.cells c e fz)∧∀ i,i<vs.length→c[off+i]?=some (ρ.val (vs.getD i undef)):=by
   rcases k2 with h|⟨c,e',fz,h1,h2⟩
   ·left
    exact (Nat.mul_eq_zero.1 h).resolve_right (by simp)
   ·exact .inr ⟨c,e',fz,h1,fun i hi=>by rw[map_val_af haf i hi]; exact h2 i hi⟩
  obtain⟨ρ1,H1,u,q1,q2,q3,q4,q5,q6⟩:=R.sl (cap:=cap) (.inl rfl) k1 hcell hsc h0 hlc
  exact⟨ρ1,H1,u,vs,len,q1,q2,q3,q4,q5,q6,hch⟩
theorem Ro.rows {t e t0:TypeId} {ts:List TypeId} {D:Nat} (ht:P.underlying t=some (.slice e)) (hsz:szOf P e=some (t0::ts).length) (hfl:flat P D e=some (t0::ts)) (hu:nu8 P t0=true) (hall:∀ b,spare b=true) :
  ∀ (hs:List Value) {ρ:Ren} {H:AHeap},(∀ v∈hs,∃ (n:Nat) (x:DataW K × List MemPlace),DataW.trod enc P w 0 spare held n t [v]=some x)→Ro P ρ H w →
   ∃ ρ1 H1 us,Ro P ρ1 H1 w∧Ext H.next ρ ρ1∧Gro H H1∧us.map ρ1.val=hs∧scbL H1.next us=true∧∀ u∈us,∃ vs len,SlAt H1 (t0::ts).length u vs len∧chunkd P (t0::ts) vs len
 |[],ρ,H,_,R=>⟨ρ,H,[],R,Ext.refl _ _,Gro.refl,rfl,rfl,fun u hu=>by cases hu⟩
 |v::hs,ρ,H,hh,R=>by
  obtain⟨n,x,hx⟩:=hh v (by simp)
  obtain⟨ρ1,H1,u,vs,len,a1,a2,a3,a4,a5,a6,a7⟩:=R.slF ht hsz hfl hu hall hx
  obtain⟨ρ2,H2,us,b1,b2,b3,b4,b5,b6⟩:=Ro.rows ht hsz hfl hu hall hs (fun v hv=>hh v (by simp[hv])) a1
  refine⟨ρ2,H2,u::us,b1,a2.trans b2 a3.next,a3.trans b3,?_,?_,?_⟩
  ·rw[zC8,b4,val_ext b2 u a5,a4]
  ·simp only[scbL,scb_mono b3.next u a5,b5,zE0]
  ·intro y hy
   rcases zB3.1 hy with rfl|hy
   ·exact⟨vs,len,a6.gro b3,a7⟩
   ·exact b6 y hy
theorem trod_nu8 {t e:TypeId} {n:Nat} {v:Value} {x:DataW K × List MemPlace} (ht:P.underlying t=some (.slice e)) (h:DataW.trod enc P w 0 spare held n t [v]=some x):isU8 v=false:=by
 rcases DataW.trod_slice ht h with⟨h1,_⟩|⟨a,len,cap,_,_,_,_,h1,_⟩
 ·simp only[List.cons.injEq,and_true]at h1
  subst h1
  rfl
 ·simp only[List.cons.injEq,and_true]at h1
  subst h1
  rfl
theorem Ro.grid (R:Ro P ρ H w) {t2 t e t0:TypeId} {ts:List TypeId} {D fuel:Nat} {v:Value} {x:DataW K × List MemPlace} (ht2:P.underlying t2=some (.slice t)) (hs1:szOf P t=some 1) (ht:P.underlying t=some (.slice e)) (hsz:szOf P e=some (t0::ts).length) (hfl:flat P D e=some (t0::ts)) (hu:nu8 P t0=true)
  (hall:∀ b,spare b=true) (h:DataW.trod enc P w 0 spare held fuel t2 [v]=some x) :
  ∃ ρ1 H1 u us,Ro P ρ1 H1 w∧Ext H.next ρ ρ1∧Gro H H1∧ρ1.val u=v∧scb H1.next u=true∧SlAt H1 1 u us us.length∧∀ y∈us,∃ vs len,SlAt H1 (t0::ts).length y vs len∧chunkd P (t0::ts) vs len:=by
 rcases DataW.trod_slice ht2 h with⟨h1,_⟩|⟨a,len,cap,_,_,_,_,h1,_,_,hlc,_⟩
 ·simp only[List.cons.injEq,and_true]at h1
  subst h1
  exact⟨ρ,H,.slice none 0 0,[],R,Ext.refl _ _,Gro.refl,by rw[Ren.val],rfl,⟨by simp,none,0,rfl,.inl rfl⟩,fun y hy=>by cases hy⟩
 ·simp only[List.cons.injEq,and_true]at h1
  subst h1
  have hs0:=sl_spot hall ht2 hs1 h
  obtain⟨b,off,s⟩:=a
  simp only at hs0
  rcases hs0 with hs0|⟨rfl,rfl⟩
  case inr =>
   obtain⟨ρ1,H1,u,q1,q2,q3,q4,q5,q6⟩:=R.sl (sz:=1) (len:=0) (cap:=0) (b:=b) (off:=off) (sp:=s) (vs:=[]) (.inr ⟨rfl,rfl⟩) (by simp) (.inl rfl) rfl (.inl rfl) (zA5 _)
   exact⟨ρ1,H1,u,[],q1,q2,q3,q4,q5,q6,fun y hy=>by cases hy⟩
  subst hs0
  obtain⟨vs,n,k1,k2,k3⟩:=sl_cells ht2 hs1 h
  rw[Nat.mul_one]at k1
  have hmem:∀ v∈vs,∃ (n:Nat) (x:DataW K × List MemPlace),DataW.trod enc P w 0 spare held n t [v]=some x:=fun v hv=>by
   obtain⟨i,hi,rfl⟩:=List.getElem_of_mem hv
   obtain⟨y,hy⟩:=k3 i (by omega)
   have e1:(vs.drop (i*1)).take 1=[vs[i]]:=by
    rw[Nat.mul_one,zF0 hi]
    rfl
   rw[e1]at hy
   exact⟨n,y,hy⟩
  obtain⟨ρ1,H1,us,b1,b2,b3,b4,b5,b6⟩:=Ro.rows ht hsz hfl hu hall vs hmem R
  have hlen:us.length=vs.length:=by rw[←b4,List.length_map]
  have hval:∀ i,i<us.length→ρ1.val (us.getD i undef)=vs.getD i undef:=fun i hi=>by
   rw[←b4]
   simp[List.getD,hi]
  have hcell:len=0∨∃ c e fz,w.heap[b]?=some (.cells c e fz)∧∀ i,i<us.length→c[off+i]?=some (ρ1.val (us.getD i undef)):=by
   rcases k2 with h|⟨c,e',fz,h1,h2⟩
   ·exact .inl (by omega)
   ·exact .inr ⟨c,e',fz,h1,fun i hi=>by rw[hval i hi]; exact h2 i (by omega)⟩
  have h0:len=0∨∃ i,i<us.length∧isU8 (ρ1.val (us.getD i undef))=false:=by
   rcases Nat.eq_zero_or_pos len with h|h
   ·exact .inl h
   ·refine .inr ⟨0,by omega,?_⟩
    rw[hval 0 (by omega)]
    have hv:vs.getD 0 undef∈vs:=by
     have h0:0<vs.length:=by omega
     simp[List.getD,h0]
    obtain⟨n,y,hy⟩:=hmem _ hv
    exact trod_nu8 ht hy
  obtain⟨ρ2,H2,u,q1,q2,q3,q4,q5,q6⟩:=b1.sl (sp:=none) (.inl rfl) (sz:=1) (vs:=us) (len:=len) (cap:=cap) (b:=b) (off:=off) (by omega) hcell b5 h0 hlc
  refine⟨ρ2,H2,u,us,q1,b2.trans q2 b3.next,b3.trans q3,q4,q5,?_,fun y hy=>?_⟩
  ·rw[show us.length=len by omega]; exact q6
  ·obtain⟨vs',l',j1,j2⟩:=b6 y hy
   exact⟨vs',l',j1.gro q3,j2⟩
end
open Go.ChangeShapes
section
variable {P : Program} {ρ : Ren} {H : AHeap} {w : World}
variable {K : Type} {enc : TypeId × Value → K} {spare : Nat → Bool} {held : Bool}
def flds (P:Program) (t:TypeId):Option (List (TypeId × Nat)) :=
 match P.underlying t with
 |some (.struct fs)=>some (fs.toList.map fun f=>(f.type,f.offset))
 |_=>none
theorem trod_flds {t:TypeId} {l:List (TypeId × Nat)} {fuel base:Nat} {cs:List Value} {x:DataW K × List MemPlace} (h:flds P t=some l) (hx:DataW.trod enc P w base spare held fuel t cs=some x) :
  cs.length=P.cellsOf t∧∃ n:Nat,∀ (i:Nat) (ty:TypeId) (off:Nat),l[i]?=some (ty,off)→∃ y,DataW.trod enc P w base spare held n ty ((cs.drop off).take (P.cellsOf ty))=some y:=by
 unfold flds at h
 split at h
 ·rename_i fs hu
  simp only[Option.some.injEq]at h
  subst h
  obtain⟨xs,n,_,_,hl,hxs,hf⟩:=DataW.trod_struct hu hx
  refine⟨hl,n,fun i ty off hi=>?_⟩
  rw[List.getElem?_map,zB2]at hi
  obtain⟨f,hfi,he⟩:=hi
  simp only[Prod.mk.injEq]at he
  obtain⟨rfl,rfl⟩:=he
  have hfi':fs[i]?=some f:=by simpa using hfi
  have hlt:i<fs.size:=(Array.getElem?_eq_some_iff.1 hfi').1
  have:=hf i f hfi'
  rw[zA6 (by omega)]at this
  exact⟨_,this⟩
 ·cases h
theorem chunk_of {α:Type} {ts:List TypeId} {f:α→List Value} (hf:∀ cs,fits P ts cs=true→∃ a,cs=f a):∀ (len:Nat) (vs:List Value),vs.length=len*ts.length→chunkd P ts vs len→∃ l:List α,l.length=len∧vs=l.flatMap f
 |0,vs,hl,_=>⟨[],rfl,by simpa using hl⟩
 |len+1,vs,hl,h=>by
  have h0:=h 0 (by omega)
  rw[zE9,zD1]at h0
  obtain⟨a,ha⟩:=hf _ h0
  have hlen:ts.length≤vs.length:=by rw[hl,Nat.succ_mul]; omega
  obtain⟨l,h1,h2⟩:=chunk_of hf len (vs.drop ts.length) (by rw[zF1,hl,Nat.succ_mul]; omega) (fun i hi=>by
   have:=h (i+1) (by omega)
   rw[List.drop_drop]
   rw[Nat.succ_mul,Nat.add_comm]at this
   exact this)
  refine⟨a::l,by simp[h1],?_⟩
  rw[zF7,←h2,←ha,List.take_append_drop]
theorem Rel.rk_sc (r:Rel P ρ H w) {n:Nat} {b:Bl} (h:rk H n=some b):scbL H.next b.l=true:=by
 rw[rk_eq]at h
 unfold cellsR at h
 split at h
 ·rename_i a e q o v hg
  simp only[zA9,Option.some.injEq]at h
  subst h
  have:=(r.dom _ _ hg).2
  simp only[sco]at this
  exact gets_sc this (by omega)
 ·cases h
end
end Go.Ax
namespace Go.Proofs.YtaojjfebkldmnaaDoor
open Go.ChangeShapes Go.WideShapes Go.ChangeAt Go.RowKit Go.Ax
theorem trodAll_carry {K:Type} {enc:TypeId × Value→K} {P:Program} (hl:laidOutB P=true) {W W':World} (hb:Below W.heap.size W W'):∀ {ts:List TypeId} {vs:List Value} {ds:List (DataW K)} {ps:List MemPlace},
  (ts.all fun t=>P.readableRec t&&Nat.blt t P.types.size)=true→DataW.TrodAll enc P W 0 (fun _=>true) true ts vs ds ps→(∀ x∈ps,x.block<W.heap.size)→DataW.TrodAll enc P W' 0 (fun b=>decide (b<W.heap.size)) true ts vs ds ps
 |[],[],[],ps,_,h,_=>h
 |t::ts,v::vs,d::ds,ps,ht,h,hp=>by
  obtain⟨p,q,h1,h2,rfl⟩:=h
  simp only[List.all_cons,zA8]at ht
  exact⟨p,q,Below.trod hl ht.1.1 (blt_lt ht.1.2) h1 hb (fun x hx=>hp x (by simp[hx])),trodAll_carry hl hb (by simpa using ht.2) h2 (fun x hx=>hp x (by simp[hx])),rfl⟩
theorem Tryd.own:ownKnob Tryd.prog.godebug=none:=by kernel_rfl
theorem Tryd.laidOut:laidOutB Tryd.prog=true:=by kernel_rfl
theorem la_u3:Tryd.prog.underlying 3=some (.int .i64):=by kernel_rfl
theorem la_u4:Tryd.prog.underlying 4=some .bool:=by kernel_rfl
theorem la_f24:flds Tryd.prog 24=some [(22,0),(3,1),(3,2)]:=by kernel_rfl
theorem ro0 (W:World):∃ ρ H,Ro Tryd.prog ρ H W:=by
 obtain⟨N,hN⟩:∃ N,Tryd.prog.globals.size=N:=⟨_,rfl⟩
 have r:Rel Tryd.prog (enR N 0 0) (AHeap.none (N+1)) W:=⟨zA5 _,⟨by rw[hN]; exact Nat.le_succ N,fun g hg=>by
   have:g≠N:=by omega
   exact⟨if_neg this,if_neg this⟩⟩,fun m _ hm=>absurd (none_get _ m) hm,fun n o ho=>(by rw[none_get]at ho; cases ho),fun n o ho=>(by rw[none_get]at ho; cases ho)⟩
 exact⟨_,_,r,rfl,rfl,fun n hn=>absurd (none_get _ n) hn⟩
theorem ce_of:∀ cs,fits Tryd.prog [3,3,3,4,4,4] cs=true→∃ c:Ce,cs=c.cells:=fun cs h=>by
 have hl:=fits_length h
 match cs,hl,h with
 |[a,b,c,d,e,f],_,h =>
  simp only[fits,zA8,Bool.and_true]at h
  obtain⟨h1,h2,h3,h4,h5,h6⟩:=h
  unfold fit1 at h1 h2 h3 h4 h5 h6
  rw[la_u3]at h1 h2 h3
  rw[la_u4]at h4 h5 h6
  cases a<;>simp at h1
  cases b<;>simp at h2
  cases c<;>simp at h3
  cases d<;>simp at h4
  cases e<;>simp at h5
  cases f<;>simp at h6
  subst h1 h2 h3
  exact⟨⟨_,_,_,_,_,_⟩,rfl⟩
theorem SlAt.slE {H:AHeap} {u:Value} {vs:List Value} {len sz:Nat} (h:SlAt H sz u vs len) (h0:len≠0):SlE H sz u vs len:=by
 obtain⟨h1,a,cap,rfl,h3⟩:=h
 obtain⟨n,e,rfl,h4,h5,h6⟩:=h3.resolve_left h0
 refine⟨n,0,some 0,cap-len,e,true,vs,by rw[show len+(cap-len)=cap by omega],.inl rfl,h5,h4,by omega,?_⟩
 rw[zD1,zE6 (by omega)]
theorem slAt_row {H:AHeap} {u:Value} {vs:List Value} {len:Nat} (h:SlAt H 6 u vs len) (hc:chunkd Tryd.prog [3,3,3,4,4,4] vs len):∃ row,RowS H u row:=by
 obtain⟨l,hl,rfl⟩:=chunk_of ce_of len vs h.1 hc
 by_cases h0:l=[]
 ·obtain⟨_,a,cap,rfl,_⟩:=h
  subst h0
  subst hl
  exact⟨[],.inl ⟨rfl,a,cap,rfl⟩⟩
 ·have hne:len≠0:=fun h=>h0 (zD8 (by omega))
  have:=SlAt.slE h hne
  rw[←hl]at this
  exact⟨l,.inr ⟨h0,this⟩⟩
theorem rows_of {H:AHeap}:∀ {us:List Value},(∀ y∈us,∃ row,RowS H y row)→∃ g:List (List Ce),g.length=us.length∧∀ (k:Nat) row,g[k]?=some row→∃ rv,us[k]?=some rv∧RowS H rv row
 |[],_=>⟨[],rfl,fun k row h=>by simp at h⟩
 |u::us,h=>by
  obtain⟨row,hr⟩:=h u (by simp)
  obtain⟨g,h1,h2⟩:=rows_of (us:=us) (fun y hy=>h y (by simp[hy]))
  refine⟨row::g,by simp[h1],fun k r hk=>?_⟩
  cases k with
  |zero =>
   simp only[zF4,Option.some.injEq]at hk
   subst hk
   exact⟨u,rfl,hr⟩
  |succ k=>exact h2 k r (by simpa using hk)
theorem SlE.gro {H G:AHeap} {u:Value} {L:List Value} {sz cnt:Nat} (h:SlE H sz u L cnt) (y:Gro H G):SlE G sz u L cnt:=h.of y.next fun n hn=>y.get n (h.ne n hn).2
theorem RowS.gro {H G:AHeap} {v:Value} {l:List Ce} (h:RowS H v l) (y:Gro H G):RowS G v l:=h.imp id fun⟨h0,h1⟩=>⟨h0,h1.gro y⟩
theorem GridS.gro {H G:AHeap} {v:Value} {g:List (List Ce)} (h:GridS H v g) (y:Gro H G):GridS G v g:=h.imp id fun⟨h0,rvs,h1,h2,h3⟩=>⟨h0,rvs,h1,h2.gro y,fun k row hk=>let ⟨rv,h4,h5⟩:=h3 k row hk; ⟨rv,h4,h5.gro y⟩⟩
section
variable {K : Type} {enc : TypeId × Value → K} {held : Bool} {W : World} {ρ : Ren} {H : AHeap}
theorem ro_screen (R:Ro Tryd.prog ρ H W) {v:Value} {d:DataW K} {p:List MemPlace} (h:DataW.Trod enc Tryd.prog W 0 (fun _=>true) held 24 v d p) :
  ∃ ρ1 H1 u g r c,Ro Tryd.prog ρ1 H1 W∧Ext H.next ρ ρ1∧Gro H H1∧ρ1.val (.agg ⟨[u,.int .i64 r,.int .i64 c]⟩)=v∧scb H1.next u=true∧GridS H1 u g∧GridSc H1 u:=by
 obtain⟨fuel,hf⟩:=h
 obtain⟨hl,n,hs⟩:=trod_flds la_f24 hf
 rw[cellsOf_szOf (n:=3) (by kernel_rfl)]at hl
 have c22:Tryd.prog.cellsOf 22=1:=cellsOf_szOf (by kernel_rfl)
 have c3:Tryd.prog.cellsOf 3=1:=cellsOf_szOf (by kernel_rfl)
 cases v with
 |agg cs =>
  obtain⟨cs⟩:=cs
  simp only[Value.cells]at hl hs
  match cs,hl,hs with
  |[a,b,c],_,hs =>
   obtain⟨y0,h0⟩:=hs 0 22 0 rfl
   obtain⟨y1,h1⟩:=hs 1 3 1 rfl
   obtain⟨y2,h2⟩:=hs 2 3 2 rfl
   rw[c22]at h0
   rw[c3]at h1 h2
   obtain⟨r,e1,_⟩:=DataW.trod_int la_u3 h1
   obtain⟨q,e2,_⟩:=DataW.trod_int la_u3 h2
   simp only[List.drop_succ_cons,zD1,List.take_succ_cons,List.take_zero,List.cons.injEq,and_true]at e1 e2 h0
   subst e1 e2
   obtain⟨ρ1,H1,u,us,k1,k2,k3,k4,k5,k6,k7⟩:=R.grid (t2:=22) (t:=56) (e:=55) (t0:=3) (ts:=[3,3,4,4,4]) (D:=1000) (by kernel_rfl) (by kernel_rfl) (by kernel_rfl) (by kernel_rfl) (by kernel_rfl) (by kernel_rfl) (fun _=>rfl) h0
   obtain⟨g,hg1,hg2⟩:=rows_of (H:=H1) (us:=us) (fun y hy=>by
    obtain⟨vs,len,j1,j2⟩:=k7 y hy
    exact slAt_row j1 j2)
   refine⟨ρ1,H1,u,g,r,q,k1,k2,k3,?_,k5,?_,fun n off s len c b _ hb=>k1.rel.rk_sc hb⟩
   ·simp[Ren.val,Ren.valA,Ren.valL,k4]
   ·obtain⟨j1,a,cap,rfl,j3⟩:=k6
    by_cases h0:g=[]
    ·subst h0
     have:us.length=0:=by simpa using hg1.symm
     rw[this]
     exact .inl ⟨rfl,a,cap,rfl⟩
    ·have hne:us.length≠0:=fun h=>h0 (zD8 (by omega))
     have hE:=SlAt.slE (H:=H1) (sz:=1) (u:=.slice a us.length cap) ⟨j1,a,cap,rfl,j3⟩ hne
     rw[←hg1]at hE
     exact .inr ⟨h0,us,hg1.symm,by rw[hg1]at hE ⊢; exact hE,hg2⟩
 |_=>simp[Value.cells]at hl
end
open Go.Ax
abbrev True1 (H:AHeap) (out:Out) (H1:AHeap):Prop:=out=.ok (.bool true)∧Mod [] H H1
theorem GridAt.foot0 {H:AHeap} {v:Value} {g:List (List Ce)} (h:GridAt H v g):∃ F:List Nat,(∀ n∈F,H.get n≠none∧n<H.next)∧∀ G:AHeap,H.next≤G.next→(∀ n∈F,G.get n=H.get n)→GridAt G v g:=by
 by_cases hne:g=[]
 ·subst hne
  obtain⟨a,c,e⟩:=h.sl
  exact⟨[],by simp,fun G _ _=>.inl ⟨rfl,a,c,e⟩⟩
 ·obtain⟨F,h1,h2⟩:=h.foot hne
  exact⟨F,h1,fun G hn hg=>(h2 G hn hg).1⟩
theorem GridAt.footR {H:AHeap} {v:Value} {g:List (List Ce)} (h:GridAt H v g) (sc:GridSc H v):∃ F:List Nat,(∀ n∈F,H.get n≠none∧n<H.next)∧GridAt (H.restrict F) v g∧GridSc (H.restrict F) v:=by
 by_cases hne:g=[]
 ·subst hne
  obtain⟨a,c,e⟩:=h.sl
  exact⟨[],by simp,.inl ⟨rfl,a,c,e⟩,fun n off s len c b _ hb=>absurd (by rw[restrict_get,if_neg (by simp)]) (rk_ne hb)⟩
 ·obtain⟨F,h1,h2⟩:=h.foot hne
  have hrn:=restrict_next H F
  have:=h2 (H.restrict F) (by rw[hrn.1]; exact zA5 _) (fun n hn=>by rw[restrict_get,if_pos hn])
  exact⟨F,h1,this.1,this.2 sc⟩
theorem OpsW.own {H:AHeap} {v:Value} {l:List Op} (h:OpsW H v l):OwnOps H v (idsV v) l:=by
 obtain⟨h1,h2,⟨h3,rfl⟩|⟨h3,n,rfl,hb,hn⟩⟩:=h
 ·exact .inl ⟨zD8 h3,_,_,rfl⟩
 ·exact .inr ⟨fun e=>by rw[e]at h3; simp at h3,n,none,_,_,rfl,hb,hn,by simp[idsV]⟩
theorem Grow.mv {N:Nat} {X Y:AHeap} {u:Value} {rvs:List Value} {g:List (List Ce)} (o:Grow N X u rvs g) (m:Mod [] X Y):Grow N Y u rvs g:=o.of m.next fun n hn _=>m.get n hn (by simp)
theorem rowsR_len:∀ (g h:List (List Ce)) (i:Nat) (p:Lk),(∀ l∈h,l.length≤60)→(rowsR i g h p).length≤h.length*182
 |[],h,i,p,_=>by cases h<;>simp[rowsR]
 |_::_,[],i,p,_=>by simp[rowsR]
 |a::g,b::h,i,p,hw=>by
  have h1:=rowsR_len g h (i+1) p fun l hl=>hw l (zB4 _ hl)
  have h2:=rowsR_len g h (i+1) (lineR i a b p).2 fun l hl=>hw l (zB4 _ hl)
  have h3:=lineR_len i a b p
  have h4:=hw b (by simp)
  rw[rowsR]
  simp only[zB6]
  split
  ·omega
  ·rw[zB7]; omega
theorem opsV_len {g h:List (List Ce)} {r c r2 c2:Int} (hl:h.length≤12) (hw:∀ l∈h,l.length≤60):(opsV g h r c r2 c2).1.length≤3000:=by
 unfold opsV
 split
 ·simp
 split
 ·simp
 split
 ·simp
 have h1:=rowsR_len (nowR g h r c) h 0 lk0 hw
 have h2:(shiftR g h).toList.length≤1:=by cases shiftR g h<;>simp
 have h3:(curR r2 c2).length≤2:=by unfold curR; split<;>simp
 simp only[opsR,zB7]
 omega
theorem law3_c (H:AHeap) (u1 u2:Value) (g h:List (List Ce)) (r c r2 c2:Int) (h1:GridS H u1 g) (h2:GridS H u2 h) (sc1:GridSc H u1) (sc2:GridSc H u2) (hok:H.base≤H.next) (hs1:scb H.next u1=true) (hs2:scb H.next u2=true) :
  CallA Tryd.prog 3 [.agg ⟨[u1,.int .i64 r,.int .i64 c]⟩,.agg ⟨[u2,.int .i64 r2,.int .i64 c2]⟩] H (True1 H):=by
 have hs10:=hs1
 have hs20:=hs2
 obtain⟨x,hx⟩:∃ x,H.next=x:=⟨_,rfl⟩
 have hxb:H.base≤x:=hx▸hok
 obtain⟨a1,b1,e1⟩:=h1.at_.sl
 obtain⟨a2,b2,e2⟩:=h2.at_.sl
 rw[hx]at hs1 hs2
 have hs1':=hs1
 have hs2':=hs2
 rw[e1]at hs1'
 rw[e2]at hs2'
 refine callE_fn mixed Tryd.func3 rfl Tryd.ntmps3 (zA7 rfl) ?_
 rw[e1,e2]
 simp (maxDischargeDepth:=6) only[hx,hxb,hs1',hs2',xD,ruW,putL,Nat.reduceLeDiff,xF,ruU,entryE,Nat.reduceLT,Nat.reduceAdd,Nat.reduceMul,Nat.reduceEqDiff]
 rw[←e1,←e2]
 generalize hX:ext H _=Y
 have mY:Mod [] H Y:=hX▸Mod.ext hok
 have nY:Y.next=x+2:=by rw[←hX,ext_next,hx]; rfl
 have bY0:bk Y (x+0)=some ⟨24,false,[u1,.int .i64 r,.int .i64 c]⟩:=by rw[←hX,bk_at hx (by simp)]; rfl
 have bY1:bk Y (x+1)=some ⟨24,false,[u2,.int .i64 r2,.int .i64 c2]⟩:=by rw[←hX,bk_at hx (by simp)]; rfl
 clear hX
 have okY:=mY.ok hok
 obtain⟨y,hy⟩:∃ y,Y.next=y:=⟨_,rfl⟩
 have hyb:Y.base≤y:=hy▸okY
 have l0:x+0<y:=by omega
 have l1:x+1<y:=by omega
 have g1Y:=h1.at_.mod0 mY
 have g2Y:=h2.at_.mod0 mY
 rw[show Y=ext Y [] from rfl]
 refine (large_c (ext Y []) u1 g r c g1Y).to ?_
 cases hlg:largeR g with
 |true =>
  simp (maxDischargeDepth:=6) only[hy,l1,bY1,joinR_ret,xD,ruW,putL,Nat.reduceLeDiff,xF,ruU,entryE,Nat.reduceLT,Nat.reduceAdd,Nat.reduceMul,Nat.reduceEqDiff]
  refine (awake_c (ext Y [])).to ?_
  simp (maxDischargeDepth:=6) only[joinR_ret,Tryd.results3,xD,ruW,putL,Nat.reduceLeDiff,xF,ruU,entryE,Nat.reduceLT,Nat.reduceAdd,Nat.reduceMul,Nat.reduceEqDiff]
  exact⟨rfl,mY⟩
 |false =>
 simp (maxDischargeDepth:=6) only[hy,l1,bY1,xD,ruW,putL,Nat.reduceLeDiff,xF,ruU,entryE,Nat.reduceLT,Nat.reduceAdd,Nat.reduceMul,Nat.reduceEqDiff]
 refine (large_c (ext Y []) u2 h r2 c2 g2Y).to ?_
 cases hlh:largeR h with
 |true =>
  simp (maxDischargeDepth:=6) only[xD,ruW,putL,Nat.reduceLeDiff,xF,ruU,entryE,Nat.reduceLT,Nat.reduceAdd,Nat.reduceMul,Nat.reduceEqDiff]
  refine (awake_c (ext Y [])).to ?_
  simp (maxDischargeDepth:=6) only[joinR_ret,Tryd.results3,xD,ruW,putL,Nat.reduceLeDiff,xF,ruU,entryE,Nat.reduceLT,Nat.reduceAdd,Nat.reduceMul,Nat.reduceEqDiff]
  exact⟨rfl,mY⟩
 |false =>
 obtain⟨hg12,hgw⟩:=largeR_false hlg
 obtain⟨hh12,hhw⟩:=largeR_false hlh
 simp (maxDischargeDepth:=6) only[xD,ruW,putL,Nat.reduceLeDiff,xF,ruU,entryE,Nat.reduceLT,Nat.reduceAdd,Nat.reduceMul,Nat.reduceEqDiff]
 obtain⟨F1,hF1,gR1,scR1⟩:=g1Y.footR (sc1.mod0 hs10 mY)
 have hr1:=restrict_next Y F1
 obtain⟨_,gg1,hcc1,v1,rv1,rfl,gr1,mg1⟩:=copyScreen_c (Y.restrict F1) u1 g r c gR1 (by rw[hr1.1,hr1.2.1]; exact zA5 _) (by rw[hr1.1,hy]; exact scb_mono (by omega) _ hs1) scR1 (fun l hl=>by have:=hgw l hl; omega) (by omega)
 rw[hr1.1]at gr1
 refine w_drawB [(3,1),(6,1),(7,1),(6,3),(7,3),(6,4),(6,5),(7,4),(7,5),(7,6)] [] (by kernel_rfl) (by kernel_rfl) rfl fun ops anc hA hG=>?_
 simp only[all2_cons]at hA
 simp (maxDischargeDepth:=6) only[hy,l0,bY0,hA,xD,ruD,ruW,putL,Nat.reduceLeDiff,xF,ruU,entryE,Nat.reduceLT,Nat.reduceAdd,Nat.reduceMul,Nat.reduceEqDiff]
 refine genV_mod (H:=ext Y []) (W:=[]) F1 okY (by simp only[ruU,entryE,Nat.reduceLT,Nat.reduceAdd,Nat.reduceMul,Nat.reduceEqDiff]) (by kernel_rfl) (fun n hn=>(hF1 n hn).1) (fun n hn=>(hF1 n hn).2) (fun _ h=>by simp at h) (v:=.agg ⟨[v1,.int .i64 r,.int .i64 c]⟩) (g:=gg1) (by simp only[ruU,entryE,Nat.reduceLT,Nat.reduceAdd,Nat.reduceMul,Nat.reduceEqDiff]; exact hcc1) mg1 (by simp only[all2_cons,all2_nil,hA,true_or,and_true]; simp) ?_
 intro Z D mZ hFZ hNZ hnZ hDZ
 have hD0:D=[]:=List.eq_nil_iff_forall_not_mem.2 (fun q hq=>by simpa using hDZ q hq)
 subst hD0
 replace mZ:Mod [] Y Z:=mZ
 replace hNZ:∀ m,Y.next≤m→m<gg1.next→Z.get m=gg1.get m:=hNZ
 have hnZ':Z.next=gg1.next:=hnZ
 have grZ:Grow Y.next Z v1 rv1 g:=gr1.of (Y:=Z) (by omega) (fun n hn hm=>hNZ n (by
  rcases zB1.1 hm with hm|hm
  ·exact (gr1.apart n hm).1
  ·exact (gr1.ids n hm).1) hn)
 have okZ:=mZ.ok okY
 have mHZ:=mY.trans mZ
 obtain⟨z,hz⟩:∃ n,Z.next=n:=⟨_,rfl⟩
 have hyz:y≤z:=by have:=mZ.next; omega
 have kz1:=(mZ.bk (n:=x+1) (by omega) (by simp)).trans bY1
 have lz1:x+1<z:=by omega
 obtain⟨F2,hF2,gR2,scR2⟩:=(h2.at_.mod0 mHZ).footR (sc2.mod0 hs20 mHZ)
 have hr2:=restrict_next Z F2
 obtain⟨_,gg2,hcc2,v2,rv2,rfl,gr2,mg2⟩:=copyScreen_c (Z.restrict F2) u2 h r2 c2 gR2 (by rw[hr2.1,hr2.2.1]; exact zA5 _) (by rw[hr2.1,hz]; exact scb_mono (by omega) _ hs2) scR2 (fun l hl=>by have:=hhw l hl; omega) (by omega)
 rw[hr2.1]at gr2
 rw[show Z=ext Z [] from rfl]
 simp (maxDischargeDepth:=6) only[hz,hnZ',lz1,kz1,hA,xD,ruD,ruW,putL,Nat.reduceLeDiff,xF,ruU,entryE,Nat.reduceLT,Nat.reduceAdd,Nat.reduceMul,Nat.reduceEqDiff]
 have hi2:∀ n∈idsV u2,n<x:=fun n hn=>by
  rw[e2]at hn
  rcases a2 with _|⟨q,o,s⟩
  ·simp[idsV]at hn
  ·simp only[idsV,zA4]at hn
   subst hn
   exact blt_lt hs2'
 refine⟨.inr fun _=>⟨.inl (by omega),fun n hn=>.inl (by rw[zC5]at hn; have:=hi2 n hn; omega)⟩,?_⟩
 refine genV_mod (H:=ext Z []) (W:=[]) F2 okZ (by simp only[ruU,entryE,Nat.reduceLT,Nat.reduceAdd,Nat.reduceMul,Nat.reduceEqDiff]) (by kernel_rfl) (fun n hn=>(hF2 n hn).1) (fun n hn=>(hF2 n hn).2) (fun _ h=>by simp at h) (v:=.agg ⟨[v2,.int .i64 r2,.int .i64 c2]⟩) (g:=gg2) (by simp only[ruU,entryE,Nat.reduceLT,Nat.reduceAdd,Nat.reduceMul,Nat.reduceEqDiff]; exact hcc2) mg2 (by simp only[all2_cons,all2_nil,hA,true_or,and_true]; simp) ?_
 intro Q D mQ hFQ hNQ hnQ hDQ
 have hD0:D=[]:=List.eq_nil_iff_forall_not_mem.2 (fun q hq=>by simpa using hDQ q hq)
 subst hD0
 replace mQ:Mod [] Z Q:=mQ
 replace hNQ:∀ m,Z.next≤m→m<gg2.next→Q.get m=gg2.get m:=hNQ
 have hnQ':Q.next=gg2.next:=hnQ
 have gr2Q:Grow Z.next Q v2 rv2 h:=gr2.of (Y:=Q) (by omega) (fun n hn hm=>hNQ n (by
  rcases zB1.1 hm with hm|hm
  ·exact (gr2.apart n hm).1
  ·exact (gr2.ids n hm).1) hn)
 have okQ:=mQ.ok okZ
 have mHQ:=mHZ.trans mQ
 have gr1Q:=grZ.mv mQ
 obtain⟨q,hq⟩:∃ n,Q.next=n:=⟨_,rfl⟩
 have hqb:Q.base≤q:=hq▸okQ
 have hzq:z≤q:=by have:=mQ.next; omega
 obtain⟨av1,ev1⟩:=gr1Q.at_.len
 obtain⟨av2,ev2⟩:=gr2Q.at_.len
 have hsv1:scb q v1=true:=hq▸gr1Q.at_.sc
 have hsv2:scb q v2=true:=hq▸gr2Q.at_.sc
 rw[ev1]at hsv1
 rw[ev2]at hsv2
 rw[show Q=ext Q [] from rfl,ev1,ev2]
 simp (maxDischargeDepth:=6) only[hq,hqb,hnQ',hsv1,hsv2,hA,xD,ruD,ruW,putL,Nat.reduceLeDiff,xF,ruU,entryE,Nat.reduceLT,Nat.reduceAdd,Nat.reduceMul,Nat.reduceEqDiff]
 refine⟨⟨.inr fun _=>⟨.inr (by omega),by simp[idsV]⟩,.inr fun _=>⟨.inr (by omega),by simp[idsV]⟩⟩,⟨.inr (by simp[idsV]),.inr fun _=>⟨.inr (by omega),by simp[idsV]⟩,.inr fun _=>⟨.inr (by omega),by simp[idsV]⟩⟩,⟨.inr (by omega),.inr (by omega)⟩,⟨.inr (by omega),.inr (by omega)⟩,?_⟩
 rw[←ev1,←ev2]
 generalize hV:ext Q _=V
 have mV:Mod [] Q V:=hV▸Mod.ext okQ
 have nV:V.next=q+2:=by rw[←hV,ext_next,hq]; rfl
 have bV5:bk V (q+0)=some ⟨24,false,[v1,.int .i64 r,.int .i64 c]⟩:=by rw[←hV,bk_at hq (by simp)]; rfl
 have bV6:bk V (q+1)=some ⟨24,false,[v2,.int .i64 r2,.int .i64 c2]⟩:=by rw[←hV,bk_at hq (by simp)]; rfl
 clear hV hA hG
 have okV:=mV.ok okQ
 have mHV:=mHQ.trans mV
 have gr1V:=gr1Q.mv mV
 have gr2V:=gr2Q.mv mV
 have hVn:=mHV.next
 have mYV:=(mZ.trans mQ).trans mV
 have bV0:=(mYV.bk (n:=x+0) (by omega) (by simp)).trans bY0
 have bV1:=(mYV.bk (n:=x+1) (by omega) (by simp)).trans bY1
 obtain⟨w,hw⟩:∃ n,V.next=n:=⟨_,rfl⟩
 rw[show V=ext V [] from rfl]
 refine (ops13_c (ext V []) v1 v2 g h r c r2 c2 gr1V.gridS gr2V.gridS okV hg12 hgw hh12 hhw (by show scb V.next v1=true; exact gr1V.at_.sc) (by show scb V.next v2=true; exact gr2V.at_.sc)).mono ?_
 rintro _ S ⟨mS,p1,rfl,op1,hp1⟩
 replace mS:Mod [] V S:=mS
 replace hp1:∀ n∈idsV p1,V.next≤n:=hp1
 obtain⟨⟨l,e⟩,hle⟩:∃ k,opsV g h r c r2 c2=k:=⟨_,rfl⟩
 rw[hle]at op1
 simp only at op1
 have okS:=mS.ok okV
 have mHS:=mHV.trans mS
 have hSn:=mS.next
 have bS0:=(mS.bk (n:=x+0) (by omega) (by simp)).trans bV0
 have bS1:=(mS.bk (n:=x+1) (by omega) (by simp)).trans bV1
 obtain⟨s,hs⟩:∃ n,S.next=n:=⟨_,rfl⟩
 have ls0:x+0<s:=by omega
 have ls1:x+1<s:=by omega
 rw[show S=ext S [] from rfl]
 simp (maxDischargeDepth:=6) only[hle,hs,bS0,bS1,ls0,ls1,xD,ruW,putL,Nat.reduceLeDiff,xF,ruU,entryE,Nat.reduceLT,Nat.reduceAdd,Nat.reduceMul,Nat.reduceEqDiff]
 refine (ops14_c (ext S []) u1 u2 g h r c r2 c2 (h1.mod0 mHS) (h2.mod0 mHS) (sc1.mod0 hs10 mHS) okS hg12 hgw hh12 hhw (by show scb S.next u1=true; rw[hs]; exact scb_mono (by omega) _ hs1) (by show scb S.next u2=true; rw[hs]; exact scb_mono (by omega) _ hs2)).mono ?_
 rintro _ R ⟨mR,p2,rfl,op2,hp2⟩
 replace mR:Mod [] S R:=mR
 replace hp2:∀ n∈idsV p2,S.next≤n:=hp2
 rw[hle]at op2 ⊢
 simp only at op2 ⊢
 have okR:=mR.ok okS
 have mHR:=mHS.trans mR
 have mVR:=mS.trans mR
 have hRn:=mVR.next
 have op1R:=op1.mod0 mR
 have bR0:=(mVR.bk (n:=x+0) (by omega) (by simp)).trans bV0
 have bR1:=(mVR.bk (n:=x+1) (by omega) (by simp)).trans bV1
 have bR5:=(mVR.bk (n:=q+0) (by omega) (by simp)).trans bV5
 have bR6:=(mVR.bk (n:=q+1) (by omega) (by simp)).trans bV6
 rw[show R=ext R [] from rfl]
 simp (maxDischargeDepth:=6) only[xD,ruW,putL,Nat.reduceLeDiff,xF,ruU,entryE,Nat.reduceLT,Nat.reduceAdd,Nat.reduceMul,Nat.reduceEqDiff]
 refine w_env fun E hE=>?_
 have g2:E 2=.pointer (some ⟨x+0,0,none⟩):=by rw[hE]; simp only[ruU,entryE,Nat.reduceLT,Nat.reduceAdd,Nat.reduceMul,Nat.reduceEqDiff]
 have g3:E 3=.pointer (some ⟨x+1,0,none⟩):=by rw[hE]; simp only[ruU,entryE,Nat.reduceLT,Nat.reduceAdd,Nat.reduceMul,Nat.reduceEqDiff]
 have g5:E 5=.pointer (some ⟨q+0,0,none⟩):=by rw[hE]; simp only[ruU,entryE,Nat.reduceLT,Nat.reduceAdd,Nat.reduceMul,Nat.reduceEqDiff]
 have g6:E 6=.pointer (some ⟨q+1,0,none⟩):=by rw[hE]; simp only[ruU,entryE,Nat.reduceLT,Nat.reduceAdd,Nat.reduceMul,Nat.reduceEqDiff]
 have g7:E 7=p1:=by rw[hE]; simp only[ruU,entryE,Nat.reduceLT,Nat.reduceAdd,Nat.reduceMul,Nat.reduceEqDiff]
 have g8:E 8=.int .i64 e:=by rw[hE]; simp only[ruU,entryE,Nat.reduceLT,Nat.reduceAdd,Nat.reduceMul,Nat.reduceEqDiff]
 have g9:E 9=p2:=by rw[hE]; simp only[ruU,entryE,Nat.reduceLT,Nat.reduceAdd,Nat.reduceMul,Nat.reduceEqDiff]
 have g10:E 10=.int .i64 e:=by rw[hE]; simp only[ruU,entryE,Nat.reduceLT,Nat.reduceAdd,Nat.reduceMul,Nat.reduceEqDiff]
 clear hE
 have hll:l.length<1000000:=by
  have:=opsV_len (g:=g) (r:=r) (c:=c) (r2:=r2) (c2:=c2) hh12 hhw
  rw[hle]at this
  simp only at this
  omega
 -- what `same` does
 obtain⟨FF,hFF⟩:∃ FF,FF=idsV p1++idsV p2:=⟨_,rfl⟩
 have hFFn:∀ n∈FF,R.get n≠none∧n<R.next:=fun n hn=>by
  rw[hFF]at hn
  rcases zB1.1 hn with hn|hn
  ·exact op1R.ne n hn
  ·exact op2.ne n hn
 have hrn:=restrict_next R FF
 have hrg:∀ n∈FF,(R.restrict FF).get n=R.get n:=fun n hn=>by rw[restrict_get,if_pos hn]
 have own1:=(op1R.of (G:=R.restrict FF) (by rw[hrn.1]; exact zA5 _) fun n hn=>hrg n (hFF▸zC7 _ hn)).own
 have at2:=(op2.of (G:=R.restrict FF) (by rw[hrn.1]; exact zA5 _) fun n hn=>hrg n (hFF▸zD0 _ hn)).at_
 obtain⟨_,gg,hcs,rfl,mg⟩:=same_c (R.restrict FF) p1 p2 (idsV p1) l own1 at2 (by rw[hrn.1,hrn.2.1]; exact zA5 _) hll
 refine w_drawB [(10,2),(12,2),(18,2),(23,2),(26,2),(9,2),(11,2),(16,2),(17,2),(21,2),(22,2)] [(3,37),(8,42),(15,49),(20,54),(25,59)] (by kernel_rfl) (by kernel_rfl) (by kernel_rfl) fun ops anc hA hG=>?_
 simp only[all2_cons]at hA hG
 have hA':=hA
 simp only[zE2]at hA'
 simp (maxDischargeDepth:=6) only[g2,g3,g5,g6,g7,g8,g9,g10,hA,hG,xD,ruD,ruW,putL,Nat.reduceLeDiff,xF,ruU,entryE,Nat.reduceLT,Nat.reduceAdd,Nat.reduceMul,Nat.reduceEqDiff]
 refine genV_mod (H:=ext R []) (W:=idsV p1) FF okR (by simp only[ruU,entryE,Nat.reduceLT,Nat.reduceAdd,Nat.reduceMul,Nat.reduceEqDiff]) (by kernel_rfl) (fun n hn=>(hFFn n hn).1) (fun n hn=>(hFFn n hn).2) (fun n hn=>hFF▸zC7 _ hn) (v:=.bool true) (g:=gg) (by simp only[zC8,zF5,g7,g9,ruU,entryE,Nat.reduceLT,Nat.reduceAdd,Nat.reduceMul,Nat.reduceEqDiff]; exact hcs) mg (by simp only[all2_cons,all2_nil,hA,true_or,and_true]) ?_
 intro T D mT hFT hNT hnT hDT
 replace mT:Mod (idsV p1) R T:=mT
 have hTn:=mT.next
 have hn1:∀ n,n<q+2→n∉idsV p1:=fun n hn hm=>by have:=hp1 n hm; omega
 have okT:=mT.ok okR
 have mHT:Mod [] H T:=mHR.step mT hok fun n hn=>.inr (by have:=hp1 n hn; omega)
 have mVT:Mod [] V T:=mVR.step mT okV fun n hn=>.inr (hp1 n hn)
 have bT0:=(mT.bk (n:=x+0) (by omega) (hn1 _ (by omega))).trans bR0
 have bT1:=(mT.bk (n:=x+1) (by omega) (hn1 _ (by omega))).trans bR1
 have bT5:=(mT.bk (n:=q+0) (by omega) (hn1 _ (by omega))).trans bR5
 have bT6:=(mT.bk (n:=q+1) (by omega) (hn1 _ (by omega))).trans bR6
 obtain⟨tt,htt⟩:∃ n,T.next=n:=⟨_,rfl⟩
 have lt0:x+0<tt:=by omega
 have lt1:x+1<tt:=by omega
 have lt5:q+0<tt:=by omega
 have lt6:q+1<tt:=by omega
 have hee:decide (e=e)=true:=decide_eq_true rfl
 have hkk:decide (chkR g r c=chkR g r c)=true:=decide_eq_true rfl
 have gT1:=gr1V.mv mVT
 have gT2:=gr2V.mv mVT
 obtain⟨K1,hK1,fK1⟩:=gT1.gridS.at_.foot0
 obtain⟨K2,hK2,fK2⟩:=gT2.gridS.at_.foot0
 obtain⟨J1,hJ1,fJ1⟩:=(h1.at_.mod0 mHT).foot0
 obtain⟨J2,hJ2,fJ2⟩:=(h2.at_.mod0 mHT).foot0
 rw[show T=ext T [] from rfl]
 simp (maxDischargeDepth:=6) only[g2,g3,g5,g6,g7,g8,g9,g10,htt,bT0,bT1,bT5,bT6,lt0,lt1,lt5,lt6,hee,decide_true,hA,hG,xD,ruD,ruW,putL,Nat.reduceLeDiff,xF,ruU,entryE,Nat.reduceLT,Nat.reduceAdd,Nat.reduceMul,Nat.reduceEqDiff]
 refine genV_quiet (v:=.int .i64 (chkR g r c)) K1 (by simp only[ruU,entryE,Nat.reduceLT,Nat.reduceAdd,Nat.reduceMul,Nat.reduceEqDiff]) (by kernel_rfl) (by decide) (fun m hm=>(hK1 m hm).1) (fun G hn hg=>?_) (by simp[Meets,hA']) ?_
 ·simp only[ruU,entryE,Nat.reduceLT,Nat.reduceAdd,Nat.reduceMul,Nat.reduceEqDiff]
  exact check39_c G v1 g r c (fK1 G (zC6 hn.symm) hg) (fun l hl=>by have:=hgw l hl; omega) (by omega)
 simp (maxDischargeDepth:=6) only[g2,g3,g5,g6,g7,g8,g9,g10,htt,bT0,bT1,bT5,bT6,lt0,lt1,lt5,lt6,hee,decide_true,hA,hG,xD,ruD,ruW,putL,Nat.reduceLeDiff,xF,ruU,entryE,Nat.reduceLT,Nat.reduceAdd,Nat.reduceMul,Nat.reduceEqDiff]
 refine genV_quiet (v:=.int .i64 (chkR g r c)) J1 (by simp only[ruU,entryE,Nat.reduceLT,Nat.reduceAdd,Nat.reduceMul,Nat.reduceEqDiff]) (by kernel_rfl) (by decide) (fun m hm=>(hJ1 m hm).1) (fun G hn hg=>?_) (by simp[Meets,hA']) ?_
 ·simp only[ruU,entryE,Nat.reduceLT,Nat.reduceAdd,Nat.reduceMul,Nat.reduceEqDiff]
  exact refCheck39_c G u1 g r c (fJ1 G (zC6 hn.symm) hg) (fun l hl=>by have:=hgw l hl; omega) (by omega)
 simp (maxDischargeDepth:=6) only[g2,g3,g5,g6,g7,g8,g9,g10,htt,bT0,bT1,bT5,bT6,lt0,lt1,lt5,lt6,hee,hkk,decide_true,hA,hG,xD,ruD,ruW,putL,Nat.reduceLeDiff,xF,ruU,entryE,Nat.reduceLT,Nat.reduceAdd,Nat.reduceMul,Nat.reduceEqDiff]
 refine genV_quiet (v:=.bool true) (K1++J1) (by simp only[ruU,entryE,Nat.reduceLT,Nat.reduceAdd,Nat.reduceMul,Nat.reduceEqDiff]) (by kernel_rfl) (by decide) (fun m hm=>(zB1.1 hm).elim (fun h=>(hK1 m h).1) fun h=>(hJ1 m h).1) (fun G hn hg=>?_) (by simp[Meets,hA']) ?_
 ·simp only[ruU,entryE,Nat.reduceLT,Nat.reduceAdd,Nat.reduceMul,Nat.reduceEqDiff]
  have hss:=sameScreens_c G v1 u1 g g r c r c (fK1 G (zC6 hn.symm) fun n h=>hg n (zC7 _ h)) (fJ1 G (zC6 hn.symm) fun n h=>hg n (zD0 _ h)) (by omega) (fun l hl=>by have:=hgw l hl; omega)
  rw[decide_eq_true ⟨rfl,rfl,rfl⟩]at hss
  exact hss
 simp (maxDischargeDepth:=6) only[g2,g3,g5,g6,g7,g8,g9,g10,htt,bT0,bT1,bT5,bT6,lt0,lt1,lt5,lt6,hee,hkk,decide_true,hA,hG,xD,ruD,ruW,putL,Nat.reduceLeDiff,xF,ruU,entryE,Nat.reduceLT,Nat.reduceAdd,Nat.reduceMul,Nat.reduceEqDiff]
 refine genV_quiet (v:=.bool true) (K2++J2) (by simp only[ruU,entryE,Nat.reduceLT,Nat.reduceAdd,Nat.reduceMul,Nat.reduceEqDiff]) (by kernel_rfl) (by decide) (fun m hm=>(zB1.1 hm).elim (fun h=>(hK2 m h).1) fun h=>(hJ2 m h).1) (fun G hn hg=>?_) (by simp[Meets,hA']) ?_
 ·simp only[ruU,entryE,Nat.reduceLT,Nat.reduceAdd,Nat.reduceMul,Nat.reduceEqDiff]
  have hss:=sameScreens_c G v2 u2 h h r2 c2 r2 c2 (fK2 G (zC6 hn.symm) fun n h=>hg n (zC7 _ h)) (fJ2 G (zC6 hn.symm) fun n h=>hg n (zD0 _ h)) (by omega) (fun l hl=>by have:=hhw l hl; omega)
  rw[decide_eq_true ⟨rfl,rfl,rfl⟩]at hss
  exact hss
 simp (maxDischargeDepth:=6) only[g2,g3,g5,g6,g7,g8,g9,g10,htt,bT0,bT1,bT5,bT6,lt0,lt1,lt5,lt6,hee,hkk,decide_true,hA,hG,xD,ruD,ruW,putL,Nat.reduceLeDiff,xF,ruU,entryE,Nat.reduceLT,Nat.reduceAdd,Nat.reduceMul,Nat.reduceEqDiff]
 refine genV_quiet (v:=.bool true) [] (by simp only[ruU,entryE,Nat.reduceLT,Nat.reduceAdd,Nat.reduceMul,Nat.reduceEqDiff]) (by kernel_rfl) (by decide) (fun m hm=>by simp at hm) (fun G hn hg=>?_) (by simp[Meets,hA']) ?_
 ·simp only[ruU,entryE,Nat.reduceLT,Nat.reduceAdd,Nat.reduceMul,Nat.reduceEqDiff]
  exact awake_c G
 simp (maxDischargeDepth:=6) only[g2,g3,g5,g6,g7,g8,g9,g10,htt,bT0,bT1,bT5,bT6,lt0,lt1,lt5,lt6,hee,hkk,decide_true,hA,hG,Tryd.results3,xD,ruD,ruW,putL,Nat.reduceLeDiff,xF,ruU,entryE,Nat.reduceLT,Nat.reduceAdd,Nat.reduceMul,Nat.reduceEqDiff]
 exact⟨rfl,mHT⟩
end Go.Proofs.YtaojjfebkldmnaaDoor
