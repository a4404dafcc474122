/- Parts of the proof, one behind the other. -/
import Derived.Test.YtnigelgcjfhghaaGreatDoorM4
set_option linter.all false
set_option maxRecDepth 10000
set_option maxHeartbeats 16000000
open And renaming intro → zA0
open Option renaming bind_eq_bind → zA1, bind_eq_some_iff → zA2, bind_some → zA3, map_some → zA5, map_eq_some_iff → zA6
open Bool renaming and_eq_true → zA4, false_eq_true → zB2
open List renaming mem_singleton → zA7, length_cons → zA9, getElem?_eq_getElem → zB0, mem_cons → zB1, length_append → zB3, mem_cons_of_mem → zB5, all_eq_true → zB6, mem_cons_self → zB7, map_cons → zB9, length_singleton → zC0, mem_append → zC2, getD_eq_getElem?_getD → zC3, length_nil → zC4, nil_append → zC5, flatMap_cons → zD4, append_nil → zD5, getElem?_cons_succ → zD6, getElem?_eq_none → zD7, take_of_length_le → zD8
open Nat renaming le_refl → zA8, zero_le → zB4, le_of_ble_eq_true → zB8, eq_of_beq_eq_true → zC6, lt_succ_self → zC7, zero_add → zC8, lt_or_ge → zC9, add_zero → zD0, le_trans → zD1, lt_of_lt_of_le → zD2, mul_one → zD3
open Int renaming toNat_natCast → zC1

namespace Go.Proofs.YtnigelgcjfhghaaGreatDoor
open Go.Ax
set_option maxRecDepth 100000
theorem opnd_pq {x:Int} {p q:Bool} (hp:decide (x<0)=p) (hq:decide ((65535:Int)<x)=q):opndR x=(!p&&!q):=by
 rw[opndR,←hp,←hq]
 by_cases h1:x<0<;>by_cases h2:(65535:Int)<x
 all_goals first|rw[decide_eq_true h1]|rw[decide_eq_false h1]
 all_goals first|rw[decide_eq_true h2]|rw[decide_eq_false h2]
 ·rw[decide_eq_false (show ¬(0:Int)≤x by omega)]; rfl
 ·rw[decide_eq_false (show ¬(0:Int)≤x by omega)]; rfl
 ·rw[decide_eq_false (show ¬x≤65535 by omega),Bool.and_false]; rfl
 ·rw[decide_eq_true (show (0:Int)≤x by omega),decide_eq_true (show x≤65535 by omega)]; rfl
theorem opnd_of {x:Int} (h:opndR x=true):0≤x∧x≤65535:=by
 simp only[opndR,zA4,decide_eq_true_eq]at h
 exact h
theorem wrong_bad (H:AHeap) (pos op:Int) (a:Option Addr) (n c:Nat) (h:op<0∨28≤op):Pure 59 [.agg ⟨[.int .i64 pos,.int .i64 op,.slice a n c]⟩] H (.int .i64 5):=by
 obtain⟨b,hb⟩:∃ b,H.next=b:=⟨_,rfl⟩
 refine callS_fn mixed Tryz.func59 rfl Tryz.ntmps59 (zB8 rfl) fun wf hsc=>?_
 have hbase:H.base≤b:=hb▸wf.base
 rw[scbL_iff]at hsc
 have hsc0:=hsc _ (zA7.2 rfl)
 rw[hb]at hsc0
 replace hsc0:scb b (.slice a n c)=true:=sc_agg3 hsc0
 by_cases h0:op<0
 ·have hd:decide (op<0)=true:=decide_eq_true h0
  simp (maxDischargeDepth:=6) only[hb,hbase,hsc0,ruW,putL,Nat.reduceLeDiff,xF,ruU,entryE,Nat.reduceLT,Nat.reduceAdd,Nat.reduceMul,Nat.reduceEqDiff]
  refine w_drawB [] [(3,8),(8,13)] (by kernel_rfl) (by kernel_rfl) (by kernel_rfl) fun ops anc hA hG=>?_
  simp only[all2_cons]at hG
  simp (maxDischargeDepth:=6) only[hb,hbase,hd,hsc0,hG,Tryz.results59,ruD,ruW,putL,Nat.reduceLeDiff,xF,ruU,entryE,Nat.reduceLT,Nat.reduceAdd,Nat.reduceMul,Nat.reduceEqDiff]
  exact Fin.pureE rfl rfl
 ·have hd:decide (op<0)=false:=decide_eq_false h0
  have hd2:decide (28≤op)=true:=decide_eq_true (by omega)
  simp (maxDischargeDepth:=6) only[hb,hbase,hsc0,ruW,putL,Nat.reduceLeDiff,xF,ruU,entryE,Nat.reduceLT,Nat.reduceAdd,Nat.reduceMul,Nat.reduceEqDiff]
  refine w_drawB [] [(3,8),(8,13)] (by kernel_rfl) (by kernel_rfl) (by kernel_rfl) fun ops anc hA hG=>?_
  simp only[all2_cons]at hG
  simp (maxDischargeDepth:=6) only[hb,hbase,hd,hd2,hsc0,hG,Tryz.results59,ruD,ruW,putL,Nat.reduceLeDiff,xF,ruU,entryE,Nat.reduceLT,Nat.reduceAdd,Nat.reduceMul,Nat.reduceEqDiff]
  exact Fin.pureE rfl rfl
theorem wrong_ok (H:AHeap) (pos:Int) (op:Nat) (av:Value) (args:List Int) (hop:op<28) (ha:RdAt H 1 av (iv args) args.length) (hlen:args.length≤1000000):Pure 59 [.agg ⟨[.int .i64 pos,.int .i64 (op:Int),av]⟩] H (.int .i64 (encA op args)):=by
 obtain⟨b,hb⟩:∃ b,H.next=b:=⟨_,rfl⟩
 obtain⟨a0,c0,e0⟩:=ha.sl
 refine callS_fn mixed Tryz.func59 rfl Tryz.ntmps59 (zB8 rfl) fun wf hsc=>?_
 have hbase:H.base≤b:=hb▸wf.base
 rw[scbL_iff]at hsc
 have hsc0:=hsc _ (zA7.2 rfl)
 rw[hb]at hsc0
 have hd:decide ((op:Int)<0)=false:=decide_eq_false (by omega)
 have hd2:decide (28≤(op:Int))=false:=decide_eq_false (by omega)
 rw[e0]at hsc0
 replace hsc0:scb b (.slice a0 args.length c0)=true:=sc_agg3 hsc0
 have e1:¬((op:Int)<0∨28≤(op:Int)):=by omega
 rw[e0]
 simp (maxDischargeDepth:=6) only[hb,hbase,hsc0,ruW,putL,Nat.reduceLeDiff,xF,ruU,entryE,Nat.reduceLT,Nat.reduceAdd,Nat.reduceMul,Nat.reduceEqDiff]
 generalize hX:ext H _=X
 have mX:Mod [] H X:=hX▸Mod.ext wf.base
 have nX:X.next=b+1:=by rw[←hX,ext_next,hb]; rfl
 have kX:bk X (b+0)=some ⟨59,false,[.int .i64 pos,.int .i64 (op:Int),.slice a0 args.length c0]⟩:=by rw[←hX,bk_at hb (by simp)]; rfl
 clear hX
 have haX:=ha.mod0 mX
 have hbx:b+0<b+1:=by omega
 rw[show X=ext X [] from rfl]
 refine w_drawB [] [(3,8),(8,13)] (by kernel_rfl) (by kernel_rfl) (by kernel_rfl) fun ops anc hA hG=>?_
 simp only[all2_cons]at hG
 simp (maxDischargeDepth:=6) only[nX,kX,hbx,hd,hd2,hG,qk_old,ruD,ruW,putL,Nat.reduceLeDiff,xF,ruU,entryE,Nat.reduceLT,Nat.reduceAdd,Nat.reduceMul,Nat.reduceEqDiff]
 refine genV_quiet (v:=.int .i64 (fixI op)) [] (by simp only[ruU,entryE,Nat.reduceLT,Nat.reduceAdd,Nat.reduceMul,Nat.reduceEqDiff]) (by kernel_rfl) (by decide) (fun q hq=>by simp at hq) (fun G hG hg=>by simp only[ruU,entryE,Nat.reduceLT,Nat.reduceAdd,Nat.reduceMul,Nat.reduceEqDiff]; exact fixed50_c G op hop) (by simp[Meets]) ?_
 obtain⟨d1,hd1⟩:∃ d1,decide ((args.length:Int)<fixI op)=d1:=⟨_,rfl⟩
 cases d1 with
 |true =>
  have h1:=of_decide_eq_true hd1
  simp only[fixI]at h1
  simp (maxDischargeDepth:=6) only[nX,kX,hbx,hd1,hG,qk_old,Tryz.results59,ruD,ruW,putL,Nat.reduceLeDiff,xF,ruU,entryE,Nat.reduceLT,Nat.reduceAdd,Nat.reduceMul,Nat.reduceEqDiff]
  have:encA op args=5:=by rw[encA,if_neg e1,zC1,if_pos (by omega)]
  rw[this]
  exact Ax.Fin.mod rfl mX rfl
 |false =>
  have h1:=of_decide_eq_false hd1
  simp only[fixI]at h1
  have hla:(kindsR op []).length≤args.length:=by omega
  have enc3:((op:Int)=17∧opndR (args.getD 0 0)=false)∨((op:Int)=24∧opndR (args.getD 1 0)=false)→encA op args=3:=fun h=>by
   rw[encA,if_neg e1,zC1,if_neg (by omega),if_pos h]
  have hnx:¬(((op:Int)=17∧opndR (args.getD 0 0)=false)∨((op:Int)=24∧opndR (args.getD 1 0)=false))→0≤cntR op args∧cntR op args≤65535:=fun h=>by
   unfold cntR
   split
   ·rename_i h17
    cases hh:opndR (args.getD 0 0) with
    |true=>exact opnd_of hh
    |false=>exact absurd (.inl ⟨by omega,hh⟩) h
   ·split
    ·rename_i h24
     cases hh:opndR (args.getD 1 0) with
     |true=>exact opnd_of hh
     |false=>exact absurd (.inr ⟨by omega,hh⟩) h
    ·omega
  simp (maxDischargeDepth:=6) only[nX,kX,hbx,hd1,hG,qk_old,ruD,ruW,putL,Nat.reduceLeDiff,xF,ruU,entryE,Nat.reduceLT,Nat.reduceAdd,Nat.reduceMul,Nat.reduceEqDiff]
  have hsp:op=17∨op=24∨(op≠17∧op≠24):=by omega
  rcases hsp with h17|h24|⟨h17,h24⟩
  (have h0:0<args.length:=by
    subst h17
    have:(kindsR 17 []).length=1:=rfl
    omega
   obtain⟨n,off,s,c,e,o,M,e2,n1,r1,m1⟩:=haX.one h0
   rw[e0]at e2
   cases e2
   rw[iv_get,zB0 h0,zA5]at m1
   have hg:args.getD 0 0=args[0]:=by rw[zC3,zB0 h0]; rfl
   obtain⟨x,hxv⟩:∃ x,args[0]=x:=⟨_,rfl⟩
   rw[hxv]at m1 hg
   have i1:aIndexAddr Tryz.prog 35 (.slice (some ⟨n,off,s⟩) args.length c0) (.int .i64 0)=some (.pointer (some ⟨n,off+0,none⟩)):=ia_of (i:=0) u35 s3 h0
   have q3:decide ((op:Int)=17)=true:=decide_eq_true (by omega)
   have q4:decide ((op:Int)=24)=false:=decide_eq_false (by omega)
   have q5:decide ((0:Int)≤0)=true:=by decide
   obtain⟨p,hp⟩:∃ p,decide (x<0)=p:=⟨_,rfl⟩
   obtain⟨q,hq⟩:∃ q,decide ((65535:Int)<x)=q:=⟨_,rfl⟩
   have hpq:=opnd_pq hp hq
   rw[nX]at n1
   have hbad:opndR x=false→encA op args=3:=fun h=>enc3 (.inl ⟨by omega,by rw[hg]; exact h⟩)
   rcases Bool.eq_false_or_eq_true p with rfl|rfl
   ·simp (maxDischargeDepth:=6) only[nX,kX,hbx,q3,q4,q5,i1,n1,r1,m1,hp,qk_old,Tryz.results59,ruW,putL,Nat.reduceLeDiff,xF,ruU,entryE,Nat.reduceLT,Nat.reduceAdd,Nat.reduceMul,Nat.reduceEqDiff]
    rw[hbad hpq]
    exact Ax.Fin.mod rfl mX rfl
   rcases Bool.eq_false_or_eq_true q with rfl|rfl
   ·simp (maxDischargeDepth:=6) only[nX,kX,hbx,q3,q4,q5,i1,n1,r1,m1,hp,hq,qk_old,Tryz.results59,ruW,putL,Nat.reduceLeDiff,xF,ruU,entryE,Nat.reduceLT,Nat.reduceAdd,Nat.reduceMul,Nat.reduceEqDiff]
    rw[hbad hpq]
    exact Ax.Fin.mod rfl mX rfl
   have hok:¬(((op:Int)=17∧opndR (args.getD 0 0)=false)∨((op:Int)=24∧opndR (args.getD 1 0)=false)):=by
    rw[hg,hpq]
    rintro (⟨_,h⟩|⟨h,_⟩)
    ·cases h
    ·omega
   simp (maxDischargeDepth:=6) only[nX,kX,hbx,q3,q4,q5,i1,n1,r1,m1,hp,hq,qk_old,ruW,putL,Nat.reduceLeDiff,xF,ruU,entryE,Nat.reduceLT,Nat.reduceAdd,Nat.reduceMul,Nat.reduceEqDiff])
  rotate_left
  (have h0:1<args.length:=by
    subst h24
    have:(kindsR 24 []).length=2:=rfl
    omega
   obtain⟨n,off,s,c,e,o,M,e2,n1,r1,m1⟩:=haX.one h0
   rw[e0]at e2
   cases e2
   rw[iv_get,zB0 h0,zA5]at m1
   have hg:args.getD 1 0=args[1]:=by rw[zC3,zB0 h0]; rfl
   obtain⟨x,hxv⟩:∃ x,args[1]=x:=⟨_,rfl⟩
   rw[hxv]at m1 hg
   have i1:aIndexAddr Tryz.prog 35 (.slice (some ⟨n,off,s⟩) args.length c0) (.int .i64 1)=some (.pointer (some ⟨n,off+1,none⟩)):=ia_of (i:=1) u35 s3 h0
   have q3:decide ((op:Int)=17)=false:=decide_eq_false (by omega)
   have q4:decide ((op:Int)=24)=true:=decide_eq_true (by omega)
   have q5:decide ((0:Int)≤1)=true:=by decide
   obtain⟨p,hp⟩:∃ p,decide (x<0)=p:=⟨_,rfl⟩
   obtain⟨q,hq⟩:∃ q,decide ((65535:Int)<x)=q:=⟨_,rfl⟩
   have hpq:=opnd_pq hp hq
   rw[nX]at n1
   have hbad:opndR x=false→encA op args=3:=fun h=>enc3 (.inr ⟨by omega,by rw[hg]; exact h⟩)
   rcases Bool.eq_false_or_eq_true p with rfl|rfl
   ·simp (maxDischargeDepth:=6) only[nX,kX,hbx,q3,q4,q5,i1,n1,r1,m1,hp,qk_old,Tryz.results59,ruW,putL,Nat.reduceLeDiff,xF,ruU,entryE,Nat.reduceLT,Nat.reduceAdd,Nat.reduceMul,Nat.reduceEqDiff]
    rw[hbad hpq]
    exact Ax.Fin.mod rfl mX rfl
   rcases Bool.eq_false_or_eq_true q with rfl|rfl
   ·simp (maxDischargeDepth:=6) only[nX,kX,hbx,q3,q4,q5,i1,n1,r1,m1,hp,hq,qk_old,Tryz.results59,ruW,putL,Nat.reduceLeDiff,xF,ruU,entryE,Nat.reduceLT,Nat.reduceAdd,Nat.reduceMul,Nat.reduceEqDiff]
    rw[hbad hpq]
    exact Ax.Fin.mod rfl mX rfl
   have hok:¬(((op:Int)=17∧opndR (args.getD 0 0)=false)∨((op:Int)=24∧opndR (args.getD 1 0)=false)):=by
    rw[hg,hpq]
    rintro (⟨h,_⟩|⟨_,h⟩)
    ·omega
    ·cases h
   simp (maxDischargeDepth:=6) only[nX,kX,hbx,q3,q4,q5,i1,n1,r1,m1,hp,hq,qk_old,ruW,putL,Nat.reduceLeDiff,xF,ruU,entryE,Nat.reduceLT,Nat.reduceAdd,Nat.reduceMul,Nat.reduceEqDiff])
  rotate_left
  (have q3:decide ((op:Int)=17)=false:=decide_eq_false (by omega)
   have q4:decide ((op:Int)=24)=false:=decide_eq_false (by omega)
   have q5:decide ((0:Int)≤-1)=false:=by decide
   have hok:¬(((op:Int)=17∧opndR (args.getD 0 0)=false)∨((op:Int)=24∧opndR (args.getD 1 0)=false)):=by omega
   simp (maxDischargeDepth:=6) only[nX,kX,hbx,q3,q4,q5,qk_old,ruW,putL,Nat.reduceLeDiff,xF,ruU,entryE,Nat.reduceLT,Nat.reduceAdd,Nat.reduceMul,Nat.reduceEqDiff])
  all_goals
   have hcnt:=hnx hok
   refine w_env fun E hE=>?_
   have g1:E 1=.pointer (some ⟨b+0,0,none⟩):=by rw[hE]; simp only[ruU,entryE,Nat.reduceLT,Nat.reduceAdd,Nat.reduceMul,Nat.reduceEqDiff]
   clear hE
   have hFr:∀ k∈rdF av args.length,(ext X []).get k≠none:=fun k hk=>(haX.ne k hk).1
   have hcall:∀ G:AHeap,G.next=(ext X []).next→(∀ k∈rdF av args.length,G.get k=(ext X []).get k)→CallS Tryz.prog 51 [.int .i64 (op:Int),av] G (.ok (.int .i64 ((kindsR op args).length:Int))) G:=fun G hG hg =>
    many_c G op av args hop (haX.of (Nat.le_of_eq hG.symm) hg) hla hcnt
   rw[e0]at hcall hFr
   obtain⟨d6,hd6⟩:∃ d6,decide (¬(args.length:Int)=((kindsR op args).length:Int))=d6:=⟨_,rfl⟩
   refine w_drawB [] [] (by kernel_rfl) (by kernel_rfl) rfl fun ops anc hA hG=>?_
   simp (maxDischargeDepth:=6) only[g1,nX,kX,hbx,qk_old,ruD,ruW,putL,Nat.reduceLeDiff,xF,ruU,entryE,Nat.reduceLT,Nat.reduceAdd,Nat.reduceMul,Nat.reduceEqDiff]
   refine genV_quiet (v:=.int .i64 ((kindsR op args).length:Int)) (rdF (.slice _ args.length _) args.length) (by simp only[ruU,entryE,Nat.reduceLT,Nat.reduceAdd,Nat.reduceMul,Nat.reduceEqDiff]) (by kernel_rfl) (by decide) hFr (fun G hG hg=>by simp only[ruU,entryE,Nat.reduceLT,Nat.reduceAdd,Nat.reduceMul,Nat.reduceEqDiff]; exact hcall G hG hg) (by simp[Meets]) ?_
   simp (maxDischargeDepth:=6) only[g1,nX,kX,hbx,hd6,qk_old,ruD,ruW,putL,Nat.reduceLeDiff,xF,ruU,entryE,Nat.reduceLT,Nat.reduceAdd,Nat.reduceMul,Nat.reduceEqDiff]
   cases d6 with
   |true =>
    have h6:=of_decide_eq_true hd6
    simp (maxDischargeDepth:=6) only[g1,Tryz.results59,ruW,putL,Nat.reduceLeDiff,xF,ruU,entryE,Nat.reduceLT,Nat.reduceAdd,Nat.reduceMul,Nat.reduceEqDiff]
    have:encA op args=5:=by rw[encA,if_neg e1,zC1,if_neg (by omega),if_neg hok,if_pos (by omega)]
    rw[this]
    exact Ax.Fin.mod rfl mX rfl
   |false =>
    have h6:args.length=(kindsR op args).length:=by have:=of_decide_eq_false hd6; omega
    have henc:encA op args=if args.all opndR then 0 else 3:=by rw[encA,if_neg e1,zC1,if_neg (by omega),if_neg hok,if_neg (by omega)]
    simp (maxDischargeDepth:=6) only[g1,nX,kX,hbx,qk_old,ruW,putL,Nat.reduceLeDiff,xF,ruU,entryE,Nat.reduceLT,Nat.reduceAdd,Nat.reduceMul,Nat.reduceEqDiff]
    refine w_env fun E2 hE=>?_
    have h1':E2 1=.pointer (some ⟨b+0,0,none⟩):=by rw[hE]; simp only[g1,ruU,entryE,Nat.reduceLT,Nat.reduceAdd,Nat.reduceMul,Nat.reduceEqDiff]
    have h4':E2 4=.int .i64 ((0:Nat):Int):=by rw[hE]; (simp only[ruU,entryE,Nat.reduceLT,Nat.reduceAdd,Nat.reduceMul,Nat.reduceEqDiff]<;>rfl)
    clear hE g1 E
    refine w_loop (fun (j:Nat) E' H'=>H'=ext X []∧j≤args.length∧(∀ i,i<j→∀ y,args[i]?=some y→opndR y=true)∧E' 1=.pointer (some ⟨b+0,0,none⟩)∧E' 4=.int .i64 (j:Int)) (fun j=>args.length-j) 0 ⟨rfl,zB4 _,fun i hi=>absurd hi (by omega),h1',h4'⟩ ?_
    clear h1' h4' E2
    rintro j E H' ⟨hH,hj,hall,g1,g4⟩
    rw[hH]
    by_cases hje:j=args.length
    ·have hdj:decide ((j:Int)<(args.length:Int))=false:=decide_eq_false (by omega)
     simp (maxDischargeDepth:=6) only[g1,g4,nX,kX,hbx,hdj,qk_old,Tryz.results59,ruW,putL,Nat.reduceLeDiff,xF,ruU,entryE,Nat.reduceLT,Nat.reduceAdd,Nat.reduceMul,Nat.reduceEqDiff]
     have hat:args.all opndR=true:=zB6.2 fun y hy=>by
      obtain⟨i,hi,he⟩:=List.mem_iff_getElem.1 hy
      exact hall i (by omega) y (by rw[zB0 hi,he])
     rw[henc,if_pos hat]
     exact Ax.Fin.mod rfl mX rfl
    ·have hjl:j<args.length:=by omega
     have hdj:decide ((j:Int)<(args.length:Int))=true:=decide_eq_true (by omega)
     have haX':=haX
     rw[e0]at haX'
     obtain⟨n',off',s',c',e',o',M',e3,n3,r3,m3⟩:=haX'.one hjl
     have kX':=kX
     rw[e3]at kX'
     rw[iv_get,zB0 hjl,zA5]at m3
     have i3:=ia_of (P:=Tryz.prog) (k:=.i64) (i:=j) (n:=n') (off:=off') (len:=args.length) (cap:=c') (s:=s') u35 s3 hjl
     rw[zD3]at i3
     rw[nX]at n3
     obtain⟨x',hxv'⟩:∃ x,args[j]=x:=⟨_,rfl⟩
     rw[hxv']at m3
     have hw:IntKind.i64.wrap ((j:Int)+1)=((j+1:Nat):Int):=wrap_succ (by omega)
     obtain⟨p',hp'⟩:∃ p,decide (x'<0)=p:=⟨_,rfl⟩
     obtain⟨q',hq'⟩:∃ q,decide ((65535:Int)<x')=q:=⟨_,rfl⟩
     have hpq':=opnd_pq hp' hq'
     have hbad':opndR x'=false→(args.all opndR)=false:=fun h=>by
      cases hh:args.all opndR with
      |false=>rfl
      |true =>
       have:=zB6.1 hh x' (hxv'▸List.getElem_mem hjl)
       rw[h]at this
       cases this
     cases p' with
     |true =>
      simp (maxDischargeDepth:=6) only[g1,g4,nX,kX',hbx,hdj,i3,n3,r3,m3,hp',qk_old,Tryz.results59,ruW,putL,Nat.reduceLeDiff,xF,ruU,entryE,Nat.reduceLT,Nat.reduceAdd,Nat.reduceMul,Nat.reduceEqDiff]
      rw[henc,hbad' hpq']
      exact Ax.Fin.mod rfl mX rfl
     |false =>
      cases q' with
      |true =>
       simp (maxDischargeDepth:=6) only[g1,g4,nX,kX',hbx,hdj,i3,n3,r3,m3,hp',hq',qk_old,Tryz.results59,ruW,putL,Nat.reduceLeDiff,xF,ruU,entryE,Nat.reduceLT,Nat.reduceAdd,Nat.reduceMul,Nat.reduceEqDiff]
       rw[henc,hbad' hpq']
       exact Ax.Fin.mod rfl mX rfl
      |false =>
       simp (maxDischargeDepth:=6) only[g1,g4,nX,kX',hbx,hdj,i3,n3,r3,m3,hp',hq',hw,qk_old,ruW,putL,Nat.reduceLeDiff,xF,ruU,entryE,Nat.reduceLT,Nat.reduceAdd,Nat.reduceMul,Nat.reduceEqDiff]
       refine loopC_next ⟨j+1,by omega,rfl,by omega,fun i hi y hy=>?_,?_,?_⟩
       ·by_cases h:i=j
        ·subst h
         rw[zB0 hjl,hxv']at hy
         cases hy
         exact hpq'
        ·exact hall i (by omega) y hy
       all_goals simp only[g1,ruU,entryE,Nat.reduceLT,Nat.reduceAdd,Nat.reduceMul,Nat.reduceEqDiff]
theorem wrong_c (H:AHeap) (pos op:Int) (av:Value) (args:List Int) (ha:RdAt H 1 av (iv args) args.length) (hlen:args.length≤1000000):Pure 59 [.agg ⟨[.int .i64 pos,.int .i64 op,av]⟩] H (.int .i64 (encA op args)):=by
 by_cases h:op<0∨28≤op
 ·obtain⟨a,c,rfl⟩:=ha.sl
  rw[encA,if_pos h]
  exact wrong_bad H pos op a args.length c h
 ·obtain⟨k,rfl⟩:∃ k:Nat,op=k:=⟨op.toNat,by omega⟩
  exact wrong_ok H pos k av args (by omega) ha hlen
set_option maxRecDepth 100000
theorem InsRd.fld {H:AHeap} {v:Value} {ls:List Iv} (h:InsRd H v ls) {i:Nat} {x:Iv} (hi:ls[i]?=some x):∃ n off s c e o M,v=.slice (some ⟨n,off,s⟩) ls.length c∧n<H.next∧rk H n=some ⟨e,o,M⟩∧aIndexAddr Tryz.prog 42 v (.int .i64 (i:Int))=some (.pointer (some ⟨n,off+i*3,none⟩))∧ldB Tryz.prog 59 (off+i*3) (some ⟨e,o,M⟩)=some (ivV x)∧M[off+i*3]?=some (.int .i64 x.1.pos)∧M[off+(i*3+1)]?=some (.int .i64 x.1.op)∧M[off+(i*3+2)]?=some x.2:=by
 have hl:=(List.getElem?_eq_some_iff.1 hi).1
 obtain⟨n,off,s,c,e,o,M,rfl,h2,h3,h4,h5⟩:=h.rd.at_ hl
 rw[insC_at hi]at h5
 have h1:aggT Tryz.prog 59=some true:=by kernel_rfl
 have hM:∀ k,k<3→M[off+i*3+k]?=(ivC x)[k]?:=fun k hk=>by
  rw[←h5,List.getElem?_take_of_lt hk,List.getElem?_drop]
 refine⟨n,off,s,c,e,o,M,rfl,h2,h3,ia_of u42 s59 hl,?_,hM 0 (by omega),by rw[←Nat.add_assoc]; exact hM 1 (by omega),by rw[←Nat.add_assoc]; exact hM 2 (by omega)⟩
 rw[ld_agg h1,s59,zA3,if_pos (by omega),h5]
 rfl
theorem bv_app (a b:List UInt8):bv (a++b)=bv a++bv b:=by simp[bv]
theorem scbL_bv (n:Nat) (ws:List UInt8):scbL n (bv ws)=true:=by
 rw[scbL_iff]
 intro v' hv'
 obtain⟨w',_,rfl⟩:=List.mem_map.1 hv'
 rfl
theorem mod8 {x:Int} (h0:0≤x):(x.tmod 256).toNat.toUInt8=x.toNat.toUInt8∧0≤x.tmod 256∧x.tmod 256≤255:=by
 obtain⟨n,rfl⟩:∃ n:Nat,x=n:=⟨x.toNat,by omega⟩
 have:(n:Int).tmod 256=((n % 256:Nat):Int):=by rw[Int.tmod_eq_emod_of_nonneg (by omega)]; omega
 rw[this]
 refine⟨UInt8.toNat_inj.1 ?_,by omega,by omega⟩
 simp only[zC1,UInt8.toNat_ofNat']
 omega
theorem quo8 {x:Int} (h0:0≤x) (h1:x≤65535):IntKind.i64.wrap (x.tdiv 256)=((x.toNat / 256:Nat):Int):=by
 obtain⟨n,rfl⟩:∃ n:Nat,x=n:=⟨x.toNat,by omega⟩
 have:(n:Int).tdiv 256=((n / 256:Nat):Int):=by rw[Int.tdiv_eq_ediv_of_nonneg (by omega)]; omega
 rw[this,zC1]
 exact wrap_sm (by omega) (by omega)
theorem encode31_c (H:AHeap) (v:Value) (ls:List Iv) (hi:InsRd H v ls) (hok:H.base≤H.next) (hl:ls.length≤1000000) (hn:∀ x∈ls,x.1.args.length≤1000000) (hb:(encL (ls.map (·.1))).length≤100000000) :
  CallA Tryz.prog 31 [v] H (fun out X=>EncOut H (ls.map (·.1)) out X∧Mod [] H X):=by
 obtain⟨a0,c0,e0⟩:=hi.rd.sl
 obtain⟨b,hbn⟩:∃ b,H.next=b:=⟨_,rfl⟩
 have hbase:H.base≤b:=hbn▸hok
 refine callE_fn mixed Tryz.func31 rfl Tryz.ntmps31 (zB8 rfl) ?_
 rw[e0]
 simp (maxDischargeDepth:=6) only[hbn,hbase,ruW,putL,Nat.reduceLeDiff,xF,ruU,entryE,Nat.reduceLT,Nat.reduceAdd,Nat.reduceMul,Nat.reduceEqDiff]
 rw[←e0]
 refine w_env fun E hE=>?_
 have g0:E 0=v:=by rw[hE,e0]; simp only[ruU,entryE,Nat.reduceLT,Nat.reduceAdd,Nat.reduceMul,Nat.reduceEqDiff]
 have g2:E 2=.slice none 0 0:=by rw[hE]; simp only[ruU,entryE,Nat.reduceLT,Nat.reduceAdd,Nat.reduceMul,Nat.reduceEqDiff]
 have g3:E 3=.pointer (some ⟨b+0,0,none⟩):=by rw[hE]; simp only[ruU,entryE,Nat.reduceLT,Nat.reduceAdd,Nat.reduceMul,Nat.reduceEqDiff]
 have g4:E 4=.slice none 0 0:=by rw[hE]; simp only[ruU,entryE,Nat.reduceLT,Nat.reduceAdd,Nat.reduceMul,Nat.reduceEqDiff]
 have g5:E 5=.int .i64 ((0:Nat):Int):=by rw[hE]; (simp only[ruU,entryE,Nat.reduceLT,Nat.reduceAdd,Nat.reduceMul,Nat.reduceEqDiff]<;>rfl)
 clear hE
 generalize hX0:ext H _=X0
 have m0:Mod [] H X0:=hX0▸Mod.ext hok
 have n0:b+1≤X0.next:=by rw[←hX0,ext_next,hbn]; simp
 have k0:bk X0 (b+0)=some ⟨26,false,[.int .i64 0,.int .i64 0]⟩:=by rw[←hX0,bk_at hbn (by simp)]; rfl
 clear hX0
 refine w_loop (fun (z:Nat × Value) E' X=>Mod [] H X∧b+1≤X.next∧bk X (b+0)=some ⟨26,false,[.int .i64 0,.int .i64 0]⟩∧VsAt X 5 1 z.2 (bv (encL ((ls.map (·.1)).take z.1))) (encL ((ls.map (·.1)).take z.1)).length∧(∀ n∈idsV z.2,b+1≤n)∧z.1≤ls.length∧(∀ i,i<z.1→∀ x:Ins,(ls.map (·.1))[i]?=some x→encA x.op x.args=0)∧E' 0=v∧E' 2=.slice none 0 0∧E' 3=.pointer (some ⟨b+0,0,none⟩)∧E' 4=z.2∧E' 5=.int .i64 (z.1:Int)) (fun z=>ls.length-z.1) (0,.slice none 0 0)
  ⟨m0,n0,k0,VsAt.nil,fun n hn=>by simp[idsV]at hn,zB4 _,fun i hi=>absurd hi (by simp),g0,g2,g3,g4,g5⟩ ?_
 clear g0 g2 g3 g4 g5 m0 n0 k0 X0 E
 rintro⟨i,ov⟩ E X ⟨m,nx,k,ho,hoi,hil,hgood,g0,g2,g3,g4,g5⟩
 simp only at ho hoi hil hgood g4 g5
 obtain⟨x,hx⟩:∃ x,X.next=x:=⟨_,rfl⟩
 have hxb:X.base≤x:=hx▸m.ok hok
 rw[hx]at nx
 have hbx:b+0<x:=by omega
 obtain⟨oa,eo⟩:=ho.len
 rw[show X=ext X [] from rfl]
 have mU:∀ vs,Mod [] H (uw X (b+0) 0 vs):=fun vs=>m.step (W':=[b+0]) (Mod.uw (by simp)) hok fun n hn=>by simp only[zA7]at hn; exact .inr (by omega)
 by_cases hie:i=ls.length
 ·have hd:decide ((i:Int)<(ls.length:Int))=false:=decide_eq_false (by omega)
  have htk:(ls.map (·.1)).take i=ls.map (·.1):=zD8 (by rw[List.length_map]; omega)
  rw[htk]at ho eo
  have hnone:encBad 0 (ls.map (·.1))=none:=encBad_at fun j y hy=>hgood j (by have:=(List.getElem?_eq_some_iff.1 hy).1; rw[List.length_map]at this; omega) y hy
  obtain⟨d,hd2⟩:∃ d,decide ((60000:Int)<((encL (ls.map (·.1))).length:Int))=d:=⟨_,rfl⟩
  rw[eo]at g4
  rw[e0]at g0
  cases d with
  |true =>
   have:=of_decide_eq_true hd2
   simp (maxDischargeDepth:=6) only[g0,g2,g3,g4,g5,hd,hd2,hx,hxb,hbx,k,Tryz.results31,ruW,putL,Nat.reduceLeDiff,xF,ruU,entryE,Nat.reduceLT,Nat.reduceAdd,Nat.reduceMul,Nat.reduceEqDiff]
   refine⟨?_,mU _⟩
   simp only[EncOut,hnone]
   rw[if_pos (by omega),List.length_map]
  |false =>
   have:=of_decide_eq_false hd2
   simp (maxDischargeDepth:=6) only[g0,g2,g3,g4,g5,hd,hd2,hx,hxb,hbx,k,Tryz.results31,ruW,putL,Nat.reduceLeDiff,xF,ruU,entryE,Nat.reduceLT,Nat.reduceAdd,Nat.reduceMul,Nat.reduceEqDiff]
   refine⟨?_,mU _⟩
   simp only[EncOut,hnone]
   rw[if_neg (by omega)]
   rw[←eo]
   refine⟨_,rfl,?_,fun n hn=>by have:=hoi n hn; omega⟩
   rw[ext_nil]
   exact ho.of (by rw[uw_next]; exact zA8 _) fun n hn=>uw_get (by have:=hoi n hn; omega)
 ·have hil':i<ls.length:=by omega
  have hd:decide ((i:Int)<(ls.length:Int))=true:=decide_eq_true (by omega)
  obtain⟨y,hy⟩:∃ y,ls[i]?=some y:=⟨_,zB0 hil'⟩
  have hym:y∈ls:=List.mem_of_getElem? hy
  obtain⟨n,off,s,c,e,o,M,e1,n1,r1,ia,ld,_,l1,l2⟩:=(hi.mod0 m).fld hy
  have hyr:=(hi.mod0 m).av y hym
  have hys:=(hi.mod0 m).sc y hym
  have hyn:=hn y hym
  obtain⟨⟨pos,op,args⟩,av⟩:=y
  obtain⟨aa,ac,ea⟩:=hyr.sl
  simp only at hyr hys hyn ea l1 l2
  rw[hx]at n1 hys
  simp only[ivV,ivC]at ld
  rw[ea]at ld hys l2 hyr
  rw[e1]at ia
  have g0s:E 0=.slice (some ⟨n,off,s⟩) ls.length c:=g0.trans e1
  simp (maxDischargeDepth:=6) only[g0s,g2,g3,g4,g5,hd,hx,hxb,hbx,ia,r1,n1,ld,hys,qk_old,ruW,putL,Nat.reduceLeDiff,xF,ruU,entryE,Nat.reduceLT,Nat.reduceAdd,Nat.reduceMul,Nat.reduceEqDiff]
  refine (wrong_c (ext X []) pos op _ args hyr hyn).to ?_
  have hgx:(ls.map (·.1))[i]?=some ⟨pos,op,args⟩:=by rw[List.getElem?_map,hy]; rfl
  by_cases hen:encA op args=0
  ·have hdz:decide (¬encA op args=0)=false:=decide_eq_false (by simp[hen])
   obtain⟨q0,q1,q2,q3⟩:=encA_ok hen
   have hcv:∀ G:AHeap,aConvert Tryz.prog G 3 5 (.int .i64 op)=some (.int .u8 ((op.toNat.toUInt8).toNat:Int),G):=fun G=>by
    rw[cv_int (u:=.int .i64) (k:=.u8) (by kernel_rfl) (by kernel_rfl),byte_val q0 (by omega)]
   simp (maxDischargeDepth:=6) only[g0s,g2,g3,g4,g5,hdz,hx,hxb,hbx,ia,r1,n1,l1,k,hcv,qk_old,w_convert,ruW,putL,Nat.reduceLeDiff,xF,ruU,entryE,Nat.reduceLT,Nat.reduceAdd,Nat.reduceMul,Nat.reduceEqDiff]
   have hmono:=encL_mono (ls:=ls.map (·.1)) (i+1)
   rw[encL_take hgx,zB3]at hmono
   have hbl:(encB ⟨pos,op,args⟩).length=1+2*args.length:=by
    simp only[encB,zA9]
    have:∀ l:List Int,(l.flatMap fun a=>[a.toNat.toUInt8,(a.toNat / 256).toUInt8]).length=2*l.length:=fun l=>by
     induction l with
     |nil=>rfl
     |cons a r ih=>rw[zD4,zB3,ih]; simp only[zA9,zC4]; omega
    rw[this]
    omega
   rw[hbl]at hmono
   obtain⟨G,k1,vG,mG,nG⟩:=byte_app (X:=X) (v:=ov) (ws:=[op.toNat.toUInt8]) (x:=x) ho hx (by rw[hx]; exact hxb) (by simp) (by simp only[zC0]; omega)
   replace k1:aBuiltin Tryz.prog (ext X [⟨5,false,[.int .u8 ((op.toNat.toUInt8).toNat:Int)]⟩]) .append ⟨[23,23]⟩ [ov,.slice (some ⟨x+0,0,some 0⟩) 1 1]=some (.slice (some ⟨x+1,0,none⟩) ((encL ((ls.map (·.1)).take i)).length+1) ((encL ((ls.map (·.1)).take i)).length+1),ext G []):=k1
   have hxo:∀ n∈idsV ov,b+1≤n∧n<x:=fun n hn=>⟨hoi n hn,hx▸(ho.ne n hn).2⟩
   have mmG:Mod [] H G:=m.step mG hok fun n hn=>.inr (by have:=hxo n hn; omega)
   have kfG:bk G (b+0)=some ⟨26,false,[.int .i64 0,.int .i64 0]⟩:=(mG.bk (by omega) (fun h=>by have:=hxo _ h; omega)).trans k
   simp (maxDischargeDepth:=6) only[g0s,g2,g3,g4,g5,k1,nG,ruW,putL,Nat.reduceLeDiff,xF,ruU,entryE,Nat.reduceLT,Nat.reduceAdd,Nat.reduceMul,Nat.reduceEqDiff]
   obtain⟨D,hD⟩:∃ D,encL ((ls.map (·.1)).take i)++[op.toNat.toUInt8]=D:=⟨_,rfl⟩
   have hDl:D.length=(encL ((ls.map (·.1)).take i)).length+1:=by rw[←hD]; simp
   rw[hD,zC0,←hDl]at vG
   rw[←hDl]
   have htot:encL ((ls.map (·.1)).take (i+1))=D++args.flatMap fun a=>[a.toNat.toUInt8,(a.toNat / 256).toUInt8]:=by rw[encL_take hgx,←hD]; simp[encB]
   refine w_env fun E2 hE=>?_
   have h0:E2 0=v:=by rw[hE]; simp only[g0,ruU,entryE,Nat.reduceLT,Nat.reduceAdd,Nat.reduceMul,Nat.reduceEqDiff]
   have h2:E2 2=.slice none 0 0:=by rw[hE]; simp only[g2,ruU,entryE,Nat.reduceLT,Nat.reduceAdd,Nat.reduceMul,Nat.reduceEqDiff]
   have h3:E2 3=.pointer (some ⟨b+0,0,none⟩):=by rw[hE]; simp only[g3,ruU,entryE,Nat.reduceLT,Nat.reduceAdd,Nat.reduceMul,Nat.reduceEqDiff]
   have h4:E2 4=.slice (some ⟨x+1,0,none⟩) D.length D.length:=by rw[hE]; simp only[ruU,entryE,Nat.reduceLT,Nat.reduceAdd,Nat.reduceMul,Nat.reduceEqDiff]
   have h5:E2 5=.int .i64 (i:Int):=by rw[hE]; simp only[g5,ruU,entryE,Nat.reduceLT,Nat.reduceAdd,Nat.reduceMul,Nat.reduceEqDiff]
   have h7:E2 7=.int .i64 ((0:Nat):Int):=by rw[hE]; (simp only[ruU,entryE,Nat.reduceLT,Nat.reduceAdd,Nat.reduceMul,Nat.reduceEqDiff]<;>rfl)
   clear hE g0s g0 g2 g3 g4 g5 E
   refine w_loop (fun (z:Nat × List UInt8 × Value) E' X'=>Mod [] H X'∧b+1≤X'.next∧bk X' (b+0)=some ⟨26,false,[.int .i64 0,.int .i64 0]⟩∧VsAt X' 5 1 z.2.2 (bv z.2.1) z.2.1.length∧(∀ n∈idsV z.2.2,b+1≤n)∧z.1≤args.length∧z.2.1++((args.drop z.1).flatMap fun a=>[a.toNat.toUInt8,(a.toNat / 256).toUInt8])=encL ((ls.map (·.1)).take (i+1))∧E' 0=v∧E' 2=.slice none 0 0∧E' 3=.pointer (some ⟨b+0,0,none⟩)∧E' 4=z.2.2∧E' 5=.int .i64 (i:Int)∧E' 7=.int .i64 (z.1:Int)) (fun z=>args.length-z.1) (0,D,.slice (some ⟨x+1,0,none⟩) D.length D.length)
    ⟨mmG,by rw[ext_nil,nG]; omega,kfG,vG,fun n hn=>by simp only[idsV,zA7]at hn; omega,zB4 _,by rw[htot]; rfl,h0,h2,h3,h4,h5,h7⟩ ?_
   clear h0 h2 h3 h4 h5 h7 E2 mmG kfG vG nG mG k1 G
   clear ia r1 n1 ld l1 l2
   rintro⟨j,o2,v2⟩ E X2 ⟨m2,nx2,kf2,vo2,hi2,hj,htj,g0,g2,g3,g4,g5,g7⟩
   simp only at vo2 hi2 hj htj g4 g7
   obtain⟨x2,hx2⟩:∃ x2,X2.next=x2:=⟨_,rfl⟩
   have xb2:X2.base≤x2:=hx2▸m2.ok hok
   rw[hx2]at nx2
   obtain⟨n',off',s',c',e',o',M',e1',n1,r1,ia,ld,_,_,l2⟩:=(hi.mod0 m2).fld hy
   have hyr2:=(hi.mod0 m2).av _ hym
   simp only at hyr2 l2
   rw[ea]at hyr2 l2
   rw[hx2]at n1
   rw[e1']at ia
   have g0s:E 0=.slice (some ⟨n',off',s'⟩) ls.length c':=g0.trans e1'
   rw[show X2=ext X2 [] from rfl]
   by_cases hje:j=args.length
   ·have hdj:decide ((j:Int)<(args.length:Int))=false:=decide_eq_false (by omega)
    simp (maxDischargeDepth:=6) only[g0s,g2,g3,g4,g5,g7,hx2,ia,n1,r1,l2,hdj,qk_old,ruW,putL,Nat.reduceLeDiff,xF,ruU,entryE,Nat.reduceLT,Nat.reduceAdd,Nat.reduceMul,Nat.reduceEqDiff]
    rw[hje,List.drop_length,List.flatMap_nil,zD5]at htj
    rw[htj]at vo2
    have hw:IntKind.i64.wrap ((i:Int)+1)=((i+1:Nat):Int):=wrap_succ (by omega)
    refine loopC_next ⟨(i+1,v2),by simp only; omega,m2,by rw[ext_nil,hx2]; exact nx2,kf2,vo2,hi2,by simp only; omega,fun i' hi' y' hy'=>?_,?_,?_,?_,?_,?_⟩
    ·by_cases hii:i'=i
     ·subst hii
      rw[hgx]at hy'
      cases hy'
      exact hen
     ·exact hgood i' (by simp only at hi'; omega) y' hy'
    all_goals simp only[g0,g2,g3,g4,g5,g7,hw,ruU,entryE,Nat.reduceLT,Nat.reduceAdd,Nat.reduceMul,Nat.reduceEqDiff]
   ·have hjl:j<args.length:=by omega
    have hdj:decide ((j:Int)<(args.length:Int))=true:=decide_eq_true (by omega)
    obtain⟨n3,off3,s3',c3,e3,o3,M3,e4,n4,r4,m4⟩:=hyr2.one hjl
    have e5:=e4
    cases e5
    rw[iv_get,zB0 hjl,zA5]at m4
    have i3:=ia_of (P:=Tryz.prog) (k:=.i64) (i:=j) (n:=n3) (off:=off3) (len:=args.length) (cap:=ac) (s:=s3') u35 s3 hjl
    rw[zD3]at i3
    rw[hx2]at n4
    obtain⟨ya,hya⟩:∃ ya,args[j]=ya:=⟨_,rfl⟩
    rw[hya]at m4
    obtain⟨y0,y1⟩:=q3 ya (hya▸List.getElem_mem hjl)
    have hw:IntKind.i64.wrap ((j:Int)+1)=((j+1:Nat):Int):=wrap_succ (by omega)
    obtain⟨z0,z1,z2⟩:=mod8 y0
    have c1:IntKind.u8.wrap (ya.tmod 256)=((ya.toNat.toUInt8).toNat:Int):=by rw[byte_val z1 (by omega),z0]
    have c2:IntKind.u8.wrap ((ya.toNat / 256:Nat):Int)=(((ya.toNat / 256).toUInt8).toNat:Int):=by
     rw[byte_val (by omega) (by omega),zC1]
    have hq8:=quo8 y0 y1
    have hdr:args.drop j=ya::args.drop (j+1):=by rw[List.drop_eq_getElem_cons hjl,hya]
    rw[hdr,zD4,←List.append_assoc]at htj
    have hlen2:=congrArg List.length htj
    simp only[zB3,zA9,zC4]at hlen2
    have hmono2:=encL_mono (ls:=ls.map (·.1)) (i+1)
    simp (maxDischargeDepth:=6) only[g0s,g2,g3,g4,g5,g7,hx2,ia,n1,r1,l2,hdj,qk_old,ruW,putL,Nat.reduceLeDiff,xF,ruU,entryE,Nat.reduceLT,Nat.reduceAdd,Nat.reduceMul,Nat.reduceEqDiff]
    have hrm:regBin Tryz.prog .rem 3 (.int .i64 ya) (.int .i64 256)=some (.int .i64 (ya.tmod 256)):=reg_rem (by decide)
    have hqo:regBin Tryz.prog .quo 3 (.int .i64 ya) (.int .i64 256)=some (.int .i64 (IntKind.i64.wrap (ya.tdiv 256))):=reg_quo (by decide)
    refine w_drawB [(23,22),(23,21),(22,1),(22,2),(22,3),(22,4),(22,5),(22,6),(22,7),(22,8),(22,9),(22,10),(22,11),(22,12),(22,13),(22,14),(22,15),(22,16),(22,17),(22,18),(22,19),(22,20),(22,21)] [] (by kernel_rfl) (by kernel_rfl) rfl fun ops anc hA hG=>?_
    simp only[all2_cons]at hA
    simp (maxDischargeDepth:=6) only[g0s,g2,g3,g4,g5,g7,hx2,xb2,ia,n1,r1,l2,i3,n4,r4,m4,hrm,qk_old,hA,ruD,ruW,putL,Nat.reduceLeDiff,xF,ruU,entryE,Nat.reduceLT,Nat.reduceAdd,Nat.reduceMul,Nat.reduceEqDiff]
    refine wd_cvint (u:=.int .i64) (k:=.u8) (k0:=.i64) (n:=ya.tmod 256) (by simp only[ruU,entryE,Nat.reduceLT,Nat.reduceAdd,Nat.reduceMul,Nat.reduceEqDiff]) (by decide) (by kernel_rfl) (by kernel_rfl) (by simp only[ruU,entryE,Nat.reduceLT,Nat.reduceAdd,Nat.reduceMul,Nat.reduceEqDiff]) ?_
    rw[c1]
    simp (maxDischargeDepth:=6) only[g0s,g2,g3,g4,g5,g7,hx2,xb2,ia,n1,r1,l2,i3,n4,r4,m4,hqo,hq8,qk_old,hA,ruD,ruW,putL,Nat.reduceLeDiff,xF,ruU,entryE,Nat.reduceLT,Nat.reduceAdd,Nat.reduceMul,Nat.reduceEqDiff]
    refine wd_cvint (u:=.int .i64) (k:=.u8) (k0:=.i64) (n:=((ya.toNat / 256:Nat):Int)) (by simp only[ruU,entryE,Nat.reduceLT,Nat.reduceAdd,Nat.reduceMul,Nat.reduceEqDiff]) (by decide) (by kernel_rfl) (by kernel_rfl) (by simp only[ruU,entryE,Nat.reduceLT,Nat.reduceAdd,Nat.reduceMul,Nat.reduceEqDiff]) ?_
    rw[c2]
    simp (maxDischargeDepth:=6) only[g0s,g2,g3,g4,g5,g7,hx2,xb2,qk_old,hA,ruD,ruW,putL,Nat.reduceLeDiff,xF,ruU,entryE,Nat.reduceLT,Nat.reduceAdd,Nat.reduceMul,Nat.reduceEqDiff]
    generalize hY:ext X2 _=Y
    have okX2:=m2.ok hok
    have mY:Mod [] X2 Y:=hY▸Mod.ext okX2
    have nY:Y.next=x2+1:=by rw[←hY,ext_next,hx2]; rfl
    have kY:bk Y (x2+0)=some ⟨5,false,bv [ya.toNat.toUInt8,(ya.toNat / 256).toUInt8]⟩:=by rw[←hY,bk_at hx2 (by simp)]; rfl
    have okY:=mY.ok okX2
    have voY:VsAt Y 5 1 v2 (bv o2) o2.length:=vo2.of mY.next fun k hk=>mY.get k (vo2.ne k hk).2 (by simp)
    refine wd_appV (v:=v2) (vs:=bv o2) (cnt:=o2.length) (sz:=1) (e:=5) (by1:=1) (n:=x2+0) (off:=0) (cnt2:=2) (cap:=2) (s:=some 0) (z:=.int .u8 0) (ws:=bv [ya.toNat.toUInt8,(ya.toNat / 256).toUInt8]) u23 s5 (by kernel_rfl) (by kernel_rfl) rfl (by kernel_rfl) (by simp only[ruU,entryE,Nat.reduceLT,Nat.reduceAdd,Nat.reduceMul,Nat.reduceEqDiff]) (by simp only[g4,ruU,entryE,Nat.reduceLT,Nat.reduceAdd,Nat.reduceMul,Nat.reduceEqDiff]) (by decide) voY (rk_of kY) (by omega) (by simp[bv]) rfl rfl (by decide)
     (by simp only[small,zA4,Nat.ble_eq]; omega) (by rw[←bv_app]; exact scbL_bv _ _) okY (by simp only[all2_cons,all2_nil,hA,true_or,and_true]) fun Z D vZ mZ hD nZ=>?_
    rw[nY]at nZ vZ ⊢
    have ho2:∀ n∈idsV v2,b+1≤n∧n<x2:=fun n hn=>⟨hi2 n hn,hx2▸(vo2.ne n hn).2⟩
    have mXZ:Mod (idsV v2) X2 Z:=(mY.mono (by simp)).trans mZ
    have mHZ:Mod [] H Z:=m2.step mXZ hok fun n hn=>.inr (by have:=ho2 n hn; omega)
    have kfZ:bk Z (b+0)=some ⟨26,false,[.int .i64 0,.int .i64 0]⟩:=(mXZ.bk (by omega) (fun h=>by have:=ho2 _ h; omega)).trans kf2
    simp (maxDischargeDepth:=6) only[g0s,g2,g3,g4,g5,g7,nZ,hw,hA,ruD,ruW,putL,Nat.reduceLeDiff,xF,ruU,entryE,Nat.reduceLT,Nat.reduceAdd,Nat.reduceMul,Nat.reduceEqDiff]
    have hol:(o2++[ya.toNat.toUInt8,(ya.toNat / 256).toUInt8]).length=o2.length+2:=by simp
    refine loopC_next ⟨(j+1,o2++[ya.toNat.toUInt8,(ya.toNat / 256).toUInt8],.slice (some ⟨x2+1,0,none⟩) (o2.length+2) (o2.length+2)),by simp only; omega,mHZ,by rw[nZ]; omega,kfZ,by rw[hol,bv_app]; exact vZ,fun n hn=>by simp only[idsV,zA7]at hn; omega,by simp only; omega,htj,?_,?_,?_,?_,?_,?_⟩
    all_goals simp only[g0,g2,g3,g4,g5,g7,hw,ruU,entryE,Nat.reduceLT,Nat.reduceAdd,Nat.reduceMul,Nat.reduceEqDiff]
  ·have hdz:decide (¬encA op args=0)=true:=decide_eq_true hen
   simp (maxDischargeDepth:=6) only[g0s,g2,g3,g4,g5,hdz,hx,hxb,hbx,k,Tryz.results31,ruW,putL,Nat.reduceLeDiff,xF,ruU,entryE,Nat.reduceLT,Nat.reduceAdd,Nat.reduceMul,Nat.reduceEqDiff]
   refine⟨?_,mU _⟩
   simp only[EncOut,encBad_some (k:=0) hgood hgx hen,zC8]
set_option maxRecDepth 100000
theorem args_len:∀ (ws:List (List UInt8)) (a:List Int),(argsR ws a).1.length≤a.length+ws.length
 |[],a=>by simp[argsR]
 |w::r,a=>by
  rw[argsR]
  split
  ·have:=args_len r (a++[(numR w).1])
   simp only[zB3,zA9,zC4]at *
   omega
  ·simp
theorem line_len (b:List UInt8):(lineR b).1.args.length≤b.length:=by
 have h1:=split_len 32 b
 have h2:=count_le 32 b
 have h3:=args_len (splitR 32 b).tail []
 simp only[List.length_tail,zC4]at h3
 unfold lineR
 split
 ·simp
 ·split
  ·simp only; omega
  ·split<;>(simp only; omega)
def outP (rs:List (List UInt8)):List UInt8:=rs.flatMap fun r=>encB (lineR (ownR r)).1
def errP (r:List UInt8):Int:=if Go.Lib.hasSuffix r [10]=false then 5 else (lineR (ownR r)).2
def preP (r:List UInt8):Prop:=r.length≤20000
theorem own_len (r:List UInt8):(ownR r).length≤r.length:=by
 unfold ownR Go.Lib.trimSuffix
 split
 ·rw[List.length_take]; omega
 ·exact zA8 _
theorem enc_len1 (x:Ins):(encB x).length=1+2*x.args.length:=by
 have:∀ l:List Int,(l.flatMap aB).length=2*l.length:=fun l=>by
  induction l with
  |nil=>rfl
  |cons a q ih=>rw[zD4,zB3,ih]; simp only[aB,zA9,zC4]; omega
 rw[encB_eq,zA9,this]
 omega
def lpP (asg bod:Code) (d:Nat):Loop:={state:=.ready,pending:=none,fn:=0,tmps:=#[],params:=⟨[15]⟩,assign:=asg,body:=bod,defers:=d}
def ParInv (l p:Nat) (lp:Loop) (e:RV) (rs:List (List UInt8)) (F W:List Nat) (G:AHeap):Prop :=
 p+3<l∧l<G.next∧bk G (p+0)=some ⟨23,false,[.slice none 0 0]⟩ ∧
 ((∃ rs0 v br,rs0.all goP=true∧((br=false∧rs=rs0)∨(br=true∧rs=rs0++[[]]))∧F=(p+0)::(p+1)::(p+2)::(p+3)::l::idsV v∧W=F∧LoopAt G l (if br then {lp with state:=.done,pending:=some (.exit 0)} else lp) e∧bk G (p+1)=some ⟨26,false,[.int .i64 0,.int .i64 0]⟩∧bk G (p+2)=some ⟨23,false,[v]⟩∧bk G (p+3)=some ⟨3,false,[.int .i64 (rs0.length:Int)]⟩∧VsAt G 5 1 v (bv (outP rs0)) (outP rs0).length∧(outP rs0).length≤rs0.length*40001∧∀ n∈idsV v,p+3<n∧n≠l)
 ∨ (∃ r rs0,rs=rs0++[r]∧rs0.all goP=true∧r≠[]∧goP r=false∧F=[p+0,p+1,l]∧W=F∧LoopAt G l {lp with state:=.done,pending:=some .ret} e∧bk G (p+1)=some ⟨26,false,[.int .i64 (errP r),.int .i64 (rs0.length:Int)]⟩))
def ParR (l p:Nat) (lp:Loop) (e:RV) (rs:List (List UInt8)) (r:List UInt8) (F W:List Nat) (G:AHeap):Out→AHeap→Prop:=fun out G'=>out=.ok (.bool (goP r))∧∃ F' W',ParInv l p lp e (rs++[r]) F' W' G'∧Mod W G G'∧(∀ n∈F',n∈F∨G.next≤n)∧(∀ n∈W',n∈W∨G.next≤n)
abbrev parF (p l:Nat) (v:Value):List Nat:=(p+0)::(p+1)::(p+2)::(p+3)::l::idsV v
theorem par_ret {l p:Nat} {lp:Loop} {e:RV} {rs:List (List UInt8)} {r:List UInt8} {v:Value} {G K:AHeap} {L:List Bl} {a:AAct} {er:Int} (hpl:p+3<l) (hll:l<G.next) (hok:G.base≤G.next) (m:Mod (parF p l v) G K)
  (k0:bk K (p+0)=some ⟨23,false,[.slice none 0 0]⟩) (k1:bk K (p+1)=some ⟨26,false,[.int .i64 0,.int .i64 0]⟩) (hl:LoopAt K l {lp with state:=.busy} e) (hall:rs.all goP=true) (hne:r≠[]) (hg:goP r=false) (he:errP r=er) :
  rndC l (ParR l p lp e rs r (parF p l v) (parF p l v) G) .ret a (ext (uw (uw K (p+0) 0 [.slice none 0 0]) (p+1) 0 [.int .i64 er,.int .i64 (rs.length:Int)]) L):=by
 rw[rndC_ret]
 have nK:=m.next
 generalize hG2:uw K (p+0) 0 _=G2
 have mG2:Mod [p+0,p+1,l] K G2:=hG2▸Mod.uw (by simp)
 have n2:G2.next=K.next:=by rw[←hG2,uw_next]
 have d0:bk G2 (p+0)=some ⟨23,false,[.slice none 0 0]⟩:=by rw[←hG2,bk_uw_eq,k0]; rfl
 have d1:bk G2 (p+1)=some ⟨26,false,[.int .i64 0,.int .i64 0]⟩:=by rw[←hG2,bk_uw_ne (by omega),k1]
 have hl2:LoopAt G2 l _ e:=hl.of (hG2▸uw_get (by omega))
 generalize hG3:uw G2 (p+1) 0 _=G3
 have mG3:Mod [p+0,p+1,l] G2 G3:=hG3▸Mod.uw (by simp)
 have n3:G3.next=K.next:=by rw[←hG3,uw_next,n2]
 have e0:bk G3 (p+0)=some ⟨23,false,[.slice none 0 0]⟩:=by rw[←hG3,bk_uw_ne (by omega),d0]
 have e1:bk G3 (p+1)=some ⟨26,false,[.int .i64 er,.int .i64 (rs.length:Int)]⟩:=by rw[←hG3,bk_uw_eq,d1]; rfl
 have hl3:LoopAt G3 l _ e:=hl2.of (hG3▸uw_get (by omega))
 refine⟨_,_,(hl3.of (ext_get_old (by omega))).get,by rw[hg],[p+0,p+1,l],[p+0,p+1,l],?_⟩
 rw[ext_setLoop (by omega)]
 generalize hG4:setLoop G3 l _ _=G4
 have mG4:Mod [p+0,p+1,l] G3 G4:=hG4▸Mod.upd (by simp)
 have n4:G4.next=K.next:=by rw[←hG4,setLoop_next,n3]
 have hl4:LoopAt G4 l _ e:=hG4▸LoopAt.set l _ _
 have kk:∀ n,n<l→bk G4 n=bk G3 n:=fun n hn=>hG4▸bk_setLoop (by omega)
 have mA:Mod (parF p l v) G G4:=m.trans (((mG2.trans mG3).trans mG4).mono (by simp[parF]))
 refine⟨⟨hpl,by rw[ext_next,n4]; omega,(bk_old (by omega)).trans ((kk _ (by omega)).trans e0),.inr ⟨r,rs,rfl,hall,hne,hg,rfl,rfl,hl4.of (ext_get_old (by omega)),(bk_old (by omega)).trans ((kk _ (by omega)).trans (by rw[he]; exact e1))⟩⟩,mA.trans (Mod.ext (mA.ok hok)),fun n hn=>?_,fun n hn=>?_⟩
 all_goals
  simp only[parF,zB1,List.not_mem_nil,or_false]at hn ⊢
  omega
theorem par_step {asg bod:Code} (hab:some (asg,bod)=Tryz.f12.body.bind rangeOf) {l p d:Nat} {E:Env} (g2:E 2=.pointer (some ⟨p+0,0,none⟩)) (g3:E 3=.pointer (some ⟨p+1,0,none⟩)) (g4:E 4=.pointer (some ⟨p+2,0,none⟩)) (g5:E 5=.pointer (some ⟨p+3,0,none⟩)) {rs:List (List UInt8)} {F W:List Nat} {G:AHeap} {r:List UInt8}
  (hI:ParInv l p (lpP asg bod d) (rvOf 73 E) rs F W G) (hgo:∀ x∈rs,goP x=true) (hcap:rs.length<20010) (hok:G.base≤G.next) (hr:preP r) :
  CallY Tryz.prog l (encS r) G (ParR l p (lpP asg bod d) (rvOf 73 E) rs r F W G):=by
 obtain⟨hpl,hll,h0,⟨rs0,v,br,hall,hrs,rfl,rfl,hl,h1,h2,h3,hv,hvl,hvi⟩|⟨r',rs0,rfl,_,_,hr',_⟩⟩:=hI
 rotate_left
 ·have:=hgo r' (by simp)
  rw[hr']at this
  cases this
 rcases hrs with⟨rfl,rfl⟩|⟨rfl,rfl⟩
 rotate_left
 ·have:=hgo [] (by simp)
  cases this
 simp only[zB2,if_false]at hl
 have hrl:r.length≤20000:=hr
 obtain⟨x,hx⟩:∃ x,G.next=x:=⟨_,rfl⟩
 have hxb:G.base≤x:=hx▸hok
 obtain⟨vv,ev⟩:=hv.len
 refine callY_of (H:=ext G []) (N:=73) (E:=E) mixed hl rfl (zip_one (by decide)) ?_
 have hb2:Tryz.f12.body.bind rangeOf=some (_,_):=rfl
 cases hab.trans hb2
 simp (maxDischargeDepth:=6) only[hx,hxb,ruW,putL,Nat.reduceLeDiff,xF,ruU,entryE,Nat.reduceLT,Nat.reduceAdd,Nat.reduceMul,Nat.reduceEqDiff]
 clear hab hb2
 rw[asgC_normal]
 refine⟨_,_,(hl.of (ext_get_old hll)).get,rfl,?_⟩
 rw[ext_setLoop hll]
 generalize hG1:setLoop G l _ _=G1
 have mG1:Mod ((p+0)::(p+1)::(p+2)::(p+3)::l::idsV v) G G1:=hG1▸Mod.upd (by simp)
 have n1:G1.next=x:=by rw[←hG1,setLoop_next,hx]
 have xb1:G1.base≤x:=by rw[←hG1,setLoop_base]; exact hxb
 have c0:bk G1 (p+0)=_:=(hG1▸bk_setLoop (by omega):bk G1 (p+0)=bk G (p+0)).trans h0
 have c1:bk G1 (p+1)=_:=(hG1▸bk_setLoop (by omega):bk G1 (p+1)=bk G (p+1)).trans h1
 have c2:bk G1 (p+2)=_:=(hG1▸bk_setLoop (by omega):bk G1 (p+2)=bk G (p+2)).trans h2
 have c3:bk G1 (p+3)=_:=(hG1▸bk_setLoop (by omega):bk G1 (p+3)=bk G (p+3)).trans h3
 have hl1:LoopAt G1 l _ (rvOf 73 E):=hG1▸LoopAt.set l _ _
 have hv1:VsAt G1 5 1 v (bv (outP rs)) (outP rs).length:=hv.of (Nat.le_of_eq (by rw[n1,hx])) fun n hn=>hG1▸setLoop_get (hvi n hn).2
 have y0:p+0<x:=by omega
 have y1:p+1<x:=by omega
 have y2:p+2<x:=by omega
 have y3:p+3<x:=by omega
 have hnl:∀ n,n≤p+3→n∉idsV v:=fun n hn h=>by have:=hvi n h; omega
 have hll5:l∉idsV v:=fun h=>(hvi l h).2 rfl
 have hvl1:∀ n∈idsV v,n<x:=fun n hn=>hx▸(hv.ne n hn).2
 simp (maxDischargeDepth:=6) only[ruW,putL,Nat.reduceLeDiff,xF,ruU,entryE,Nat.reduceLT,Nat.reduceAdd,Nat.reduceMul,Nat.reduceEqDiff]
 refine (w_eqStr (a:=bs r) (b:=bs []) (by simp only[ruU,entryE,Nat.reduceLT,Nat.reduceAdd,Nat.reduceMul,Nat.reduceEqDiff]) (by simp only[ruU,entryE,Nat.reduceLT,Nat.reduceAdd,Nat.reduceMul,Nat.reduceEqDiff]) (by simp only[ruU,entryE,Nat.reduceLT,Nat.reduceAdd,Nat.reduceMul,Nat.reduceEqDiff]) (by simp only[ruU,entryE,Nat.reduceLT,Nat.reduceAdd,Nat.reduceMul,Nat.reduceEqDiff]<;>rfl) (by decide) eqb_none).mpr ?_
 rw[eqb_bs]
 by_cases hr0:r=[]
 ·rw[show decide (r=[])=true from decide_eq_true hr0]
  simp (maxDischargeDepth:=6) only[blockC_other (show (0:Nat)≠1 by decide),ruW,putL,Nat.reduceLeDiff,xF,ruU,entryE,Nat.reduceLT,Nat.reduceAdd,Nat.reduceMul,Nat.reduceEqDiff]
  rw[rndC_exit]
  have hgr:goP r=false:=by rw[hr0]; rfl
  refine⟨_,_,(hl1.of (G:=ext G1 []) rfl).get,by rw[hgr],parF p l v,parF p l v,?_⟩
  rw[ext_setLoop (by omega)]
  generalize hG2:setLoop G1 l _ _=G2
  have mG2:Mod (parF p l v) G1 G2:=hG2▸Mod.upd (by simp[parF])
  have n2:G2.next=x:=by rw[←hG2,setLoop_next,n1]
  have hl2:LoopAt G2 l _ (rvOf 73 E):=hG2▸LoopAt.set l _ _
  have kk:∀ n,n<l→bk G2 n=bk G1 n:=fun n hn=>hG2▸bk_setLoop (by omega)
  rw[ext_nil]
  refine⟨⟨hpl,by omega,(kk _ (by omega)).trans c0,.inl ⟨rs,v,true,hall,.inr ⟨rfl,by rw[hr0]⟩,rfl,rfl,?_,(kk _ (by omega)).trans c1,(kk _ (by omega)).trans c2,(kk _ (by omega)).trans c3,hv1.of (Nat.le_of_eq (by rw[n2,n1])) fun n hn=>hG2▸setLoop_get (hvi n hn).2,hvl,hvi⟩⟩,mG1.trans mG2,fun n hn=>.inl hn,fun n hn=>.inl hn⟩
  exact hl2
 rw[show decide (r=[])=false from decide_eq_false hr0]
 simp (maxDischargeDepth:=6) only[ruW,putL,Nat.reduceLeDiff,xF,ruU,entryE,Nat.reduceLT,Nat.reduceAdd,Nat.reduceMul,Nat.reduceEqDiff]
 refine (cutSuffix_c (ext G1 []) (bs r) ⟨#[10]⟩ (by rw[bs_size]; omega)).to ?_
 obtain⟨o,ho⟩:∃ o,ownR r=o:=⟨_,rfl⟩
 have hol:o.length≤20000:=by have:=own_len r; rw[ho]at this; omega
 obtain⟨q,hq⟩:∃ q,Go.Lib.hasSuffix r [10]=q:=⟨_,rfl⟩
 have e1:Go.Lib.hasSuffix (bs r).data.toList (⟨#[10]⟩:ByteArray).data.toList=q:=hq
 have e2:Go.Lib.trimSuffix (bs r).data.toList (⟨#[10]⟩:ByteArray).data.toList=o:=ho
 rw[e1,e2]
 have hd:decide ((1000000:Int)<(o.length:Int))=false:=decide_eq_false (by omega)
 cases q with
 |false =>
  simp (maxDischargeDepth:=6) only[rb_lenStr u9,bt_lenStr u9,bs_size,hd,ruW,putL,Nat.reduceLeDiff,xF,ruU,entryE,Nat.reduceLT,Nat.reduceAdd,Nat.reduceMul,Nat.reduceEqDiff]
  refine w_drawB [] [] (by kernel_rfl) (by kernel_rfl) rfl fun ops anc hA hG=>?_
  simp (maxDischargeDepth:=6) only[g2,g3,g4,g5,n1,c0,c1,c2,c3,y0,y1,y2,y3,qk_old,ruD,ruW,putL,Nat.reduceLeDiff,xF,ruU,entryE,Nat.reduceLT,Nat.reduceAdd,Nat.reduceMul,Nat.reduceEqDiff]
  exact par_ret hpl hll hok mG1 c0 c1 hl1 hall hr0 (by simp[goP,hq]) (by simp[errP,hq])
 |true =>
  simp (maxDischargeDepth:=6) only[rb_lenStr u9,bt_lenStr u9,bs_size,hd,ruW,putL,Nat.reduceLeDiff,xF,ruU,entryE,Nat.reduceLT,Nat.reduceAdd,Nat.reduceMul,Nat.reduceEqDiff]
  refine (parse_c (ext G1 []) o (by omega) (by rw[ext_nil,n1]; exact xb1)).mono ?_
  rintro _ X2 ⟨⟨av,rfl,hav,hai⟩,m2⟩
  rw[ext_next,zC4,zD0,n1]at hai
  have n2:=m2.next
  rw[ext_next,zC4,zD0,n1]at n2
  obtain⟨y,hy⟩:∃ y,X2.next=y:=⟨_,rfl⟩
  rw[hy]at n2
  have m2':Mod (parF p l v) G X2:=mG1.trans (m2.mono (by simp))
  have yb:X2.base≤y:=hy▸m2'.ok hok
  have c0':=(m2.bk (by rw[ext_nil,n1]; omega) (by simp)).trans c0
  have c1':=(m2.bk (by rw[ext_nil,n1]; omega) (by simp)).trans c1
  have c2':=(m2.bk (by rw[ext_nil,n1]; omega) (by simp)).trans c2
  have c3':=(m2.bk (by rw[ext_nil,n1]; omega) (by simp)).trans c3
  have hl2:LoopAt X2 l _ (rvOf 73 E):=hl1.of (m2.get l (by rw[ext_nil,n1]; omega) (by simp))
  have hv2:VsAt X2 5 1 v (bv (outP rs)) (outP rs).length:=hv1.of m2.next fun n hn=>m2.get n (by rw[ext_nil,n1]; exact hvl1 n hn) (by simp)
  clear c0 c1 c2 c3 hl1 hv1
  obtain⟨⟨⟨pos,op,args⟩,er⟩,hlr⟩:∃ z,lineR o=z:=⟨_,rfl⟩
  have hal:=line_len o
  rw[hlr]at hav hal
  simp only at hav hal
  have hsa:scb y av=true:=hy▸VsAt.sc hav
  obtain⟨aa,ea⟩:=hav.len
  have z0:p+0<y:=by omega
  have z1:p+1<y:=by omega
  have z2:p+2<y:=by omega
  have z3:p+3<y:=by omega
  have z4:p+3<y+1:=by omega
  have z5:p+2<y+1:=by omega
  have z6:p+0<y+1:=by omega
  have z7:p+1<y+1:=by omega
  have hsa':=hsa
  rw[ea]at hsa'
  rw[hlr,show X2=ext X2 [] from rfl,ea]
  obtain⟨d,hdd⟩:∃ d,decide (¬er=0)=d:=⟨_,rfl⟩
  cases d with
  |true =>
   have he:=of_decide_eq_true hdd
   simp (maxDischargeDepth:=6) only[hy,yb,hsa',hdd,ruW,putL,Nat.reduceLeDiff,xF,ruU,entryE,Nat.reduceLT,Nat.reduceAdd,Nat.reduceMul,Nat.reduceEqDiff]
   refine w_drawB [] [] (by kernel_rfl) (by kernel_rfl) rfl fun ops anc hA hG=>?_
   simp (maxDischargeDepth:=6) only[g2,g3,g4,g5,hy,c0',c1',c2',c3',z0,z1,z2,z3,z4,z5,z6,z7,qk_old,ruD,ruW,putL,Nat.reduceLeDiff,xF,ruU,entryE,Nat.reduceLT,Nat.reduceAdd,Nat.reduceMul,Nat.reduceEqDiff]
   exact par_ret hpl hll hok m2' c0' c1' hl2 hall hr0 (by simp[goP,hq,ho,hlr,he]) (by simp[errP,hq,ho,hlr])
  |false =>
   have he:=Decidable.of_not_not (of_decide_eq_false hdd)
   have hlb:=(line_back (b:=o) (by rw[hlr]; exact he)).1
   rw[hlr]at hlb
   obtain⟨q0,q1,q2,q3⟩:=encA_ok hlb
   simp only at q0 q1 q2 q3
   have hcv:∀ G:AHeap,aConvert Tryz.prog G 3 5 (.int .i64 op)=some (.int .u8 ((op.toNat.toUInt8).toNat:Int),G):=fun G=>by
    rw[cv_int (u:=.int .i64) (k:=.u8) (by kernel_rfl) (by kernel_rfl),byte_val q0 (by omega)]
   obtain⟨Y,hY⟩:∃ Y,ext X2 [⟨59,false,[.int .i64 0,.int .i64 op,.slice aa args.length args.length]⟩]=Y:=⟨_,rfl⟩
   have mY:Mod [] X2 Y:=hY▸Mod.ext (by omega)
   have nY:Y.next=y+1:=by rw[←hY,ext_next,hy]; rfl
   have yYb:Y.base≤y+1:=nY▸mY.ok (by omega)
   have kY:bk Y (y+0)=some ⟨59,false,[.int .i64 0,.int .i64 op,.slice aa args.length args.length]⟩:=by rw[←hY,bk_at hy (by simp)]; rfl
   have hvY:VsAt Y 5 1 v (bv (outP rs)) (outP rs).length:=hv2.of mY.next fun n hn=>mY.get n (hv2.ne n hn).2 (by simp)
   have hvb:(outP rs).length≤800500000:=by
    have:rs.length*40001≤20010*40001:=Nat.mul_le_mul_right _ (by omega)
    omega
   obtain⟨G3,k3,vG3,mG3,nG3⟩:=byte_app (X:=Y) (v:=v) (ws:=[op.toNat.toUInt8]) (x:=y+1) hvY nY (by omega) (by simp) (by simp only[zC0]; omega)
   have hAB:ext X2 [⟨59,false,[.int .i64 0,.int .i64 op,.slice aa args.length args.length]⟩,⟨5,false,bv [op.toNat.toUInt8]⟩]=ext Y [⟨5,false,bv [op.toNat.toUInt8]⟩]:=by rw[←hY,ext_append]; rfl
   rw[←hAB]at k3
   rw[ev]at k3 c2'
   replace k3:aBuiltin Tryz.prog (ext X2 [⟨59,false,[.int .i64 0,.int .i64 op,.slice aa args.length args.length]⟩,⟨5,false,[.int .u8 ((op.toNat.toUInt8).toNat:Int)]⟩]) .append ⟨[23,23]⟩ [.slice vv (outP rs).length (outP rs).length,.slice (some ⟨y+1,0,some 0⟩) 1 1]=some (.slice (some ⟨y+1+1,0,none⟩) ((outP rs).length+1) ((outP rs).length+1),ext G3 []):=k3
   have hnv:∀ n,n≤p+3→n∉idsV v:=hnl
   have c0G:=((mG3.bk (by omega) (hnv _ (by omega))).trans (mY.bk (by omega) (by simp))).trans c0'
   have c1G:=((mG3.bk (by omega) (hnv _ (by omega))).trans (mY.bk (by omega) (by simp))).trans c1'
   have c2G:=((mG3.bk (by omega) (hnv _ (by omega))).trans (mY.bk (by omega) (by simp))).trans c2'
   have c3G:=((mG3.bk (by omega) (hnv _ (by omega))).trans (mY.bk (by omega) (by simp))).trans c3'
   have kG:=(mG3.bk (by omega) (fun h=>by have:=hvl1 _ h; omega)).trans kY
   have hlG:LoopAt G3 l _ (rvOf 73 E):=hl2.of ((mG3.get l (by omega) hll5).trans (mY.get l (by omega) (by simp)))
   have haG:ArgA G3 av args:=hav.of (by omega) fun n hn=>(mG3.get n (by have:=(hav.ne n hn).2; omega) (fun h=>by have:=hvl1 _ h; have:=hai n hn; omega)).trans (mY.get n (hav.ne n hn).2 (by simp))
   have mG:Mod (parF p l v) G G3:=(m2'.trans (mY.mono (by simp))).trans (mG3.mono (by simp[parF]; intro a h; simp[h]))
   have w2:p+2<y+1+2:=by omega
   have wy:y+0<y+1+2:=by omega
   have wyb:G3.base≤y+1+2:=nG3▸mG.ok hok
   have hsv3:scb (y+1+2) (.slice (some ⟨y+1+1,0,none⟩) ((outP rs).length+1) ((outP rs).length+1))=true:=by simp[scb]
   have hyp2:¬y+0=p+2:=by omega
   simp (maxDischargeDepth:=6) only[hy,yb,hsa',hdd,g4,g5,z2,c2',hcv,w_convert,k3,nG3,c2G,w2,hsv3,uw_next,bk_uw_ne,hyp2,ne_eq,not_false_eq_true,wy,kG,ruW,putL,Nat.reduceLeDiff,xF,ruU,entryE,Nat.reduceLT,Nat.reduceAdd,Nat.reduceMul,Nat.reduceEqDiff]
   obtain⟨v6,hv6⟩:∃ v6,Value.slice (some ⟨y+1+1,0,none⟩) ((outP rs).length+1) ((outP rs).length+1)=v6:=⟨_,rfl⟩
   rw[hv6]
   have hv6i:∀ n∈idsV v6,y≤n:=fun n hn=>by rw[←hv6]at hn; simp only[idsV,zA7]at hn; omega
   rw[zC0,hv6]at vG3
   generalize hX6:uw G3 (p+2) 0 _=X6
   have m36:Mod [p+2] G3 X6:=hX6▸Mod.uw (by simp)
   have n6:X6.next=y+1+2:=by rw[←hX6,uw_next,nG3]
   have kp:∀ n,n<y+1+2→n≠p+2→X6.get n=G3.get n:=fun n h1 h2=>m36.get n (by omega) (by simpa using h2)
   have d0:=(bk_get (kp (p+0) (by omega) (by omega))).trans c0G
   have d1:=(bk_get (kp (p+1) (by omega) (by omega))).trans c1G
   have d2:bk X6 (p+2)=some ⟨23,false,[v6]⟩:=by rw[←hX6,bk_uw_eq,c2G]; rfl
   have d3:=(bk_get (kp (p+3) (by omega) (by omega))).trans c3G
   have hl6:LoopAt X6 l _ (rvOf 73 E):=hlG.of (kp l (by omega) (by omega))
   have ha6:ArgA X6 av args:=haG.of m36.next fun n hn=>kp n (by have:=(haG.ne n hn).2; omega) (by have:=hai n hn; omega)
   have hb6:VsAt X6 5 1 v6 (bv (outP rs++[op.toNat.toUInt8])) (outP rs++[op.toNat.toUInt8]).length:=vG3.of m36.next fun n hn=>kp n (by have:=(vG3.ne n hn).2; omega) (by have:=hv6i n hn; omega)
   have m6:Mod (parF p l v) G X6:=mG.trans (m36.mono (by simp[parF]))
   clear hX6 m36 kp c0G c1G c2G c3G kG hlG haG mG k3 vG3 mG3 nG3 hsv3 hv6 w2 wy wyb hyp2 hAB G3
   have hout:outP (rs++[r])=outP rs++[op.toNat.toUInt8]++args.flatMap aB:=by
    rw[outP,List.flatMap_append]
    simp only[zD4,List.flatMap_nil,zD5,ho,hlr]
    rw[encB_eq,outP]
    simp
   have hol2:(outP (rs++[r])).length≤(rs.length+1)*40001:=by
    have h1:(outP (rs++[r])).length=(outP rs).length+(1+2*args.length):=by
     rw[outP,List.flatMap_append,zB3]
     simp only[zD4,List.flatMap_nil,zD5,ho,hlr]
     rw[enc_len1]
     rfl
    rw[h1,Nat.succ_mul]
    omega
   have hobig:(outP (rs++[r])).length≤900000000:=by
    have:(rs.length+1)*40001≤20011*40001:=Nat.mul_le_mul_right _ (by omega)
    omega
   have hgr:goP r=true:=by simp[goP,hq,ho,hlr,he,hr0]
   generalize hLB:(⟨_,_,_,_,_,_,_,_⟩:Loop)=LB at hl6
   refine w_env fun E2 hE=>?_
   have h4:E2 4=.pointer (some ⟨p+2,0,none⟩):=by rw[hE]; simp only[g4,ruU,entryE,Nat.reduceLT,Nat.reduceAdd,Nat.reduceMul,Nat.reduceEqDiff]
   have h5:E2 5=.pointer (some ⟨p+3,0,none⟩):=by rw[hE]; simp only[g5,ruU,entryE,Nat.reduceLT,Nat.reduceAdd,Nat.reduceMul,Nat.reduceEqDiff]
   have h49:E2 49=.slice aa args.length args.length:=by rw[hE]; simp only[ruU,entryE,Nat.reduceLT,Nat.reduceAdd,Nat.reduceMul,Nat.reduceEqDiff]
   have h50:E2 50=.int .i64 (args.length:Int):=by rw[hE]; simp only[ruU,entryE,Nat.reduceLT,Nat.reduceAdd,Nat.reduceMul,Nat.reduceEqDiff]
   have h51:E2 51=.int .i64 ((0:Nat):Int):=by rw[hE]; (simp only[ruU,entryE,Nat.reduceLT,Nat.reduceAdd,Nat.reduceMul,Nat.reduceEqDiff]<;>rfl)
   clear hE
   rw[ext_nil]
   refine w_loop (fun (z:Nat × List UInt8 × Value) E' X'=>Mod (parF p l v) G X'∧bk X' (p+0)=some ⟨23,false,[.slice none 0 0]⟩∧bk X' (p+1)=some ⟨26,false,[.int .i64 0,.int .i64 0]⟩∧bk X' (p+2)=some ⟨23,false,[z.2.2]⟩∧bk X' (p+3)=some ⟨3,false,[.int .i64 (rs.length:Int)]⟩∧LoopAt X' l LB (rvOf 73 E)∧ArgA X' av args∧VsAt X' 5 1 z.2.2 (bv z.2.1) z.2.1.length∧(∀ n∈idsV z.2.2,x≤n∧n∉idsV av)∧z.2.1++(args.drop z.1).flatMap aB=outP (rs++[r])∧z.1≤args.length∧x≤X'.next∧E' 4=.pointer (some ⟨p+2,0,none⟩)∧E' 5=.pointer (some ⟨p+3,0,none⟩)∧E' 49=.slice aa args.length args.length∧E' 50=.int .i64 (args.length:Int)∧E' 51=.int .i64 (z.1:Int)) (fun z=>args.length-z.1) (0,outP rs++[op.toNat.toUInt8],v6)
    ⟨m6,d0,d1,d2,d3,hl6,ha6,hb6,fun n hn=>⟨by have:=hv6i n hn; omega,fun h=>by have:=hv6i n hn; have:=(hav.ne n h).2; omega⟩,hout.symm,zB4 _,by omega,h4,h5,h49,h50,h51⟩ ?_
   clear h4 h5 h49 h50 h51 m6 d0 d1 d2 d3 hl6 ha6 hb6 hv6i n6 X6 v6 E2
   rintro⟨j,o2,v2⟩ E2 X7 ⟨m7,d0,d1,d2,d3,hl7,ha7,hb7,hi7,htj,hj,nx7,g4',g5',g49,g50,g51⟩
   simp only at d2 hb7 hi7 htj hj g51
   obtain⟨u,hu⟩:∃ u,X7.next=u:=⟨_,rfl⟩
   have hub:X7.base≤u:=hu▸m7.ok hok
   rw[hu]at nx7
   have hu2:p+2<u:=by omega
   have hu3:p+3<u:=by omega
   obtain⟨va2,ev2⟩:=hb7.len
   rw[show X7=ext X7 [] from rfl]
   by_cases hje:j=args.length
   ·have hdj:decide ((j:Int)<(args.length:Int))=false:=decide_eq_false (by omega)
    have hw:IntKind.i64.wrap ((rs.length:Int)+1)=((rs.length+1:Nat):Int):=wrap_succ (by omega)
    simp (maxDischargeDepth:=6) only[g4',g5',g49,g50,g51,hdj,hu,hu3,d3,hw,ruW,putL,Nat.reduceLeDiff,xF,ruU,entryE,Nat.reduceLT,Nat.reduceAdd,Nat.reduceMul,Nat.reduceEqDiff]
    rw[rndC_normal]
    rw[hje,List.drop_length,List.flatMap_nil,zD5]at htj
    rw[htj]at hb7
    generalize hX8:uw X7 (p+3) 0 _=X8
    have m8:Mod [p+3] X7 X8:=hX8▸Mod.uw (by simp)
    have n8:X8.next=u:=by rw[←hX8,uw_next,hu]
    have kp:∀ n,n≠p+3→X8.get n=X7.get n:=fun n h=>hX8▸uw_get h
    have f3:bk X8 (p+3)=some ⟨3,false,[.int .i64 ((rs.length+1:Nat):Int)]⟩:=by rw[←hX8,bk_uw_eq,d3]; rfl
    have hl8:LoopAt X8 l LB (rvOf 73 E):=hl7.of (kp l (by omega))
    refine⟨_,_,(hl8.of (G:=ext X8 []) rfl).get,by rw[hgr],parF p l v2,parF p l v2,?_⟩
    rw[ext_setLoop (by omega)]
    generalize hX9:setLoop X8 l _ _=X9
    have n9:X9.next=u:=by rw[←hX9,setLoop_next,n8]
    have kk:∀ n,n≠l→X9.get n=X8.get n:=fun n hn=>hX9▸setLoop_get hn
    have hl9:=(hX9▸LoopAt.set l _ _:LoopAt X9 l {LB with state:=.ready,pending:=none} (rvOf 73 E))
    subst hLB
    have m9:Mod [l] X8 X9:=hX9▸Mod.upd (by simp)
    have mA:Mod (parF p l v) G X9:=(m7.trans (m8.mono (by simp[parF]))).trans (m9.mono (by simp[parF]))
    rw[ext_nil]
    refine⟨⟨hpl,by omega,(bk_get ((kk _ (by omega)).trans (kp _ (by omega)))).trans d0,.inl ⟨rs++[r],v2,false,?_,.inl ⟨rfl,rfl⟩,rfl,rfl,hl9,(bk_get ((kk _ (by omega)).trans (kp _ (by omega)))).trans d1,(bk_get ((kk _ (by omega)).trans (kp _ (by omega)))).trans d2,(bk_get (kk _ (by omega))).trans (by rw[f3,zB3]; rfl),?_,by rw[zB3]; exact hol2,fun n hn=>by have:=(hi7 n hn).1; omega⟩⟩,mA,fun n hn=>?_,fun n hn=>?_⟩
    ·rw[List.all_append,hall]
     simp[hgr]
    ·exact hb7.of (by omega) fun n hn=>(kk n (by have:=(hi7 n hn).1; omega)).trans (kp n (by have:=(hi7 n hn).1; omega))
    all_goals
     simp only[parF,zB1]at hn ⊢
     rcases hn with h|h|h|h|h|h
     ·exact .inl (.inl h)
     ·exact .inl (.inr (.inl h))
     ·exact .inl (.inr (.inr (.inl h)))
     ·exact .inl (.inr (.inr (.inr (.inl h))))
     ·exact .inl (.inr (.inr (.inr (.inr (.inl h)))))
     ·exact .inr (by have:=(hi7 n h).1; omega)
   ·have hjl:j<args.length:=by omega
    have hdj:decide ((j:Int)<(args.length:Int))=true:=decide_eq_true (by omega)
    have hrd:=ha7.rd
    rw[ea]at hrd
    obtain⟨n',off',s',c',e',o',M',e3,n3,r3,m3⟩:=hrd.one hjl
    cases e3
    rw[iv_get,zB0 hjl,zA5]at m3
    have i3:=ia_of (P:=Tryz.prog) (k:=.i64) (i:=j) (n:=n') (off:=off') (len:=args.length) (cap:=args.length) (s:=s') u35 s3 hjl
    rw[zD3]at i3
    rw[hu]at n3
    obtain⟨ya,hya⟩:∃ ya,args[j]=ya:=⟨_,rfl⟩
    rw[hya]at m3
    obtain⟨y0',y1'⟩:=q3 ya (hya▸List.getElem_mem hjl)
    have hw:IntKind.i64.wrap ((j:Int)+1)=((j+1:Nat):Int):=wrap_succ (by omega)
    have cv1:∀ G:AHeap,aConvert Tryz.prog G 3 5 (.int .i64 ya)=some (.int .u8 ((ya.toNat.toUInt8).toNat:Int),G):=fun G=>by
     rw[cv_int (u:=.int .i64) (k:=.u8) (by kernel_rfl) (by kernel_rfl),byte_val y0' y1']
    have cv2:∀ G:AHeap,aConvert Tryz.prog G 3 5 (.int .i64 (bShr .i64 ya 8))=some (.int .u8 (((ya.toNat / 256).toUInt8).toNat:Int),G):=fun G=>by
     rw[shr8 y0' y1',cv_int (u:=.int .i64) (k:=.u8) (by kernel_rfl) (by kernel_rfl),byte_val (by omega) (by omega),zC1]
    have hdr:args.drop j=ya::args.drop (j+1):=by rw[List.drop_eq_getElem_cons hjl,hya]
    rw[hdr,zD4,←List.append_assoc]at htj
    have hlen2:=congrArg List.length htj
    simp only[zB3,aB,zA9,zC4]at hlen2
    obtain⟨G8,k1,vG,mG,nG⟩:=byte_app (X:=X7) (v:=v2) (ws:=[ya.toNat.toUInt8,(ya.toNat / 256).toUInt8]) (x:=u) hb7 hu (by rw[hu]; exact hub) (by simp) (by simp only[zA9,zC4]; omega)
    have hs8:bitV .shr (.int .i64 ya) (.int .u64 8)=some (.int .i64 (bShr .i64 ya 8)):=bit_shr (by decide)
    have hn2:∀ n,n≤p+3→n∉idsV v2:=fun n hn h=>by have:=(hi7 n h).1; omega
    have f0:=(mG.bk (by omega) (hn2 _ (by omega))).trans d0
    have f1:=(mG.bk (by omega) (hn2 _ (by omega))).trans d1
    have f2:=(mG.bk (by omega) (hn2 _ (by omega))).trans d2
    have f3:=(mG.bk (by omega) (hn2 _ (by omega))).trans d3
    have f2':=f2
    rw[ev2]at k1 d2 f2'
    replace k1:aBuiltin Tryz.prog (ext X7 [⟨5,false,[.int .u8 ((ya.toNat.toUInt8).toNat:Int),.int .u8 (((ya.toNat / 256).toUInt8).toNat:Int)]⟩]) .append ⟨[23,23]⟩ [.slice va2 o2.length o2.length,.slice (some ⟨u+0,0,some 0⟩) 2 2]=some (.slice (some ⟨u+1,0,none⟩) (o2.length+2) (o2.length+2),ext G8 []):=k1
    have hu22:p+2<u+2:=by omega
    have hsu:scb (u+2) (.slice (some ⟨u+1,0,none⟩) (o2.length+2) (o2.length+2))=true:=by simp[scb]
    have hub2:G8.base≤u+2:=by have:=mG.ok (by rw[hu]; exact hub); rw[nG]at this; exact this
    simp (maxDischargeDepth:=6) only[g4',g5',g49,g50,g51,hdj,hu,hub,hu2,hu3,i3,n3,r3,m3,d2,hs8,w_shr,Option.isSome_some,cv1,cv2,w_convert,k1,hw,nG,f2',hu22,hsu,qk_old,ruW,putL,Nat.reduceLeDiff,xF,ruU,entryE,Nat.reduceLT,Nat.reduceAdd,Nat.reduceMul,Nat.reduceEqDiff]
    have hol3:(o2++[ya.toNat.toUInt8,(ya.toNat / 256).toUInt8]).length=o2.length+2:=by simp
    have mm:Mod (parF p l v) G (uw G8 (p+2) 0 [.slice (some ⟨u+1,0,none⟩) (o2.length+2) (o2.length+2)]):=(m7.step mG hok fun n hn=>.inr (by have:=(hi7 n hn).1; omega)).trans (Mod.uw (by simp[parF]))
    refine loopC_next ⟨(j+1,o2++[ya.toNat.toUInt8,(ya.toNat / 256).toUInt8],.slice (some ⟨u+1,0,none⟩) (o2.length+2) (o2.length+2)),by simp only; omega,mm,(bk_uw_ne (by omega)).trans f0,(bk_uw_ne (by omega)).trans f1,?_,(bk_uw_ne (by omega)).trans f3,hl7.of ((uw_get (by omega)).trans (mG.get l (by omega) (fun h=>by have:=(hi7 l h).1; omega))),?_,?_,fun n hn=>by simp only[idsV,zA7]at hn; exact⟨by omega,fun h=>by have:=(ha7.ne n h).2; omega⟩,htj,by simp only; omega,by rw[ext_nil,uw_next,nG]; omega,?_,?_,?_,?_,?_⟩
    ·rw[ext_nil,bk_uw_eq,f2]; rfl
    ·exact ha7.of (by rw[ext_nil,uw_next,nG]; omega) fun n hn=>(uw_get (by have:=hai n hn; omega)).trans (mG.get n (ha7.ne n hn).2 (fun h=>(hi7 n h).2 hn))
    ·have hz:VsAt (uw G8 (p+2) 0 [.slice (some ⟨u+1,0,none⟩) (o2.length+2) (o2.length+2)]) 5 1 (.slice (some ⟨u+1,0,none⟩) (o2.length+2) (o2.length+2)) (bv (o2++[ya.toNat.toUInt8,(ya.toNat / 256).toUInt8])) (o2++[ya.toNat.toUInt8,(ya.toNat / 256).toUInt8]).length:=VsAt.of vG (by rw[uw_next]; exact zA8 _) fun q hq=>uw_get (by simp only[idsV,zA7,zA9,zC4]at hq; omega)
     exact hz
    all_goals simp only[g4',g5',g49,g50,ruU,entryE,Nat.reduceLT,Nat.reduceAdd,Nat.reduceMul,Nat.reduceEqDiff]
set_option maxRecDepth 100000
def yPar {asg bod:Code} (hab:some (asg,bod)=Tryz.f12.body.bind rangeOf) {l p d:Nat} {E:Env} (g2:E 2=.pointer (some ⟨p+0,0,none⟩)) (g3:E 3=.pointer (some ⟨p+1,0,none⟩)) (g4:E 4=.pointer (some ⟨p+2,0,none⟩)) (g5:E 5=.pointer (some ⟨p+3,0,none⟩)):YldP Tryz.prog l (List UInt8) encS goP 20010 preP where
 Inv:=ParInv l p (lpP asg bod d) (rvOf 73 E)
 sub:=by
  rintro rs F W G ⟨_,_,_,⟨_,v,_,_,_,rfl,rfl,_⟩|⟨r,rs0,rfl,_,_,_,rfl,rfl,_⟩⟩ n hn<;>exact hn
 dom:=by
  rintro rs F W G ⟨hpl,hll,h0,⟨rs0,v,br,_,_,rfl,rfl,⟨o,hl⟩,h1,h2,h3,hv,_,_⟩|⟨r,rs0,rfl,_,_,_,rfl,rfl,⟨o,hl⟩,h1⟩⟩ n hn
  ·simp only[zB1]at hn
   rcases hn with rfl|rfl|rfl|rfl|rfl|hn
   ·exact⟨bk_ne h0,by omega⟩
   ·exact⟨bk_ne h1,by omega⟩
   ·exact⟨bk_ne h2,by omega⟩
   ·exact⟨bk_ne h3,by omega⟩
   ·exact⟨by rw[hl]; simp,hll⟩
   ·exact hv.ne n hn
  ·simp only[zB1,List.not_mem_nil,or_false]at hn
   rcases hn with rfl|rfl|rfl
   ·exact⟨bk_ne h0,by omega⟩
   ·exact⟨bk_ne h1,by omega⟩
   ·exact⟨by rw[hl]; simp,hll⟩
 loc:=by
  rintro rs F W G G' ⟨hpl,hll,h0,⟨rs0,v,br,hall,hrs,rfl,rfl,hl,h1,h2,h3,hv,hvl,hvi⟩|⟨r,rs0,rfl,hall,hne,hr,rfl,rfl,hl,h1⟩⟩ hn hg
  ·exact⟨hpl,by omega,(bk_get (hg _ (by simp))).trans h0,.inl ⟨rs0,v,br,hall,hrs,rfl,rfl,hl.of (hg _ (by simp)),(bk_get (hg _ (by simp))).trans h1,(bk_get (hg _ (by simp))).trans h2,(bk_get (hg _ (by simp))).trans h3,hv.of hn fun n hn'=>hg n (by simp[hn']),hvl,hvi⟩⟩
  ·exact⟨hpl,by omega,(bk_get (hg _ (by simp))).trans h0,.inr ⟨r,rs0,rfl,hall,hne,hr,rfl,rfl,hl.of (hg _ (by simp)),(bk_get (hg _ (by simp))).trans h1⟩⟩
 step:=fun hI hgo hcap hok hp=>par_step hab g2 g3 g4 g5 hI hgo hcap hok hp
theorem go_nil:goP []=false:=rfl
theorem parse_go {l:List UInt8} {r:List (List UInt8)} {k:Nat} {out:List UInt8} (h:goP l=true):parseR (l::r) k out=parseR r (k+1) (out++encB (lineR (ownR l)).1):=by
 simp only[goP,zA4,Bool.not_eq_true',decide_eq_false_iff_not,decide_eq_true_eq]at h
 rw[parseR,if_neg h.1.1,if_neg (by rw[h.1.2]; simp),if_neg (by rw[h.2]; simp)]
theorem parse_bad {l:List UInt8} {r:List (List UInt8)} {k:Nat} {out:List UInt8} (h0:l≠[]) (h:goP l=false):parseR (l::r) k out=([],errP l,k):=by
 rw[parseR,if_neg h0,errP]
 by_cases h1:Go.Lib.hasSuffix l [10]=false
 ·rw[if_pos h1,if_pos h1]
 ·rw[if_neg h1,if_neg h1]
  have h1':Go.Lib.hasSuffix l [10]=true:=by cases hh:Go.Lib.hasSuffix l [10]<;>simp_all
  have:(lineR (ownR l)).2≠0:=fun e=>by
   rw[goP,decide_eq_false h0,h1',e]at h
   cases h
  rw[if_pos this]
theorem err_ne {l:List UInt8} (h0:l≠[]) (h:goP l=false):errP l≠0:=by
 rw[errP]
 by_cases h1:Go.Lib.hasSuffix l [10]=false
 ·rw[if_pos h1]; decide
 ·rw[if_neg h1]
  have h1':Go.Lib.hasSuffix l [10]=true:=by cases hh:Go.Lib.hasSuffix l [10]<;>simp_all
  exact fun e=>by
   rw[goP,decide_eq_false h0,h1',e]at h
   cases h
theorem parse_of:∀ {ls:List (List UInt8)} {k:Nat} {out:List UInt8} {rs0 t:List (List UInt8)},upto goP ls=rs0++t→rs0.all goP=true→((t=[]∨t=[[]])→parseR ls k out=(out++outP rs0,0,k+rs0.length))∧(∀ r,t=[r]→r≠[]→goP r=false→parseR ls k out=([],errP r,k+rs0.length))
 |[],k,out,rs0,t,h,_=>by
  have h1:rs0=[]∧t=[]:=by simpa[upto]using h
  obtain⟨rfl,rfl⟩:=h1
  exact⟨fun _=>by simp[parseR,outP],fun r h=>by simp at h⟩
 |l::r,k,out,rs0,t,h,hall=>by
  rw[upto]at h
  by_cases hg:goP l=true
  ·rw[if_pos hg]at h
   cases rs0 with
   |nil =>
    rw[zC5]at h
    refine⟨?_,fun r' e _ hb=>?_⟩
    ·rintro (rfl|rfl)
     ·cases h
     ·simp only[List.cons.injEq]at h
      rw[h.1,go_nil]at hg
      cases hg
    ·rw[e]at h
     simp only[List.cons.injEq]at h
     rw[h.1,hb]at hg
     cases hg
   |cons q rs0 =>
    simp only[List.cons_append,List.cons.injEq]at h
    obtain⟨rfl,h⟩:=h
    simp only[List.all_cons,zA4]at hall
    obtain⟨i1,i2⟩:=parse_of (k:=k+1) (out:=out++encB (lineR (ownR l)).1) h hall.2
    rw[parse_go hg]
    refine⟨fun ht=>?_,fun r' e hne hb=>?_⟩
    ·rw[i1 ht,zA9,outP,outP,zD4,List.append_assoc]
     congr 2
     omega
    ·rw[i2 r' e hne hb,zA9]
     congr 2
     omega
  ·rw[if_neg hg]at h
   have hgf:goP l=false:=by simpa using hg
   cases rs0 with
   |nil =>
    rw[zC5]at h
    refine⟨?_,fun r' e hne hb=>?_⟩
    ·rintro (rfl|rfl)
     ·cases h
     ·cases h
      simp[parseR,outP]
    ·rw[e]at h
     cases h
     rw[parse_bad hne hgf]
     rfl
   |cons q rs0 =>
    simp only[List.cons_append,List.cons.injEq]at h
    obtain⟨rfl,h⟩:=h
    simp only[List.all_cons,zA4]at hall
    rw[hgf]at hall
    exact absurd hall.1 (by simp)
def ParOut (b:Nat) (s:List UInt8) (out:Out) (X:AHeap):Prop :=
 ((parsedR s).2.1≠0∧out=.ok (.tuple #[.slice none 0 0,fltV (parsedR s).2.1 ((parsedR s).2.2:Int)])) ∨
 ((parsedR s).2.1=0∧∃ v,out=.ok (.tuple #[v,fltV 0 0])∧VsAt X 5 1 v (bv (parsedR s).1) (parsedR s).1.length∧∀ n∈idsV v,b≤n)
theorem parsed_c (H:AHeap) (s:List UInt8) (hs:s.length≤20000) (hok:H.base≤H.next):CallA Tryz.prog 12 [.string (bs s)] H (fun out X=>ParOut H.next s out X∧Mod [] H X):=by
 obtain⟨b,hb⟩:∃ b,H.next=b:=⟨_,rfl⟩
 have hbase:H.base≤b:=hb▸hok
 refine callE_fn mixed Tryz.func12 rfl Tryz.ntmps12 (zB8 rfl) ?_
 simp (maxDischargeDepth:=6) only[hb,hbase,ruW,putL,Nat.reduceLeDiff,xF,ruU,entryE,Nat.reduceLT,Nat.reduceAdd,Nat.reduceMul,Nat.reduceEqDiff]
 refine (splitSeq_c (ext H _) (bs s) ⟨#[10]⟩).to ?_
 simp (maxDischargeDepth:=6) only[hb,hbase,ext_next,zA9,zC4,ruW,putL,Nat.reduceLeDiff,xF,ruU,entryE,Nat.reduceLT,Nat.reduceAdd,Nat.reduceMul,Nat.reduceEqDiff]
 refine w_env fun E hE=>?_
 have g2:E 2=.pointer (some ⟨b+0,0,none⟩):=by rw[hE]; simp only[ruU,entryE,Nat.reduceLT,Nat.reduceAdd,Nat.reduceMul,Nat.reduceEqDiff]
 have g3:E 3=.pointer (some ⟨b+1,0,none⟩):=by rw[hE]; simp only[ruU,entryE,Nat.reduceLT,Nat.reduceAdd,Nat.reduceMul,Nat.reduceEqDiff]
 have g4:E 4=.pointer (some ⟨b+2,0,none⟩):=by rw[hE]; simp only[ruU,entryE,Nat.reduceLT,Nat.reduceAdd,Nat.reduceMul,Nat.reduceEqDiff]
 have g5:E 5=.pointer (some ⟨b+3,0,none⟩):=by rw[hE]; simp only[ruU,entryE,Nat.reduceLT,Nat.reduceAdd,Nat.reduceMul,Nat.reduceEqDiff]
 have g14:E 14=.func (.func 91) ⟨[]⟩ ⟨[.pointer (some ⟨b+5,0,none⟩),.pointer (some ⟨b+4,0,none⟩),.pointer (some ⟨b+6,0,none⟩)]⟩:=by rw[hE]; simp only[ruU,entryE,Nat.reduceLT,Nat.reduceAdd,Nat.reduceMul,Nat.reduceEqDiff]
 clear hE
 generalize hX:ext H _=X
 have mX:Mod [] H X:=hX▸Mod.ext hok
 have nX:X.next=b+7:=by rw[←hX,ext_next,hb]; rfl
 have x0:bk X (b+0)=some ⟨23,false,[.slice none 0 0]⟩:=by rw[←hX,bk_at hb (by simp)]; rfl
 have x1:bk X (b+1)=some ⟨26,false,[.int .i64 0,.int .i64 0]⟩:=by rw[←hX,bk_at hb (by simp)]; rfl
 have x2:bk X (b+2)=some ⟨23,false,[.slice none 0 0]⟩:=by rw[←hX,bk_at hb (by simp)]; rfl
 have x3:bk X (b+3)=some ⟨3,false,[.int .i64 0]⟩:=by rw[←hX,bk_at hb (by simp)]; rfl
 have x4:bk X (b+4)=some ⟨9,false,[.string (bs s)]⟩:=by rw[←hX,bk_at hb (by simp)]; rfl
 have x5:bk X (b+5)=some ⟨9,false,[.string (bs [10])]⟩:=by rw[←hX,bk_at hb (by simp)]; rfl
 have x6:bk X (b+6)=some ⟨3,false,[.int .i64 1]⟩:=by rw[←hX,bk_at hb (by simp)]; rfl
 refine w_rangeK (f:=91) (ca:=[.pointer (some ⟨b+5,0,none⟩),.pointer (some ⟨b+4,0,none⟩),.pointer (some ⟨b+6,0,none⟩)]) (mX.ok hok) (by decide) g14 (by kernel_rfl) fun K hlp hdf mK hbK=>?_
 replace mK:=mK []
 rw[nX]at hlp hdf hbK ⊢
 have mHK:=mX.trans mK
 have kk:∀ n,n<b+7→bk K n=bk X n:=fun n hn=>mK.bk (by omega) (by simp)
 have hI:(yPar (l:=b+7+1) (p:=b) (d:=b+7) rfl g2 g3 g4 g5).Inv [] (parF b (b+7+1) (.slice none 0 0)) (parF b (b+7+1) (.slice none 0 0)) K :=
  ⟨by omega,by omega,(kk _ (by omega)).trans x0,.inl ⟨[],.slice none 0 0,false,rfl,.inl ⟨rfl,rfl⟩,rfl,rfl,hlp,(kk _ (by omega)).trans x1,(kk _ (by omega)).trans x2,(kk _ (by omega)).trans x3,VsAt.nil,by simp[outP],fun n hn=>by simp[idsV]at hn⟩⟩
 have hll:=lines_len s
 have hpre:∀ x∈linesR s,preP x:=fun x hx=>by
  have h1:=lines_flat s
  have h2:x.length≤(linesR s).flatten.length:=by
   clear h1 hll
   generalize linesR s=L at hx ⊢
   induction L with
   |nil=>simp at hx
   |cons y r ih =>
    rw[List.flatten_cons,zB3]
    rcases zB1.1 hx with rfl|hx
    ·omega
    ·have:=ih hx; omega
  rw[h1]at h2
  exact zD1 h2 hs
 refine (lines_c _ K (b+5) (b+4) (b+6) s _ _ hI (mHK.ok hok) hpre (by omega) (by omega) ((kk _ (by omega)).trans x5) ((kk _ (by omega)).trans x4) ((kk _ (by omega)).trans x6) (by omega) (by omega) (by omega) (by simp[parF,idsV]) (by simp[parF,idsV]) (by simp[parF,idsV]) (by omega) (by omega)).mono ?_
 rintro _ K1 ⟨rfl,F1,W1,hI1,m1⟩
 obtain⟨_,hll1,i0,hI1⟩:=hI1
 have hdK1:K1.get (b+7)=K.get (b+7):=m1.get (b+7) (by omega) (by simp[parF,idsV])
 have okK1:=m1.ok (mHK.ok hok)
 have nK1:=m1.next
 have mHK1:Mod [] H K1:=mHK.step m1 hok fun n hn=>by
  simp only[parF,idsV,zB1,List.not_mem_nil,or_false]at hn
  right; omega
 rcases hI1 with⟨rs0,v,br,hall,hrs,rfl,rfl,hl1,i1,i2,i3,hv,hvl,hvi⟩|⟨r,rs0,hrs,hall,hne,hr,rfl,rfl,hl1,i1⟩
 ·have hpr:parseR (linesR s) 0 []=(outP rs0,0,rs0.length):=by
   have:=(parse_of (ls:=linesR s) (k:=0) (out:=[]) (rs0:=rs0) (t:=if br then [[]] else []) (by rcases hrs with⟨rfl,h⟩|⟨rfl,h⟩<;>rw[h]<;>simp) hall).1 (by cases br<;>simp)
   simpa using this
  obtain⟨va,ev⟩:=hv.len
  have hbr:∃ lp,LoopAt K1 (b+7+1) lp (rvOf 73 E)∧lp.state≠.busy∧(pendE lp.pending=some .normal∨pendE lp.pending=some (.exit 0)):=by
   cases br with
   |true=>exact⟨_,hl1,by simp,.inr rfl⟩
   |false=>exact⟨_,hl1,by simp[lpP],.inl rfl⟩
  clear hl1
  obtain⟨lp,hl1,hst,hpe⟩:=hbr
  obtain⟨d,hd2⟩:∃ d,decide ((60000:Int)<((outP rs0).length:Int))=d:=⟨_,rfl⟩
  have hvd:∀ n∈idsV v,n≠b+7:=fun n hn e=>by
   have hbd:bk K1 (b+7)=none:=by
    unfold bk cellsAt
    rw[hdK1.trans hdf]
    rfl
   obtain⟨_,_,⟨_,rfl⟩|⟨_,n',rfl,hb',_⟩⟩:=hv
   ·simp[idsV]at hn
   ·simp only[idsV,zA7]at hn
    rw[←hn,e,hbd]at hb'
    cases hb'
  rcases hpe with hpe|hpe
  all_goals
   refine⟨_,_,_,hl1.get,hst,hpe,?_⟩
   generalize hK2:setLoop K1 (b+7+1) _ _=K2
   have nK2:K2.next=K1.next:=hK2▸rfl
   have j0:bk K2 (b+0)=_:=(hK2▸bk_setLoop (by omega):bk K2 (b+0)=bk K1 (b+0)).trans i0
   have j1:bk K2 (b+1)=_:=(hK2▸bk_setLoop (by omega):bk K2 (b+1)=bk K1 (b+1)).trans i1
   have j2:bk K2 (b+2)=_:=(hK2▸bk_setLoop (by omega):bk K2 (b+2)=bk K1 (b+2)).trans i2
   have j3:bk K2 (b+3)=_:=(hK2▸bk_setLoop (by omega):bk K2 (b+3)=bk K1 (b+3)).trans i3
   have hdK2:K2.get (b+7)=K1.get (b+7):=hK2▸setLoop_get (by omega)
   have mK2:Mod [b+7+1] K1 K2:=hK2▸Mod.upd (by simp)
   have hv2:VsAt K2 5 1 v (bv (outP rs0)) (outP rs0).length:=hv.of mK2.next fun n hn=>mK2.get n (hv.ne n hn).2 (by have:=hvi n hn; simp; omega)
   have l0:b+0<K1.next:=by omega
   have l1:b+1<K1.next:=by omega
   have l2:b+2<K1.next:=by omega
   have l3:b+3<K1.next:=by omega
   have b2:K2.base≤K1.next:=by have:=mK2.ok okK1; rw[nK2]at this; exact this
   have d10:¬b+1=b+0:=by omega
   have hsv:scb K1.next v=true:=VsAt.sc hv
   rw[show K2=ext K2 [] from rfl]
   rw[ev]at j2 hsv
   cases d with
   |true =>
    simp (maxDischargeDepth:=6) only[g2,g3,g4,g5,nK2,j0,j1,j2,j3,l0,l1,l2,l3,b2,d10,hsv,hd2,uw_next,bk_uw_ne,ne_eq,not_false_eq_true,ruW,putL,Nat.reduceLeDiff,xF,ruU,entryE,Nat.reduceLT,Nat.reduceAdd,Nat.reduceMul,Nat.reduceEqDiff]
    refine w_drawB [] [] (by kernel_rfl) (by kernel_rfl) rfl fun ops anc hA hG=>?_
    simp (maxDischargeDepth:=6) only[g2,g3,g4,g5,nK2,j0,j1,j2,j3,l0,l1,l2,l3,qk_old,ruD,ruW,putL,Nat.reduceLeDiff,xF,ruU,entryE,Nat.reduceLT,Nat.reduceAdd,Nat.reduceMul,Nat.reduceEqDiff]
    generalize hK3:uw K2 (b+0) 0 _=K3
    have mK3:Mod [b+0,b+1] K2 K3:=hK3▸Mod.uw (by simp)
    have nK3:K3.next=K1.next:=by rw[←hK3,uw_next,nK2]
    have k0:bk K3 (b+0)=some ⟨23,false,[.slice none 0 0]⟩:=by rw[←hK3,bk_uw_eq,j0]; rfl
    have k1:bk K3 (b+1)=some ⟨26,false,[.int .i64 0,.int .i64 0]⟩:=by rw[←hK3,bk_uw_ne (by omega),j1]
    generalize hK4:uw K3 (b+1) 0 _=K4
    have mK4:Mod [b+0,b+1] K3 K4:=hK4▸Mod.uw (by simp)
    have nK4:K4.next=K1.next:=by rw[←hK4,uw_next,nK3]
    have p0:bk K4 (b+0)=some ⟨23,false,[.slice none 0 0]⟩:=by rw[←hK4,bk_uw_ne (by omega),k0]
    have p1:bk K4 (b+1)=some ⟨26,false,[.int .i64 4,.int .i64 (rs0.length:Int)]⟩:=by rw[←hK4,bk_uw_eq,k1]; rfl
    have hdK4:K4.get (b+7)=K2.get (b+7):=((hK4▸uw_get (by omega)):K4.get (b+7)=K3.get (b+7)).trans (hK3▸uw_get (by omega))
    refine lv_mark ⟨_,_,hdK4.trans (hdK2.trans (hdK1.trans hdf))⟩ ?_
    rw[ext_nil]
    generalize hK5:K4.upd (b+7) _=K5
    have mK5:Mod [b+7] K4 K5:=hK5▸Mod.upd (by simp)
    have nK5:K5.next=K1.next:=(hK5▸rfl:K5.next=K4.next).trans nK4
    have r0:bk K5 (b+0)=_:=(bk_get (by rw[←hK5,AHeap.get_upd,if_neg (by omega)])).trans p0
    have r1:bk K5 (b+1)=_:=(bk_get (by rw[←hK5,AHeap.get_upd,if_neg (by omega)])).trans p1
    have mE:Mod [b+0,b+1,b+7,b+7+1] K1 K5:=(((mK2.mono (by simp)).trans (mK3.mono (by simp))).trans (mK4.mono (by simp))).trans (mK5.mono (by simp))
    have hmm:Mod [] H K5:=mHK1.step mE hok fun n hn=>by
     simp only[zB1,List.not_mem_nil,or_false]at hn
     right; omega
    rw[show K5=ext K5 [] from rfl]
    simp (maxDischargeDepth:=6) only[Tryz.results12,g2,g3,nK5,l0,l1,r0,r1,ruW,putL,Nat.reduceLeDiff,xF,ruU,entryE,Nat.reduceLT,Nat.reduceAdd,Nat.reduceMul,Nat.reduceEqDiff]
    refine⟨.inl ?_,hmm⟩
    have h6:=of_decide_eq_true hd2
    unfold parsedR
    rw[hpr,if_neg (by simp),if_pos (by simp only; omega)]
    exact⟨by simp,rfl⟩
   |false =>
    simp (maxDischargeDepth:=6) only[g2,g3,g4,g5,nK2,j0,j1,j2,j3,l0,l1,l2,l3,b2,d10,hsv,hd2,uw_next,bk_uw_ne,ne_eq,not_false_eq_true,ruW,putL,Nat.reduceLeDiff,xF,ruU,entryE,Nat.reduceLT,Nat.reduceAdd,Nat.reduceMul,Nat.reduceEqDiff]
    generalize hK3:uw K2 (b+0) 0 _=K3
    have mK3:Mod [b+0,b+1] K2 K3:=hK3▸Mod.uw (by simp)
    have nK3:K3.next=K1.next:=by rw[←hK3,uw_next,nK2]
    have k0:bk K3 (b+0)=some ⟨23,false,[.slice va (outP rs0).length (outP rs0).length]⟩:=by rw[←hK3,bk_uw_eq,j0]; rfl
    have k1:bk K3 (b+1)=some ⟨26,false,[.int .i64 0,.int .i64 0]⟩:=by rw[←hK3,bk_uw_ne (by omega),j1]
    generalize hK4:uw K3 (b+1) 0 _=K4
    have mK4:Mod [b+0,b+1] K3 K4:=hK4▸Mod.uw (by simp)
    have nK4:K4.next=K1.next:=by rw[←hK4,uw_next,nK3]
    have p0:bk K4 (b+0)=some ⟨23,false,[.slice va (outP rs0).length (outP rs0).length]⟩:=by rw[←hK4,bk_uw_ne (by omega),k0]
    have p1:bk K4 (b+1)=some ⟨26,false,[.int .i64 0,.int .i64 0]⟩:=by rw[←hK4,bk_uw_eq,k1]; rfl
    have hdK4:K4.get (b+7)=K2.get (b+7):=((hK4▸uw_get (by omega)):K4.get (b+7)=K3.get (b+7)).trans (hK3▸uw_get (by omega))
    refine lv_mark ⟨_,_,hdK4.trans (hdK2.trans (hdK1.trans hdf))⟩ ?_
    rw[ext_nil]
    generalize hK5:K4.upd (b+7) _=K5
    have mK5:Mod [b+7] K4 K5:=hK5▸Mod.upd (by simp)
    have nK5:K5.next=K1.next:=(hK5▸rfl:K5.next=K4.next).trans nK4
    have r0:bk K5 (b+0)=_:=(bk_get (by rw[←hK5,AHeap.get_upd,if_neg (by omega)])).trans p0
    have r1:bk K5 (b+1)=_:=(bk_get (by rw[←hK5,AHeap.get_upd,if_neg (by omega)])).trans p1
    have mE:Mod [b+0,b+1,b+7,b+7+1] K1 K5:=(((mK2.mono (by simp)).trans (mK3.mono (by simp))).trans (mK4.mono (by simp))).trans (mK5.mono (by simp))
    have hmm:Mod [] H K5:=mHK1.step mE hok fun n hn=>by
     simp only[zB1,List.not_mem_nil,or_false]at hn
     right; omega
    rw[show K5=ext K5 [] from rfl]
    simp (maxDischargeDepth:=6) only[Tryz.results12,g2,g3,nK5,l0,l1,r0,r1,ruW,putL,Nat.reduceLeDiff,xF,ruU,entryE,Nat.reduceLT,Nat.reduceAdd,Nat.reduceMul,Nat.reduceEqDiff]
    refine⟨.inr ?_,hmm⟩
    have h6:=of_decide_eq_false hd2
    unfold parsedR
    rw[hpr,if_neg (by simp),if_neg (by simp only; omega)]
    refine⟨rfl,v,by rw[ev],?_,fun n hn=>by have:=hvi n hn; omega⟩
    exact hv.of mE.next fun n hn=>mE.get n (hv.ne n hn).2 (fun h=>by
     have h1:=hvi n hn
     have h2:=hvd n hn
     simp only[zB1,List.not_mem_nil,or_false]at h
     omega)
 ·have hpr:parseR (linesR s) 0 []=([],errP r,rs0.length):=by
   have:=(parse_of (ls:=linesR s) (k:=0) (out:=[]) hrs hall).2 r rfl hne hr
   simpa using this
  have hnz:=err_ne hne hr
  refine⟨_,_,_,hl1.get,by simp[lpP],rfl,?_⟩
  generalize hK2:setLoop K1 (b+7+1) _ _=K2
  have nK2:K2.next=K1.next:=hK2▸rfl
  have j0:bk K2 (b+0)=_:=(hK2▸bk_setLoop (by omega):bk K2 (b+0)=bk K1 (b+0)).trans i0
  have j1:bk K2 (b+1)=_:=(hK2▸bk_setLoop (by omega):bk K2 (b+1)=bk K1 (b+1)).trans i1
  have hdK2:K2.get (b+7)=K1.get (b+7):=hK2▸setLoop_get (by omega)
  have mK2:Mod [b+7+1] K1 K2:=hK2▸Mod.upd (by simp)
  rw[show K2=ext K2 [] from rfl]
  simp (maxDischargeDepth:=6) only[ruW,putL,Nat.reduceLeDiff,xF,ruU,entryE,Nat.reduceLT,Nat.reduceAdd,Nat.reduceMul,Nat.reduceEqDiff]
  refine lv_mark ⟨_,_,hdK2.trans (hdK1.trans hdf)⟩ ?_
  rw[ext_nil]
  generalize hK5:K2.upd (b+7) _=K5
  have mK5:Mod [b+7] K2 K5:=hK5▸Mod.upd (by simp)
  have nK5:K5.next=K1.next:=(hK5▸rfl:K5.next=K2.next).trans nK2
  have e0:bk K5 (b+0)=_:=(bk_get (by rw[←hK5,AHeap.get_upd,if_neg (by omega)])).trans j0
  have e1:bk K5 (b+1)=_:=(bk_get (by rw[←hK5,AHeap.get_upd,if_neg (by omega)])).trans j1
  have l0:b+0<K1.next:=by omega
  have l1:b+1<K1.next:=by omega
  rw[show K5=ext K5 [] from rfl]
  simp (maxDischargeDepth:=6) only[Tryz.results12,g2,g3,nK5,l0,l1,e0,e1,ruW,putL,Nat.reduceLeDiff,xF,ruU,entryE,Nat.reduceLT,Nat.reduceAdd,Nat.reduceMul,Nat.reduceEqDiff]
  refine⟨.inl ?_,?_⟩
  ·unfold parsedR
   rw[hpr,if_pos hnz]
   exact⟨hnz,rfl⟩
  ·refine (mHK1.step mK2 hok (fun n hn=>?_)).step mK5 hok (fun n hn=>?_)<;>(simp only[zB1,List.not_mem_nil,or_false]at hn; right; omega)
set_option maxRecDepth 100000
theorem OwnI.mod0 {b:Nat} {X G:AHeap} {v:Value} {ls:List Iv} (h:OwnI b X v ls) (m:Mod [] X G):OwnI b G v ls :=
 ⟨h.vs.of m.next fun n hn=>m.get n (h.vs.ne n hn).2 (by simp),fun z hz=>(h.av z hz).of m.next fun n hn=>m.get n ((h.av z hz).ne n hn).2 (by simp),h.lo,h.alo,h.nd⟩
theorem OwnI.snoc {b:Nat} {X G:AHeap} {v nv:Value} {ls:List Iv} {y:Iv} (h:OwnI b X v ls) (m:Mod (idsV v) X G) (vG:VsAt G 59 3 nv (insC (ls++[y])) (ls++[y]).length) (hi:∀ n∈idsV nv,X.next≤n) (hb:b≤X.next) (ha:ArgA X y.2 y.1.args) (hy:∀ n∈idsV y.2,b≤n∧n∉idsV v∧∀ z∈ls,n∉idsV z.2):OwnI b G nv (ls++[y]):=by
 have hall:∀ z∈ls++[y],ArgA X z.2 z.1.args∧∀ n∈idsV z.2,b≤n∧n∉idsV v:=fun z hz=>by
  rcases zC2.1 hz with hz|hz
  ·exact⟨h.av z hz,h.alo z hz⟩
  ·rw[zA7]at hz
   subst hz
   exact⟨ha,fun n hn=>⟨(hy n hn).1,(hy n hn).2.1⟩⟩
 refine⟨vG,fun z hz=>(hall z hz).1.of m.next fun n hn=>m.get n ((hall z hz).1.ne n hn).2 ((hall z hz).2 n hn).2,fun n hn=>by have:=hi n hn; omega,fun z hz n hn=>⟨((hall z hz).2 n hn).1,fun hn'=>by have:=hi n hn'; have:=((hall z hz).1.ne n hn).2; omega⟩,?_⟩
 rw[List.flatMap_append,List.nodup_append]
 obtain⟨aa,ea⟩:=VsAt.len ha
 refine⟨h.nd,?_,fun n hn k hk e=>?_⟩
 ·simp only[zD4,List.flatMap_nil,zD5,ea]
  cases aa<;>simp[idsV]
 ·subst e
  obtain⟨z,hz,hn'⟩:=List.mem_flatMap.1 hn
  simp only[zD4,List.flatMap_nil,zD5]at hk
  exact (hy n hk).2.2 z hz hn'
theorem OwnI.rd {b:Nat} {X:AHeap} {v:Value} {ls:List Iv} (h:OwnI b X v ls):InsRd X v ls:=⟨h.vs.rd,fun z hz=>(h.av z hz).rd,fun z hz=>VsAt.sc (h.av z hz)⟩
theorem lines_free:∀ {l:List UInt8},(∀ c∈l,c≠10)→linesR l=[l]
 |[],_=>rfl
 |c::l,h=>by
  rw[linesR,if_neg (h c (zB7 ..)),lines_free fun y hy=>h y (zB5 _ hy)]
theorem par_end (k:Nat) (out:List UInt8):parseR (linesR []) k out=(out,0,k):=by simp[linesR,parseR]
theorem par_nonl {l:List UInt8} {k:Nat} {out:List UInt8} (h0:l≠[]) (h:∀ c∈l,c≠10):parseR (linesR l) k out=([],5,k):=by
 have:Go.Lib.hasSuffix l [10]=false:=by
  cases hs:Go.Lib.hasSuffix l [10]with
  |false=>rfl
  |true =>
   obtain⟨b,rfl⟩:=suffix_back hs
   exact absurd rfl (h 10 (by simp))
 rw[lines_free h,parseR,if_neg h0,if_pos this]
theorem par_bad {w r:List UInt8} {k:Nat} {out:List UInt8} (h:∀ c∈w,c≠10) (he:(lineR w).2≠0):parseR (linesR (w++10::r)) k out=([],(lineR w).2,k):=by
 rw[lines_at h,parseR,if_neg (by simp),suffix_snoc,if_neg (by simp),own_snoc,if_pos he]
theorem par_good {w r:List UInt8} {k:Nat} {out:List UInt8} (h:∀ c∈w,c≠10) (he:(lineR w).2=0):parseR (linesR (w++10::r)) k out=parseR (linesR r) (k+1) (out++encB (lineR w).1):=by
 rw[lines_at h,parseR,if_neg (by simp),suffix_snoc,if_neg (by simp),own_snoc,if_neg (by simp[he])]
theorem encL_snoc (ls:List Ins) (x:Ins):encL (ls++[x])=encL ls++encB x:=by simp[encL]
theorem sl_mid {H:AHeap} {l:List UInt8} {i e:Nat} (h:i≤e) (he:e≤l.length):aSlice Tryz.prog H 9 (.string (bs l)) (some (.int .i64 (i:Int))) (some (.int .i64 (e:Int))) none=some (.string (bs ((l.drop i).take (e-i))),H):=by
 simp only[aSlice,u9,bound,zA1,zA3]
 rw[if_pos (by omega),zA3,if_pos (by omega),zA3,zC1,zC1,if_pos ⟨by rw[bs_size]; exact he,h⟩]
 congr 3
 apply ByteArray.ext
 apply Array.ext'
 rw[ByteArray.data_extract,Array.toList_extract,List.extract_eq_take_drop]
theorem parsed13_c (H:AHeap) (s:List UInt8) (hs:s.length≤20000) (hok:H.base≤H.next):CallA Tryz.prog 13 [.string (bs s)] H (fun out X=>ParOut H.next s out X∧Mod [] H X):=by
 obtain⟨b,hbn⟩:∃ b,H.next=b:=⟨_,rfl⟩
 have hbase:H.base≤b:=hbn▸hok
 refine callE_fn mixed Tryz.func13 rfl Tryz.ntmps13 (zB8 rfl) ?_
 simp (maxDischargeDepth:=6) only[hbn,hbase,ruW,putL,Nat.reduceLeDiff,xF,ruU,entryE,Nat.reduceLT,Nat.reduceAdd,Nat.reduceMul,Nat.reduceEqDiff]
 refine w_env fun E hE=>?_
 have g0:E 0=.string (bs s):=by rw[hE]; simp only[ruU,entryE,Nat.reduceLT,Nat.reduceAdd,Nat.reduceMul,Nat.reduceEqDiff]
 have g2:E 2=.slice none 0 0:=by rw[hE]; simp only[ruU,entryE,Nat.reduceLT,Nat.reduceAdd,Nat.reduceMul,Nat.reduceEqDiff]
 have g3:E 3=.pointer (some ⟨b+0,0,none⟩):=by rw[hE]; simp only[ruU,entryE,Nat.reduceLT,Nat.reduceAdd,Nat.reduceMul,Nat.reduceEqDiff]
 have g4:E 4=.slice none 0 0:=by rw[hE]; simp only[ruU,entryE,Nat.reduceLT,Nat.reduceAdd,Nat.reduceMul,Nat.reduceEqDiff]
 have g5:E 5=.int .i64 ((0:Nat):Int):=by rw[hE]; (simp only[ruU,entryE,Nat.reduceLT,Nat.reduceAdd,Nat.reduceMul,Nat.reduceEqDiff]<;>rfl)
 have g6:E 6=.int .i64 ((0:Nat):Int):=by rw[hE]; (simp only[ruU,entryE,Nat.reduceLT,Nat.reduceAdd,Nat.reduceMul,Nat.reduceEqDiff]<;>rfl)
 clear hE
 generalize hX0:ext H _=X0
 have m0:Mod [] H X0:=hX0▸Mod.ext hok
 have n0:b+1≤X0.next:=by rw[←hX0,ext_next,hbn]; simp
 have k0:bk X0 (b+0)=some ⟨26,false,[.int .i64 0,.int .i64 0]⟩:=by rw[←hX0,bk_at hbn (by simp)]; rfl
 clear hX0
 obtain⟨R,hR⟩:∃ R,parseR (linesR s) 0 []=R:=⟨_,rfl⟩
 refine w_loop (fun (z:Nat × List Iv × Value) E' X=>Mod [] H X∧b+1≤X.next∧bk X (b+0)=some ⟨26,false,[.int .i64 0,.int .i64 0]⟩∧OwnI (b+1) X z.2.2 z.2.1∧z.1≤s.length∧z.2.1.length≤z.1∧(encL (z.2.1.map (·.1))).length≤2*z.1∧(∀ x∈z.2.1,encA x.1.op x.1.args=0∧x.1.args.length≤s.length)∧parseR (linesR (s.drop z.1)) z.2.1.length (encL (z.2.1.map (·.1)))=R∧E' 0=.string (bs s)∧E' 2=.slice none 0 0∧E' 3=.pointer (some ⟨b+0,0,none⟩)∧E' 4=z.2.2∧E' 5=.int .i64 ((encL (z.2.1.map (·.1))).length:Int)∧E' 6=.int .i64 (z.1:Int)) (fun z=>s.length-z.1) (0,[],.slice none 0 0)
  ⟨m0,n0,k0,⟨VsAt.nil,fun x hx=>by simp at hx,fun n hn=>by simp[idsV]at hn,fun x hx=>by simp at hx,by simp⟩,zB4 _,zB4 _,zB4 _,fun x hx=>by simp at hx,by simpa[encL]using hR,g0,g2,g3,g4,g5,g6⟩ ?_
 clear g0 g2 g3 g4 g5 g6 m0 n0 k0 X0 E
 rintro⟨i,ls,v⟩ E X ⟨m,nx,k,own,hil,hll,hen,hgood,htot,g0,g2,g3,g4,g5,g6⟩
 simp only at own hil hll hen hgood htot g4 g5 g6
 obtain⟨x,hx⟩:∃ x,X.next=x:=⟨_,rfl⟩
 have hxb:X.base≤x:=hx▸m.ok hok
 rw[hx]at nx
 have hbx:b+0<x:=by omega
 obtain⟨va,ev⟩:=own.vs.len
 have mU:∀ vs,Mod [] H (uw X (b+0) 0 vs):=fun vs=>m.step (W':=[b+0]) (Mod.uw (by simp)) hok fun n hn=>by simp only[zA7]at hn; exact .inr (by omega)
 obtain⟨W,hW⟩:∃ W,(encL (ls.map (·.1))).length=W:=⟨_,rfl⟩
 rw[hW]at g5 hen
 rw[show X=ext X [] from rfl]
 by_cases hie:i=s.length
 ·have hd:decide ((i:Int)<(s.length:Int))=false:=decide_eq_false (by omega)
  rw[hie,List.drop_length,par_end]at htot
  obtain⟨d,hd2⟩:∃ d,decide ((60000:Int)<(W:Int))=d:=⟨_,rfl⟩
  rw[ev]at g4
  cases d with
  |true =>
   have:=of_decide_eq_true hd2
   simp (maxDischargeDepth:=6) only[g0,g2,g3,g4,g5,g6,hd,hd2,hx,hxb,hbx,k,bt_lenStr u9,bs_size,Tryz.results13,ruW,putL,Nat.reduceLeDiff,xF,ruU,entryE,Nat.reduceLT,Nat.reduceAdd,Nat.reduceMul,Nat.reduceEqDiff]
   refine⟨.inl ?_,mU _⟩
   unfold parsedR
   rw[hR,←htot,if_neg (by simp),if_pos (by simp only; omega)]
   exact⟨by simp,rfl⟩
  |false =>
   have hwd:=of_decide_eq_false hd2
   simp (maxDischargeDepth:=6) only[g0,g2,g3,g4,g5,g6,hd,hd2,hx,hxb,hbx,k,bt_lenStr u9,bs_size,ruW,putL,Nat.reduceLeDiff,xF,ruU,entryE,Nat.reduceLT,Nat.reduceAdd,Nat.reduceMul,Nat.reduceEqDiff]
   rw[←ev]
   refine (encode31_c (ext X []) v ls own.rd (m.ok hok) (by omega) (fun z hz=>by have:=(hgood z hz).2; omega) (by omega)).mono ?_
   rintro out X2 ⟨hout,m2⟩
   have hnone:encBad 0 (ls.map (·.1))=none:=encBad_at fun j y hy=>by
    obtain⟨z,hz,rfl⟩:=List.mem_map.1 (List.mem_of_getElem? hy)
    exact (hgood z hz).1
   simp only[EncOut,hnone]at hout
   rw[if_neg (by omega)]at hout
   obtain⟨bv',rfl,hbv,hbi⟩:=hout
   obtain⟨x2,hx2⟩:∃ x2,X2.next=x2:=⟨_,rfl⟩
   have n2:=m2.next
   rw[ext_nil,hx,hx2]at n2
   have hbx2:b+0<x2:=by omega
   have k2:bk X2 (b+0)=some ⟨26,false,[.int .i64 0,.int .i64 0]⟩:=(m2.bk (by rw[ext_nil,hx]; omega) (by simp)).trans k
   have hxb2:X2.base≤x2:=hx2▸m2.ok (m.ok hok)
   rw[show X2=ext X2 [] from rfl]
   simp (maxDischargeDepth:=6) only[g0,g2,g3,g4,g5,g6,hx2,hxb2,hbx2,k2,Tryz.results13,ruW,putL,Nat.reduceLeDiff,xF,ruU,entryE,Nat.reduceLT,Nat.reduceAdd,Nat.reduceMul,Nat.reduceEqDiff]
   refine⟨.inr ?_,(m.trans m2).step (W':=[b+0]) (Mod.uw (by simp)) hok fun n hn=>by simp only[zA7]at hn; exact .inr (by omega)⟩
   unfold parsedR
   rw[hR,←htot,if_neg (by simp),if_neg (by simp only; omega)]
   refine⟨rfl,bv',rfl,?_,fun n hn=>by have:=hbi n hn; rw[ext_nil,hx]at this; omega⟩
   rw[ext_nil]
   exact hbv.of (by rw[uw_next]; exact zA8 _) fun n hn=>uw_get (by have:=hbi n hn; rw[ext_nil,hx]at this; omega)
 ·have hil':i<s.length:=by omega
  have hd:decide ((i:Int)<(s.length:Int))=true:=decide_eq_true (by omega)
  simp (maxDischargeDepth:=6) only[g0,g2,g3,g4,g5,g6,hd,bt_lenStr u9,bs_size,ruW,putL,Nat.reduceLeDiff,xF,ruU,entryE,Nat.reduceLT,Nat.reduceAdd,Nat.reduceMul,Nat.reduceEqDiff]
  refine w_env fun E2 hE=>?_
  have h0:E2 0=.string (bs s):=by rw[hE]; simp only[g0,ruU,entryE,Nat.reduceLT,Nat.reduceAdd,Nat.reduceMul,Nat.reduceEqDiff]
  have h2:E2 2=.slice none 0 0:=by rw[hE]; simp only[g2,ruU,entryE,Nat.reduceLT,Nat.reduceAdd,Nat.reduceMul,Nat.reduceEqDiff]
  have h3:E2 3=.pointer (some ⟨b+0,0,none⟩):=by rw[hE]; simp only[g3,ruU,entryE,Nat.reduceLT,Nat.reduceAdd,Nat.reduceMul,Nat.reduceEqDiff]
  have h4:E2 4=v:=by rw[hE]; simp only[g4,ruU,entryE,Nat.reduceLT,Nat.reduceAdd,Nat.reduceMul,Nat.reduceEqDiff]
  have h5:E2 5=.int .i64 (W:Int):=by rw[hE]; simp only[g5,ruU,entryE,Nat.reduceLT,Nat.reduceAdd,Nat.reduceMul,Nat.reduceEqDiff]
  have h6:E2 6=.int .i64 (i:Int):=by rw[hE]; simp only[g6,ruU,entryE,Nat.reduceLT,Nat.reduceAdd,Nat.reduceMul,Nat.reduceEqDiff]
  have h7:E2 7=.int .i64 (i:Int):=by rw[hE]; simp only[g6,ruU,entryE,Nat.reduceLT,Nat.reduceAdd,Nat.reduceMul,Nat.reduceEqDiff]
  clear hE g0 g2 g3 g4 g5 g6 E
  refine blockC_meet (fun E' X'=>∃ e:Nat,X'=ext X []∧i≤e∧e≤s.length∧(∀ c∈(s.drop i).take (e-i),c≠10)∧(e<s.length→s.getD e 0=10)∧E' 0=.string (bs s)∧E' 2=.slice none 0 0∧E' 3=.pointer (some ⟨b+0,0,none⟩)∧E' 4=v∧E' 5=.int .i64 (W:Int)∧E' 6=.int .i64 (i:Int)∧E' 7=.int .i64 (e:Int)) ?_ ?_
  ·refine w_loop (fun (e:Nat) E' X'=>X'=ext X []∧i≤e∧e≤s.length∧(∀ c∈(s.drop i).take (e-i),c≠10)∧E' 0=.string (bs s)∧E' 2=.slice none 0 0∧E' 3=.pointer (some ⟨b+0,0,none⟩)∧E' 4=v∧E' 5=.int .i64 (W:Int)∧E' 6=.int .i64 (i:Int)∧E' 7=.int .i64 (e:Int)) (fun e=>s.length-e) i
    ⟨rfl,zA8 _,hil,fun c hc=>by rw[Nat.sub_self]at hc; simp at hc,h0,h2,h3,h4,h5,h6,h7⟩ ?_
   clear h0 h2 h3 h4 h5 h6 h7 E2
   rintro e E X' ⟨hX',hie1,hel,hfree,g0,g2,g3,g4,g5,g6,g7⟩
   rw[hX']
   by_cases hee:e=s.length
   ·have hde:decide ((e:Int)<(s.length:Int))=false:=decide_eq_false (by omega)
    simp (maxDischargeDepth:=6) only[g0,g7,hde,bt_lenStr u9,bs_size,ruW,putL,Nat.reduceLeDiff,xF,ruU,entryE,Nat.reduceLT,Nat.reduceAdd,Nat.reduceMul,Nat.reduceEqDiff]
    refine joinR_normal ⟨e,rfl,hie1,hel,hfree,fun h=>absurd h (by omega),?_,?_,?_,?_,?_,?_,?_⟩<;>simp only[g0,g2,g3,g4,g5,g6,g7,ruU,entryE,Nat.reduceLT,Nat.reduceAdd,Nat.reduceMul,Nat.reduceEqDiff]
   ·have hel':e<s.length:=by omega
    have hde:decide ((e:Int)<(s.length:Int))=true:=decide_eq_true (by omega)
    have ix:=ix_bs hel'
    have hw:IntKind.i64.wrap ((e:Int)+1)=((e+1:Nat):Int):=wrap_succ (by omega)
    by_cases h10:s.getD e 0=10
    ·have hd2:decide (¬((s.getD e 0).toNat:Int)=10)=false:=by rw[h10]; rfl
     simp (maxDischargeDepth:=6) only[g0,g7,hde,ix,hd2,bt_lenStr u9,bs_size,ruW,putL,Nat.reduceLeDiff,xF,ruU,entryE,Nat.reduceLT,Nat.reduceAdd,Nat.reduceMul,Nat.reduceEqDiff]
     refine joinR_normal ⟨e,rfl,hie1,hel,hfree,fun _=>h10,?_,?_,?_,?_,?_,?_,?_⟩<;>simp only[g0,g2,g3,g4,g5,g6,g7,ruU,entryE,Nat.reduceLT,Nat.reduceAdd,Nat.reduceMul,Nat.reduceEqDiff]
    ·have hd2:decide (¬((s.getD e 0).toNat:Int)=10)=true:=decide_eq_true fun hh=>h10 (UInt8.toNat_inj.1 (by have h32:(10:UInt8).toNat=10:=rfl; omega))
     simp (maxDischargeDepth:=6) only[g0,g7,hde,ix,hd2,hw,bt_lenStr u9,bs_size,ruW,putL,Nat.reduceLeDiff,xF,ruU,entryE,Nat.reduceLT,Nat.reduceAdd,Nat.reduceMul,Nat.reduceEqDiff]
     refine loopC_next ⟨e+1,by omega,rfl,by omega,by omega,fun c hc=>?_,?_,?_,?_,?_,?_,?_,?_⟩
     ·rw[show e+1-i=(e-i)+1 by omega,List.take_add_one,List.getElem?_drop,show i+(e-i)=e by omega,zB0 hel']at hc
      rcases zC2.1 hc with hc|hc
      ·exact hfree c hc
      ·simp only[Option.toList_some,zA7]at hc
       rw[hc]
       rwa [zC3,zB0 hel']at h10
     all_goals simp only[g0,g2,g3,g4,g5,g6,g7,hw,ruU,entryE,Nat.reduceLT,Nat.reduceAdd,Nat.reduceMul,Nat.reduceEqDiff]
  clear h0 h2 h3 h4 h5 h6 h7 E2
  rintro E X' ⟨e,hX',hie1,hel,hfree,h10,g0,g2,g3,g4,g5,g6,g7⟩
  rw[hX']
  clear hX'
  have hw1:IntKind.i64.wrap ((e:Int)-(i:Int))=((e-i:Nat):Int):=(wrap_sm (by omega) (by omega)).trans (by omega)
  have hd1:decide ((1000000:Int)<((e-i:Nat):Int))=false:=decide_eq_false (by omega)
  by_cases hee:e=s.length
  ·have hd2:decide ((e:Int)=(s.length:Int))=true:=decide_eq_true (by omega)
   rw[ev]at g4
   simp (maxDischargeDepth:=6) only[g0,g2,g3,g4,g5,g6,g7,hw1,hd1,hd2,hx,hxb,hbx,k,bt_lenStr u9,bs_size,Tryz.results13,ruW,putL,Nat.reduceLeDiff,xF,ruU,entryE,Nat.reduceLT,Nat.reduceAdd,Nat.reduceMul,Nat.reduceEqDiff]
   refine⟨.inl ?_,mU _⟩
   rw[zD8 (by rw[List.length_drop]; omega)]at hfree
   rw[par_nonl (by intro h; have:=congrArg List.length h; rw[List.length_drop]at this; simp at this; omega) hfree]at htot
   unfold parsedR
   rw[hR,←htot,if_pos (by simp)]
   exact⟨by simp,rfl⟩
  ·have hel':e<s.length:=by omega
   have hd2:decide ((e:Int)=(s.length:Int))=false:=decide_eq_false (by omega)
   replace h10:=h10 hel'
   obtain⟨w,hw⟩:∃ w,(s.drop i).take (e-i)=w:=⟨_,rfl⟩
   have hsl:∀ G:AHeap,aSlice Tryz.prog G 9 (.string (bs s)) (some (.int .i64 (i:Int))) (some (.int .i64 (e:Int))) none=some (.string (bs w),G):=fun G=>hw▸sl_mid hie1 hel
   have hwl:w.length=e-i:=by rw[←hw,List.length_take,List.length_drop]; omega
   have hdi:s.drop i=w++10::s.drop (e+1):=by
    have h1:s.drop i=(s.drop i).take (e-i)++(s.drop i).drop (e-i):=(List.take_append_drop _ _).symm
    rw[h1,hw,List.drop_drop,show i+(e-i)=e by omega,drop_snoc hel',h10]
   rw[hw]at hfree
   rw[hdi]at htot
   simp (maxDischargeDepth:=6) only[g0,g2,g3,g4,g5,g6,g7,hw1,hd1,hd2,hsl,w_slice,bnds_none,bnds_some,bndsOk_none,bndsOk_some,bt_lenStr u9,bs_size,ruW,putL,Nat.reduceLeDiff,xF,ruU,entryE,Nat.reduceLT,Nat.reduceAdd,Nat.reduceMul,Nat.reduceEqDiff]
   refine (line_c (ext X []) w (by omega) (m.ok hok)).mono ?_
   rintro out X1 ⟨⟨av,rfl,hav,hai⟩,m1⟩
   obtain⟨L,hL⟩:∃ L,lineR w=L:=⟨_,rfl⟩
   have hll2:=line_len w
   have hlb:=line_back (b:=w)
   have hpb:=par_bad (w:=w) (r:=s.drop (e+1)) (k:=ls.length) (out:=encL (ls.map (·.1))) hfree
   have hpg:=par_good (w:=w) (r:=s.drop (e+1)) (k:=ls.length) (out:=encL (ls.map (·.1))) hfree
   rw[hL]at hav hll2 hlb hpb hpg ⊢
   clear hL
   obtain⟨⟨pos,op,args⟩,er⟩:=L
   simp only at hav hll2 hlb hpb hpg
   obtain⟨aa,ea⟩:=VsAt.len hav
   obtain⟨x1,hx1⟩:∃ x1,X1.next=x1:=⟨_,rfl⟩
   have n1:=m1.next
   have mm1:Mod [] H X1:=m.trans m1
   have ok1:=mm1.ok hok
   have hxb1:X1.base≤x1:=hx1▸ok1
   rw[ext_nil,hx,hx1]at n1
   have hai':∀ n∈idsV av,x≤n:=fun n hn=>by have:=hai n hn; rwa [ext_nil,hx]at this
   have hs1:=VsAt.sc hav
   have own1:=own.mod0 (G:=X1) (by rw[ext_nil]at m1; exact m1)
   have kf1:bk X1 (b+0)=some ⟨26,false,[.int .i64 0,.int .i64 0]⟩:=(m1.bk (by rw[ext_nil,hx]; omega) (by simp)).trans k
   rw[hx1,ea]at hs1
   rw[show X1=ext X1 [] from rfl]
   rw[ea]
   obtain⟨d,hde⟩:∃ d,decide (¬er=0)=d:=⟨_,rfl⟩
   have hb1:b+0<x1+1:=by omega
   simp (maxDischargeDepth:=6) only[g0,g2,g3,g4,g5,g6,g7,hx1,hxb1,hs1,hde,ruW,putL,Nat.reduceLeDiff,xF,ruU,entryE,Nat.reduceLT,Nat.reduceAdd,Nat.reduceMul,Nat.reduceEqDiff]
   generalize hX2:ext X1 _=X2
   have m2:Mod [] X1 X2:=hX2▸Mod.ext ok1
   have nx2:X2.next=x1+1:=by rw[←hX2,ext_next,hx1]; rfl
   have kx2:bk X2 (x1+0)=some ⟨59,false,[.int .i64 0,.int .i64 op,.slice aa args.length args.length]⟩:=by rw[←hX2,bk_at hx1 (by simp)]; rfl
   clear hX2
   have kf2:bk X2 (b+0)=some ⟨26,false,[.int .i64 0,.int .i64 0]⟩:=(m2.bk (by omega) (by simp)).trans kf1
   have mm2:=mm1.trans m2
   have own2:=own1.mod0 m2
   have hav2:ArgA X2 av args:=hav.of m2.next fun n hn=>m2.get n (hav.ne n hn).2 (by simp)
   have ok2:=mm2.ok hok
   have xb2:X2.base≤x1+1:=nx2▸ok2
   have hxx:x1+0<x1+1:=by omega
   rw[show X2=ext X2 [] from rfl]
   cases d with
   |true =>
    have her:=of_decide_eq_true hde
    rw[ev]at g4
    simp (maxDischargeDepth:=6) only[g0,g2,g3,g4,g5,g6,g7,hde,nx2,xb2,hb1,kf2,Tryz.results13,ruW,putL,Nat.reduceLeDiff,xF,ruU,entryE,Nat.reduceLT,Nat.reduceAdd,Nat.reduceMul,Nat.reduceEqDiff]
    refine⟨.inl ?_,mm2.step (W':=[b+0]) (Mod.uw (by simp)) hok fun n hn=>by simp only[zA7]at hn; exact .inr (by omega)⟩
    rw[hpb her]at htot
    unfold parsedR
    rw[hR,←htot,if_pos her]
    exact⟨her,rfl⟩
   |false =>
    have her:er=0:=by
     have:=of_decide_eq_false hde
     omega
    subst her
    obtain⟨hok0,_⟩:=hlb rfl
    replace hpg:=hpg rfl
    rw[hpg]at htot
    obtain⟨y,hy⟩:∃ y:Iv,y=(⟨0,op,args⟩,.slice aa args.length args.length):=⟨_,rfl⟩
    have hyc:ivC y=[.int .i64 0,.int .i64 op,.slice aa args.length args.length]:=by rw[hy]; rfl
    obtain⟨G,k1,vG,mG,nG⟩:=ins_app (X:=X2) (v:=v) (ls:=ls) (y:=y) (x:=x1+1) own2.vs nx2 ok2 (by omega) (fun z hz=>VsAt.sc (own2.av z hz)) (by rw[hy,nx2]; exact scb_mono (by omega) _ hs1) (by rw[hy]; rfl)
    rw[hyc]at k1
    have hvx:∀ n∈idsV v,b+1≤n∧n<x:=fun n hn=>⟨own.lo n hn,hx▸(own.vs.ne n hn).2⟩
    have mHG:Mod [] H G:=mm2.step mG hok fun n hn=>.inr (by have:=hvx n hn; omega)
    have kfG:bk G (b+0)=some ⟨26,false,[.int .i64 0,.int .i64 0]⟩:=(mG.bk (by omega) (fun h=>by have:=hvx _ h; omega)).trans kf2
    have kxG:bk G (x1+0)=some ⟨59,false,[.int .i64 0,.int .i64 op,.slice aa args.length args.length]⟩:=(mG.bk (by omega) (fun h=>by have:=hvx _ h; omega)).trans kx2
    have hxG:x1+0<x1+1+2:=by omega
    have hva:∀ n∈idsV (.slice aa args.length args.length),x≤n:=fun n hn=>hai' n (by rw[ea]; exact hn)
    have ownG:OwnI (b+1) G (.slice (some ⟨x1+1+1,0,none⟩) (ls.length+1) (ls.length+1)) (ls++[y]):=own2.snoc mG vG (fun n hn=>by simp only[idsV,zA7]at hn; omega) (by omega) (by rw[hy,←ea]; exact hav2) fun n hn=>by
     rw[hy]at hn
     have h1:=hva n hn
     refine⟨by omega,fun h=>by have:=hvx n h; omega,fun z hz h=>?_⟩
     have:=((own.av z hz).ne n h).2
     omega
    have hwq1:IntKind.i64.wrap ((W:Int)+1)=((W+1:Nat):Int):=wrap_succ (by omega)
    have hwq2:IntKind.i64.wrap (2*(args.length:Int))=((2*args.length:Nat):Int):=(wrap_sm (by omega) (by omega)).trans (by omega)
    have hwq3:IntKind.i64.wrap (((W+1:Nat):Int)+((2*args.length:Nat):Int))=((W+1+2*args.length:Nat):Int):=(wrap_sm (by omega) (by omega)).trans (by omega)
    have hwq4:IntKind.i64.wrap ((e:Int)+1)=((e+1:Nat):Int):=wrap_succ (by omega)
    have hs2:=scb_mono (show x1≤x1+1 by omega) _ hs1
    simp (maxDischargeDepth:=6) only[g0,g2,g3,g4,g5,g6,g7,hde,nx2,xb2,hxx,hs2,kx2,k1,nG,hxG,kxG,hwq1,hwq2,hwq3,hwq4,qk_old,ruW,putL,Nat.reduceLeDiff,xF,ruU,entryE,Nat.reduceLT,Nat.reduceAdd,Nat.reduceMul,Nat.reduceEqDiff]
    have hbl:(encB ⟨0,op,args⟩).length=1+2*args.length:=enc_len1 ⟨0,op,args⟩
    have hmap:(ls++[y]).map (·.1)=ls.map (·.1)++[⟨0,op,args⟩]:=by rw[List.map_append,hy]; rfl
    have hel:(encL ((ls++[y]).map (·.1))).length=W+1+2*args.length:=by rw[hmap,encL_snoc,zB3,hW,hbl]; omega
    refine loopC_next ⟨(e+1,ls++[y],.slice (some ⟨x1+1+1,0,none⟩) (ls.length+1) (ls.length+1)),by simp only; omega,mHG,by rw[ext_nil,nG]; omega,kfG,ownG,by simp only; omega,by simp only[zB3,zC0]; omega,by simp only; rw[hel]; omega,fun z hz=>?_,?_,?_,?_,?_,?_,?_,?_⟩
    ·rcases zC2.1 hz with hz|hz
     ·exact hgood z hz
     ·rw[zA7]at hz
      subst hz
      rw[hy]
      exact⟨hok0,by simp only; omega⟩
    ·simp only
     rw[hmap,encL_snoc,zB3,zC0]
     exact htot
    all_goals simp only[g0,g2,g3,g4,g5,g6,g7,hel,ruU,entryE,Nat.reduceLT,Nat.reduceAdd,Nat.reduceMul,Nat.reduceEqDiff]<;>(congr 1; omega)
set_option maxRecDepth 100000
theorem same14_c (H:AHeap) (v w:Value) (a b:List UInt8) (ha:RdAt H 1 v (bv a) a.length) (hb:RdAt H 1 w (bv b) b.length) (hl:a.length≤100000000):Pure 14 [v,w] H (.bool (decide (a=b))):=by
 obtain⟨x,hx⟩:∃ x,H.next=x:=⟨_,rfl⟩
 obtain⟨a0,c0,e0⟩:=ha.sl
 obtain⟨a1,c1,e1⟩:=hb.sl
 refine callS_fn mixed Tryz.func14 rfl Tryz.ntmps14 (zB8 rfl) fun wf hsc=>?_
 by_cases hne:a.length=b.length
 ·have hd:decide (¬(a.length:Int)=(b.length:Int))=false:=decide_eq_false (by omega)
  rw[e0,e1]
  simp (maxDischargeDepth:=6) only[hd,hx,ruW,putL,Nat.reduceLeDiff,xF,ruU,entryE,Nat.reduceLT,Nat.reduceAdd,Nat.reduceMul,Nat.reduceEqDiff]
  rw[←e0,←e1]
  refine w_env fun E hE=>?_
  have g0:E 0=v:=by rw[hE,e0]; simp only[ruU,entryE,Nat.reduceLT,Nat.reduceAdd,Nat.reduceMul,Nat.reduceEqDiff]
  have g1:E 1=w:=by rw[hE,e1]; simp only[ruU,entryE,Nat.reduceLT,Nat.reduceAdd,Nat.reduceMul,Nat.reduceEqDiff]
  have g5:E 5=.int .i64 ((0:Nat):Int):=by rw[hE]; (simp only[ruU,entryE,Nat.reduceLT,Nat.reduceAdd,Nat.reduceMul,Nat.reduceEqDiff]<;>rfl)
  clear hE
  refine w_loop (fun (j:Nat) E' H'=>H'=ext H []∧j≤a.length∧a.take j=b.take j∧E' 0=v∧E' 1=w∧E' 5=.int .i64 (j:Int)) (fun j=>a.length-j) 0 ⟨rfl,zB4 _,rfl,g0,g1,g5⟩ ?_
  clear g0 g1 g5 E
  rintro j E H' ⟨hH,hj,htk,g0,g1,g5⟩
  rw[hH]
  by_cases hje:j=a.length
  ·have hdj:decide ((j:Int)<(a.length:Int))=false:=decide_eq_false (by omega)
   rw[e0]at g0
   simp (maxDischargeDepth:=6) only[g0,g5,hdj,Tryz.results14,ruW,putL,Nat.reduceLeDiff,xF,ruU,entryE,Nat.reduceLT,Nat.reduceAdd,Nat.reduceMul,Nat.reduceEqDiff]
   have:decide (a=b)=true:=by
    rw[zD8 (by omega),zD8 (by omega)]at htk
    exact decide_eq_true htk
   rw[this]
   exact Fin.pureE rfl rfl
  ·have hjl:j<a.length:=by omega
   have hdj:decide ((j:Int)<(a.length:Int))=true:=decide_eq_true (by omega)
   obtain⟨n,off,s,c,e,o,M,k1,n1,r1,m1⟩:=ha.one hjl
   have hjb:j<b.length:=by omega
   obtain⟨n',off',s',c',e',o',M',k2,n2,r2,m2⟩:=hb.one hjb
   rw[bv_get,zB0 hjl,zA5]at m1
   rw[bv_get,zB0 hjb,zA5]at m2
   have i1:=ia_of (P:=Tryz.prog) (k:=.i64) (i:=j) (n:=n) (off:=off) (len:=a.length) (cap:=c) (s:=s) u23 s5 hjl
   have i2:=ia_of (P:=Tryz.prog) (k:=.i64) (i:=j) (n:=n') (off:=off') (len:=b.length) (cap:=c') (s:=s') u23 s5 hjb
   rw[zD3]at i1 i2
   rw[hx]at n1 n2
   have hw:IntKind.i64.wrap ((j:Int)+1)=((j+1:Nat):Int):=wrap_succ (by omega)
   obtain⟨d,hdd⟩:∃ d,decide (¬((a[j].toNat:Nat):Int)=((b[j].toNat:Nat):Int))=d:=⟨_,rfl⟩
   rw[k1]at g0
   rw[k2]at g1
   simp (maxDischargeDepth:=6) only[g0,g1,g5,hx,hdj,ruW,putL,Nat.reduceLeDiff,xF,ruU,entryE,Nat.reduceLT,Nat.reduceAdd,Nat.reduceMul,Nat.reduceEqDiff]
   refine w_drawB [] [] (by kernel_rfl) (by kernel_rfl) rfl fun ops anc hA hG=>?_
   simp (maxDischargeDepth:=6) only[g0,g1,g5,hx,i1,i2,n1,n2,r1,r2,m1,m2,hdd,qk_old,ruD,ruW,putL,Nat.reduceLeDiff,xF,ruU,entryE,Nat.reduceLT,Nat.reduceAdd,Nat.reduceMul,Nat.reduceEqDiff]
   cases d with
   |true =>
    have:=of_decide_eq_true hdd
    simp (maxDischargeDepth:=6) only[g0,g1,g5,Tryz.results14,ruW,putL,Nat.reduceLeDiff,xF,ruU,entryE,Nat.reduceLT,Nat.reduceAdd,Nat.reduceMul,Nat.reduceEqDiff]
    have:decide (a=b)=false:=decide_eq_false fun e=>by subst e; exact this rfl
    rw[this]
    exact Fin.pureE rfl rfl
   |false =>
    have hq:=of_decide_eq_false hdd
    have hab:a[j]=b[j]:=UInt8.toNat_inj.1 (by omega)
    simp (maxDischargeDepth:=6) only[g0,g1,g5,hw,ruW,putL,Nat.reduceLeDiff,xF,ruU,entryE,Nat.reduceLT,Nat.reduceAdd,Nat.reduceMul,Nat.reduceEqDiff]
    refine loopC_next ⟨j+1,by omega,rfl,by omega,?_,?_,?_,?_⟩
    ·rw[List.take_add_one,List.take_add_one,htk,zB0 hjl,zB0 hjb,hab]
    ·rw[k1]; simp only[g0,ruU,entryE,Nat.reduceLT,Nat.reduceAdd,Nat.reduceMul,Nat.reduceEqDiff]
    ·rw[k2]; simp only[g1,ruU,entryE,Nat.reduceLT,Nat.reduceAdd,Nat.reduceMul,Nat.reduceEqDiff]
    ·simp only[hw,ruU,entryE,Nat.reduceLT,Nat.reduceAdd,Nat.reduceMul,Nat.reduceEqDiff]
 ·have hd:decide (¬(a.length:Int)=(b.length:Int))=true:=decide_eq_true (by omega)
  rw[e0,e1]
  simp (maxDischargeDepth:=6) only[hd,hx,Tryz.results14,ruW,putL,Nat.reduceLeDiff,xF,ruU,entryE,Nat.reduceLT,Nat.reduceAdd,Nat.reduceMul,Nat.reduceEqDiff]
  have:decide (a=b)=false:=decide_eq_false fun e=>hne (by rw[e])
  rw[this]
  exact Fin.pureE rfl rfl
abbrev kpa1:List Value:=[.int .i64 0,.int .i64 0,.int .i64 1,.int .i64 1,.string ⟨#[100,114,111,112,10]⟩,.int .i64 9,.int .i64 0]
abbrev kpa2:List Value:=[.int .i64 0,.int .i64 0,.int .i64 1,.int .i64 1,.string ⟨#[99,111,110,115,116,32,48,10]⟩,.int .i64 13,.int .i64 0]
abbrev kpa3:List Value:=[.int .i64 0,.int .i64 0,.int .i64 1,.int .i64 1,.string ⟨#[106,117,109,112,32,49,10]⟩,.int .i64 5,.int .i64 0]
abbrev kpa4:List Value:=[.int .i64 0,.int .i64 0,.int .i64 1,.int .i64 1,.string ⟨#[114,101,116,117,114,110,10]⟩,.int .i64 9,.int .i64 0]
abbrev kpa5:List Value:=[.int .i64 0,.int .i64 0,.int .i64 1,.int .i64 1,.string ⟨#[99,111,110,115,116,32,49,10]⟩,.int .i64 3,.int .i64 0]
abbrev kpa6:List Value:=[.int .i64 0,.int .i64 0,.int .i64 2,.int .i64 2,.string ⟨#[99,111,110,115,116,32,48,10,99,97,116,99,104,32,49,49,10,99,111,110,115,116,32,49,10,100,111,110,101,10,114,101,116,117,114,110,10]⟩,.int .i64 5,.int .i64 3]
abbrev kpa7:List Value:=[.int .i64 2,.int .i64 2,.int .i64 4,.int .i64 1,.string ⟨#[99,111,110,115,116,32,48,10,99,111,112,121,32,50,10,99,111,112,121,32,50,10,99,97,108,108,32,50,10,114,101,116,117,114,110,10]⟩,.int .i64 12,.int .i64 6]
abbrev kpl0:List (FuncId × List Value × Value):=[]
abbrev kpl1:List (FuncId × List Value × Value):=(37,kpa1,.bool true)::kpl0
abbrev kpl2:List (FuncId × List Value × Value):=(37,kpa2,.bool true)::kpl1
abbrev kpl3:List (FuncId × List Value × Value):=(37,kpa3,.bool true)::kpl2
abbrev kpl4:List (FuncId × List Value × Value):=(37,kpa4,.bool true)::kpl3
abbrev kpl5:List (FuncId × List Value × Value):=(37,kpa5,.bool true)::kpl4
abbrev kpl6:List (FuncId × List Value × Value):=(37,kpa6,.bool true)::kpl5
abbrev kpl7:List (FuncId × List Value × Value):=(37,kpa7,.bool true)::kpl6
end Go.Proofs.YtnigelgcjfhghaaGreatDoor
