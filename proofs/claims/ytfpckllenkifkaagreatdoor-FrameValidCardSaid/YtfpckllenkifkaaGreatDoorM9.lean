/- Parts of the proof, one behind the other. -/
import Derived.Test.YtfpckllenkifkaaGreatDoorM5
import Derived.Test.YtfpckllenkifkaaGreatDoorM8
import Derived.Test.YtfpckllenkifkaaGreatDoorRows
import Derived.ProofKit
import Derived.Carry
import Derived.OpenShut
import Derived.LaidMore
import Derived.Lay
set_option linter.all false
set_option maxRecDepth 10000
set_option maxHeartbeats 16000000
open And renaming intro -> zA0
open Option renaming bind_eq_bind -> zA1, bind_eq_some_iff -> zA2, bind_some -> zA3, map_some -> zA5, map_eq_some_iff -> zA6
open Bool renaming and_eq_true -> zA4, false_eq_true -> zB7, and_self -> zD6
open List renaming getElem?_eq_getElem -> zA7, length_cons -> zB0, mem_cons -> zB1, map_cons -> zB3, mem_singleton -> zB4, mem_cons_of_mem -> zB5, mem_cons_self -> zB9, mem_of_getElem? -> zC2, all_eq_true -> zC4, getElem?_cons_zero -> zC5, getElem?_eq_none -> zC6, drop_zero -> zC7, length_append -> zC8, mem_append -> zC9, getElem?_cons_succ -> zD0, length_replicate -> zD2, eq_nil_of_length_eq_zero -> zD4, nil_append -> zD5, length_nil -> zD7, map_congr_left -> zD8, mem_map -> zE0, flatMap_cons -> zE1, append_nil -> zE2, length_take -> zE3, length_drop -> zE4
open Nat renaming le_refl -> zA8, zero_le -> zA9, le_of_ble_eq_true -> zB2, lt_or_ge -> zB6, le_trans -> zB8, zero_add -> zC0, lt_succ_self -> zC1, lt_of_lt_of_le -> zC3, min -> zD1, add_zero -> zD3, eq_of_beq_eq_true -> zD9

namespace Go.Proofs.YtfpckllenkifkaaGreatDoor
open Go.Ax
theorem Tab5.mod0 {H G:AHeap} (t:Tab5 H) (hn:6<=H.next) (m:Mod [] H G):Tab5 G:=by
 obtain⟨e1,e2,e3,e4,e5,h1,h2,h3,h4,h5⟩:=t
 exact⟨e1,e2,e3,e4,e5,(m.bk (by omega) (by simp)).trans h1,(m.bk (by omega) (by simp)).trans h2,(m.bk (by omega) (by simp)).trans h3,(m.bk (by omega) (by simp)).trans h4,(m.bk (by omega) (by simp)).trans h5⟩
theorem Tab5.tabX {H:AHeap} (t:Tab5 H) (hn:6<=H.next):TabX H:=by
 obtain⟨e1,e2,e3,e4,e5,h1,h2,h3,h4,h5⟩:=t
 exact⟨⟨e1,e2,h1,h2⟩,by omega⟩
theorem rect_load {e:TypeId} {o:Bool} {M:List Value} {i:Nat} {rv:Value} {p:Pn} (hle:i+15<=M.length) (h:(M.drop i).take 15=pnL rv p):ldB Tryz.prog 38 i (some ⟨e,o,M⟩)=some (.agg ⟨rcL p.rect⟩):=by
 have ag:aggT Tryz.prog 38=some true:=by kernel_rfl
 have s5:szOf Tryz.prog 38=some 5:=by kernel_rfl
 rw[ld_agg ag,s5,zA3,if_pos (by omega)]
 have h2:=congrArg (List.take 5) h
 rw[List.take_take]at h2
 rw[show (M.drop i).take 5=rcL p.rect from h2]
theorem bar_load {e:TypeId} {o:Bool} {M:List Value} {i:Nat} {r:Rc} (hle:i+5<=M.length) (h:(M.drop i).take 5=rcL r):ldB Tryz.prog 38 i (some ⟨e,o,M⟩)=some (.agg ⟨rcL r⟩):=by
 have ag:aggT Tryz.prog 38=some true:=by kernel_rfl
 have s5:szOf Tryz.prog 38=some 5:=by kernel_rfl
 rw[ld_agg ag,s5,zA3,if_pos (by omega),h]
theorem law3v_c (H:AHeap) (t5:Tab5 H) (n6:6<=H.next) (f:Fr) (pv bv:Value) (hf:FrR true H pv bv f) (hok:H.base<=H.next) :
  CallA Tryz.prog 3 [.agg ⟨frL pv bv f⟩] H (fun out X=>out=.ok (.bool true)/\Mod [] H X):=by
 obtain⟨x,hx⟩:=Go.Ax.exq H.next
 obtain⟨pa,pc,ep⟩:=hf.panes.sl
 obtain⟨ba,bc,eb⟩:=hf.bars.sl
 have sp:=hf.sp
 have sb:=hf.sb
 rw[hx,ep]at sp
 rw[hx,eb]at sb
 refine callE_fn mixed Tryz.func3 rfl Tryz.ntmps3 (zB2 rfl) ?_
 obtain⟨G,hG⟩:=Go.Ax.exq (ext H [⟨25,false,frL pv bv f⟩])
 have mG:Mod [] H G:=hG▸Mod.ext hok
 have nG:G.next=x+1:=by rw[<-hG,ext_next,hx]; rfl
 have okG:=mG.ok hok
 have gb:G.base<=x+1:=nG▸okG
 have kG:bk G (x+0)=some ⟨25,false,frL pv bv f⟩:=by rw[<-hG,bk_at hx (by simp)]; rfl
 have x0:x+0<x+1:=by omega
 have hlg:=large_c true G f pv bv (hf.mod0 mG)
 have tG:=t5.mod0 n6 mG
 have hkn:=known_c G tG
 obtain⟨lg,hlgB⟩:∃ b,lgB f=b:=⟨_,rfl⟩
 rw[hlgB]at hlg
 have z30:zeroOf Tryz.prog 30=some (.agg #[.slice none 0 0,.int .i64 0,.int .i64 0]):=by kernel_rfl
 rw[ep,eb]at hG kG hlg ⊢
 unfold frL at hG kG hlg ⊢
 simp only[hx,sp,sb,ruW,xF,ruU,entryE,Nat.reduceLT]
 rw[hG]
 refine CallS.to hkn ?_
 rw[show G=ext G [] from rfl]
 simp only[nG,x0,kG,qk_old,ruW,Nat.reduceLeDiff,xF,ruU,Nat.reduceLT,Nat.reduceAdd,Nat.reduceEqDiff]
 refine CallS.to (show Pure 5 _ (ext G []) _ from hlg) ?_
 cases lg with
 |true =>
  simp only[Tryz.results3,ruW,ruU,Nat.reduceLT,Nat.reduceEqDiff]
  exact⟨trivial,mG⟩
 |false =>
 have bd:=lgB_bd hlgB
 have hd1:=draw_c G (tG.tabX (by have:=mG.next; omega)) f pv bv (hf.mod0 mG) bd okG
 rw[ep,eb]at hd1
 unfold frL at hd1
 simp only[nG,x0,kG,qk_old,ruW,Nat.reduceLeDiff,xF,ruU,Nat.reduceLT,Nat.reduceAdd,Nat.reduceEqDiff]
 refine CallA.mono (show CallA Tryz.prog 6 _ (ext G []) _ from hd1) ?_
 rintro out D hD
 obtain⟨mD,N1,v1,rvs1,hN1,o1,rfl,hl1,hw1⟩:=hD.see
 obtain⟨ga,gc,ev1⟩:=o1.grid.sl
 obtain⟨R,hR⟩:∃ g,resG f=g:=⟨_,rfl⟩
 obtain⟨rr,hrr⟩:∃ g,(resC f).1=g:=⟨_,rfl⟩
 obtain⟨rc2,hrc2⟩:∃ g,(resC f).2=g:=⟨_,rfl⟩
 obtain⟨re,hre⟩:∃ g,resE f=g:=⟨_,rfl⟩
 rw[hR]at o1 ev1 hl1 hw1
 rw[hrr,hrc2,hre]
 obtain⟨d,hdn⟩:∃ c,D.next=c:=⟨_,rfl⟩
 have okD:=mD.ok okG
 have db:D.base<=d:=hdn▸okD
 have xd:x+0<d:=by have:=mD.next; omega
 have kD:=(mD.bk (n:=x+0) (by omega) (by simp)).trans kG
 have scv1:scb d v1=true:=by
  rcases o1.at_ with⟨_,e⟩|⟨m,s',c',o,e,_,_,hlt,_⟩
  ·rw[e]; rfl
  ·rw[e]; exact blt_of (hdn▸hlt)
 obtain⟨U,hU⟩:=Go.Ax.exq (ext D [⟨30,false,[v1,.int .i64 rr,.int .i64 rc2]⟩])
 have m2:Mod [] D U:=hU▸Mod.ext okD
 have nU:U.next=d+1:=by rw[<-hU,ext_next,hdn]; rfl
 have ok2:=m2.ok okD
 have ub:U.base<=d+1:=nU▸ok2
 have kU:bk U (d+0)=some ⟨30,false,[v1,.int .i64 rr,.int .i64 rc2]⟩:=by rw[<-hU,bk_at hdn (by simp)]; rfl
 have kx:=(m2.bk (n:=x+0) (by omega) (by simp)).trans kD
 have mHU:Mod [] H U:=(mG.trans mD).trans m2
 have oU:OwnG N1 U v1 rvs1 R:=o1.of m2.next fun n _ hn _=>m2.get n hn (by simp)
 have j1:x+0<d+1:=by omega
 have j2:d+0<d+1:=by omega
 rw[ev1]at scv1 hU kU ⊢
 rw[show D=ext D [] from rfl]
 obtain⟨ne,hne⟩:∃ q,decide (¬re=0)=q:=⟨_,rfl⟩
 generalize hr7:Code.seq (Code.region 7 _ _) _=r7
 simp only[hdn,db,scv1,z30,ruW,putL,Nat.reduceLeDiff,xF,ruU,Nat.reduceLT,Nat.reduceAdd,Nat.reduceEqDiff]
 rw[hU,show U=ext U [] from rfl]
 simp only[hne]
 cases ne with
 |true =>
  have hR0:R=[]:=by
   rw[<-hR]
   have h0:=of_decide_eq_true hne
   rw[<-hre]at h0
   unfold resE at h0
   unfold resG
   split at h0
   ·rename_i h; rw[if_pos h]
   ·rename_i h
    rw[if_neg h]
    split at h0
    ·rename_i h'; rw[if_pos h']
    ·exact absurd rfl h0
  have hl0:decide (((R.length:Nat):Int)=0)=true:=by rw[hR0]; rfl
  simp only[nU,j2,kU,hl0,Tryz.results3,qk_old,ruW,xF,ruU,Nat.reduceLT,Nat.reduceEqDiff]
  exact⟨trivial,mHU⟩
 |false =>
 subst hr7
 have hre0:re=0:=Decidable.byContradiction fun h=>of_decide_eq_false hne h
 have hE0:frE f=0:=by
  refine Decidable.byContradiction fun h=>?_
  rw[<-hre]at hre0
  unfold resE at hre0
  rw[if_pos h]at hre0
  exact h hre0
 have hAny:¬((drawG f).any fun l=>!wholeB l)=true:=fun h=>by
  rw[<-hre]at hre0
  unfold resE at hre0
  rw[if_neg (fun h=>h hE0),if_pos h]at hre0
  exact absurd hre0 (by decide)
 have hRg:R=drawG f:=by rw[<-hR]; unfold resG; rw[if_neg (fun h=>h hE0),if_neg hAny]
 have hrc:rr=(drawC f).1/\rc2=(drawC f).2:=by
  rw[<-hrr,<-hrc2]
  unfold resC
  rw[if_neg (fun h=>h hE0),if_neg hAny]
  exact⟨rfl,rfl⟩
 have ok:=frOk_of hE0
 obtain⟨dl,dw,dk⟩:=draw_law ok
 obtain⟨c1,c2,c3,c4⟩:=drawC_law ok
 rw[<-hRg]at dl dw dk
 rw[<-hrc.1]at c1 c2
 rw[<-hrc.2]at c3 c4
 have hwhole:∀ l∈R,wholeB l=true:=fun l hl=>by
  cases h:wholeB l with
  |true=>rfl
  |false=>exact absurd (List.any_eq_true.2 ⟨l,hRg▸hl,by rw[h]; rfl⟩) hAny
 have hh1:=ok.h1; have hh2:=ok.h2; have hw1':=ok.w1; have hw2':=ok.w2
 obtain⟨ht,eht⟩:∃ n:Nat,f.height=n:=⟨f.height.toNat,by omega⟩
 obtain⟨wd,ewd⟩:∃ n:Nat,f.width=n:=⟨f.width.toNat,by omega⟩
 rw[eht,Int.toNat_natCast]at dl dk
 rw[ewd,Int.toNat_natCast]at dw dk
 rw[eht]at kx c2 hh1 hh2
 rw[ewd]at kx c4 hw1' hw2'
 have z1:decide (¬((R.length:Nat):Int)=(ht:Int))=false:=decide_eq_false (by omega)
 have z2:decide (rr < -1)=false:=decide_eq_false (by omega)
 have z3:decide ((ht:Int)<=rr)=false:=decide_eq_false (by omega)
 have z4:decide (rc2<0)=false:=decide_eq_false (by omega)
 have z5:decide ((wd:Int)<=rc2)=false:=decide_eq_false (by omega)
 refine w_env fun E hE=>?_
 have g1:E 1=.pointer (some ⟨x+0,0,none⟩):=by rw[hE]; rfl
 have g3:E 3=.bool true:=by rw[hE]; rfl
 have g4:E 4=.pointer (some ⟨d+0,0,none⟩):=by rw[hE]; rfl
 clear hE
 simp only[g1,g4,nU,j1,j2,kU,kx,z1,z2,z3,z4,z5,qk_old,ruW,xF,ruU,Nat.reduceLT,Nat.reduceAdd,Nat.reduceEqDiff]
 refine w_env fun E2 hE=>?_
 have g1':E2 1=.pointer (some ⟨x+0,0,none⟩):=by rw[hE]; simp only[g1,ruU,Nat.reduceEqDiff]
 have g3':E2 3=.bool true:=by rw[hE]; simp only[g3,ruU,Nat.reduceEqDiff]
 have g4':E2 4=.pointer (some ⟨d+0,0,none⟩):=by rw[hE]; simp only[g4,ruU,Nat.reduceEqDiff]
 have g6':E2 6=.int .i64 ((0:Nat):Int):=by rw[hE]; (simp only[ruU]<;>rfl)
 clear hE g1 g3 g4 E
 refine blockC_meet (fun E' H'=>H'=ext U []/\E' 1=.pointer (some ⟨x+0,0,none⟩)/\E' 3=.bool true/\E' 4=.pointer (some ⟨d+0,0,none⟩)) ?_ ?_
 ·refine w_loop (fun (k:Nat) E' H'=>H'=ext U []/\E' 1=.pointer (some ⟨x+0,0,none⟩)/\E' 3=.bool true/\E' 4=.pointer (some ⟨d+0,0,none⟩)/\E' 6=.int .i64 (k:Int)/\k<=ht) (fun k=>ht-k) 0
   ⟨rfl,g1',g3',g4',g6',zA9 _⟩ ?_
  clear g1' g3' g4' g6' E2
  rintro k E X ⟨hX,g1,g3,g4,g6,hk⟩
  rw[hX]
  by_cases hkl:k=ht
  ·have hc:decide ((k:Int)<(ht:Int))=false:=by simp[hkl]
   simp only[g1,g6,nU,j1,kx,hc,qk_old,ruW,xF,ruU,Nat.reduceLT,Nat.reduceEqDiff]
   exact joinR_normal ⟨rfl,by simp only[g1,ruU,Nat.reduceEqDiff],by simp only[g3,ruU,Nat.reduceEqDiff],by simp only[g4,ruU,Nat.reduceEqDiff]⟩
  ·have hlt:k<ht:=by omega
   have hc:decide ((k:Int)<(ht:Int))=true:=decide_eq_true (by omega)
   obtain⟨l,hkr⟩:∃ l,R[k]?=some l:=⟨_,zA7 (by omega)⟩
   have hlm:=zC2 hkr
   obtain⟨rv,hrv,hor⟩:=oU.rvOf hkr
   have hrow:=hor.at_
   have hlw:=dw l hlm
   have hva:=lvalid_c U rv l hrow (by omega) (hwhole l hlm)
   have z6:decide (¬((l.length:Nat):Int)=(wd:Int))=false:=decide_eq_false (by omega)
   have hws:=wrap_succ (show k<1000000 by omega)
   rcases oU.at_ with⟨h,_⟩|⟨m,s1,cc1,o1',ev,hbm,hNm,hml,hmn⟩
   ·rw[h]at hkr; simp at hkr
   have hml':m<d+1:=nU▸hml
   rw[ev1,Value.slice.injEq]at ev
   obtain⟨rfl,_,rfl⟩:=ev
   have i1:=grid_ia (n:=m) (off:=0) (s:=s1) (cap:=gc) (i:=(k:Int)) (len:=R.length) rfl (by omega)
   have q1:∀ e,ldB Tryz.prog 34 (0+k) (some ⟨e,o1',rvs1⟩)=some rv:=fun e=>grid_load (by rw[zC0]; exact hrv)
   obtain⟨ra,rc,erv⟩:=hrow.sl
   have rm:=rk_of hbm
   rw[erv]at q1
   simp only[g1,g6,nU,j1,kx,hc,qk_old,ruW,xF,ruU,Nat.reduceLT,Nat.reduceEqDiff]
   refine w_drawB [] [(9,75)] (by kernel_rfl) (by kernel_rfl) (by kernel_rfl) fun ops anc hA hG=>?_
   simp only[all2_cons]at hG
   simp only[g1,g4,g6,nU,j1,j2,kU,kx,hG,i1,q1,rm,hml',z6,qk_old,ruD,ruW,xF,ruU,Nat.reduceLT,Nat.reduceAdd,Nat.reduceEqDiff]
   refine genV_quiet (v:=.bool true) (rowF l rv) (by simp only[ruU,Nat.reduceLT]) (by kernel_rfl) (by decide) (fun n hn=>by simpa[ext_nil]using hrow.f n hn) (fun K hK hg=>?_) (by simp (maxDischargeDepth:=6) only[ruD]) ?_
   ·simp only[ruU]
    rw[<-erv]
    exact lvalid_c K rv l (hrow.ofF (by rw[hK]; exact zA8 _) fun n hn=>by simpa[ext_nil]using hg n hn) (by omega) (hwhole l hlm)
   simp only[g6,hG,hws,ruD,ruW,ruU,Nat.reduceLT,Nat.reduceAdd,Nat.reduceEqDiff]
   exact loopC_next ⟨k+1,by omega,rfl,by simp only[g1,ruU,Nat.reduceEqDiff],by simp only[g3,ruU,Nat.reduceEqDiff],by simp only[g4,ruU,Nat.reduceEqDiff],by simp only[ruU],by omega⟩
 clear g1' g3' g4' g6' E2
 rintro E X ⟨hX,g1,g3,g4⟩
 rw[hX]
 simp only[ruW,ruU,Nat.reduceLT]
 refine w_env fun E2 hE=>?_
 have g1':E2 1=.pointer (some ⟨x+0,0,none⟩):=by rw[hE]; simp only[g1,ruU,Nat.reduceEqDiff]
 have g3':E2 3=.bool true:=by rw[hE]; simp only[g3,ruU,Nat.reduceEqDiff]
 have g4':E2 4=.pointer (some ⟨d+0,0,none⟩):=by rw[hE]; simp only[g4,ruU,Nat.reduceEqDiff]
 have g7':E2 7=.int .i64 ((0:Nat):Int):=by rw[hE]; (simp only[ruU]<;>rfl)
 clear hE g1 g3 g4 E
 have hfU:=hf.mod0 mHU
 have uP:Tryz.prog.underlying 22=some (.slice 43):=by kernel_rfl
 have sP:szOf Tryz.prog 43=some 15:=by kernel_rfl
 have uB:Tryz.prog.underlying 23=some (.slice 38):=by kernel_rfl
 have sB:szOf Tryz.prog 38=some 5:=by kernel_rfl
 have whm:IntKind.i64.wrap ((ht:Int)-1)=(ht:Int)-1:=wrap_sm (by omega) (by omega)
 have hpl:=bd.panes
 have hbl:=bd.bars
 refine blockC_meet (fun E' H'=>H'=ext U []/\E' 3=.bool true) ?_ ?_
 ·refine w_loop (fun (i:Nat) E' H'=>H'=ext U []/\E' 1=.pointer (some ⟨x+0,0,none⟩)/\E' 3=.bool true/\E' 4=.pointer (some ⟨d+0,0,none⟩)/\E' 7=.int .i64 (i:Int)/\i+1<=ht) (fun i=>ht-i) 0
   ⟨rfl,g1',g3',g4',g7',by omega⟩ ?_
  clear g1' g3' g4' g7' E2
  rintro i E X ⟨hX,g1,g3,g4,g7,hi⟩
  rw[hX]
  by_cases hil:i+1=ht
  ·have hc:decide ((i:Int)<(ht:Int)-1)=false:=decide_eq_false (by omega)
   simp only[g1,g7,nU,j1,kx,whm,hc,qk_old,ruW,xF,ruU,Nat.reduceLT,Nat.reduceEqDiff]
   exact joinR_normal ⟨rfl,by simp only[g3,ruU,Nat.reduceEqDiff]⟩
  have hlt:i+1<ht:=by omega
  have hc:decide ((i:Int)<(ht:Int)-1)=true:=decide_eq_true (by omega)
  simp only[g1,g7,nU,j1,kx,whm,hc,qk_old,ruW,xF,ruU,Nat.reduceLT,Nat.reduceEqDiff]
  refine w_env fun E2 hE=>?_
  have g1':E2 1=.pointer (some ⟨x+0,0,none⟩):=by rw[hE]; simp only[g1,ruU,Nat.reduceEqDiff]
  have g3':E2 3=.bool true:=by rw[hE]; simp only[g3,ruU,Nat.reduceEqDiff]
  have g4':E2 4=.pointer (some ⟨d+0,0,none⟩):=by rw[hE]; simp only[g4,ruU,Nat.reduceEqDiff]
  have g7':E2 7=.int .i64 (i:Int):=by rw[hE]; simp only[g7,ruU,Nat.reduceEqDiff]
  have g8':E2 8=.int .i64 ((0:Nat):Int):=by rw[hE]; (simp only[ruU]<;>rfl)
  clear hE g1 g3 g4 g7 E
  obtain⟨l,hkr⟩:∃ l,R[i]?=some l:=⟨_,zA7 (by omega)⟩
  have hlm:=zC2 hkr
  obtain⟨rv,hrv,hor⟩:=oU.rvOf hkr
  have hrow:=hor.at_
  have hlw:=dw l hlm
  rcases oU.at_ with⟨h,_⟩|⟨m,s1,cc1,o1',ev,hbm,hNm,hml,hmn⟩
  ·rw[h]at hkr; simp at hkr
  have hml':m<d+1:=nU▸hml
  rw[ev1,Value.slice.injEq]at ev
  obtain⟨rfl,_,rfl⟩:=ev
  have i1:=grid_ia (n:=m) (off:=0) (s:=s1) (cap:=gc) (i:=(i:Int)) (len:=R.length) rfl (by omega)
  have q1:∀ e,ldB Tryz.prog 34 (0+i) (some ⟨e,o1',rvs1⟩)=some rv:=fun e=>grid_load (by rw[zC0]; exact hrv)
  have rm:=rk_of hbm
  have hwsi:=wrap_succ (show i<1000000 by omega)
  refine w_loop (fun (k:Nat) E' H'=>H'=ext U []/\E' 1=.pointer (some ⟨x+0,0,none⟩)/\E' 3=.bool true/\E' 4=.pointer (some ⟨d+0,0,none⟩)/\E' 7=.int .i64 (i:Int)/\E' 8=.int .i64 (k:Int)/\k<=wd) (fun k=>wd-k) 0
   ⟨rfl,g1',g3',g4',g7',g8',by omega⟩ ?_
  clear g1' g3' g4' g7' g8' E2
  rintro k E X ⟨hX,g1,g3,g4,g7,g8,hk⟩
  rw[hX]
  by_cases hkl:k=wd
  ·have hc:decide ((k:Int)<(wd:Int))=false:=decide_eq_false (by omega)
   simp only[g1,g7,g8,nU,j1,kx,hc,hwsi,qk_old,ruW,xF,ruU,Nat.reduceLT,Nat.reduceAdd,Nat.reduceEqDiff]
   exact loopC_next ⟨i+1,by omega,rfl,by simp only[g1,ruU,Nat.reduceEqDiff],by simp only[g3,ruU,Nat.reduceEqDiff],by simp only[g4,ruU,Nat.reduceEqDiff],by simp only[ruU],by omega⟩
  have hkt:k<wd:=by omega
  have hc:decide ((k:Int)<(wd:Int))=true:=decide_eq_true (by omega)
  simp only[g1,g8,nU,j1,kx,hc,qk_old,ruW,xF,ruU,Nat.reduceLT,Nat.reduceAdd,Nat.reduceEqDiff]
  refine w_env fun E2 hE=>?_
  have g1':E2 1=.pointer (some ⟨x+0,0,none⟩):=by rw[hE]; simp only[g1,ruU,Nat.reduceEqDiff]
  have g3':E2 3=.bool true:=by rw[hE]; simp only[g3,ruU,Nat.reduceEqDiff]
  have g4':E2 4=.pointer (some ⟨d+0,0,none⟩):=by rw[hE]; simp only[g4,ruU,Nat.reduceEqDiff]
  have g7':E2 7=.int .i64 (i:Int):=by rw[hE]; simp only[g7,ruU,Nat.reduceEqDiff]
  have g8':E2 8=.int .i64 (k:Int):=by rw[hE]; simp only[g8,ruU,Nat.reduceEqDiff]
  have g9':E2 9=.bool false:=by rw[hE]; simp only[ruU,Nat.reduceEqDiff]
  have g10':E2 10=.int .i64 ((0:Nat):Int):=by rw[hE]; (simp only[ruU]<;>rfl)
  clear hE g1 g3 g4 g7 g8 E
  refine blockC_meet (fun E' H'=>H'=ext U []/\E' 1=.pointer (some ⟨x+0,0,none⟩)/\E' 3=.bool true/\E' 4=.pointer (some ⟨d+0,0,none⟩)/\E' 7=.int .i64 (i:Int)/\E' 8=.int .i64 (k:Int)/\E' 9=.bool (f.panes.any fun p=>inRc p.rect i k)) ?_ ?_
  ·refine w_loop (fun (j:Nat) E' H'=>H'=ext U []/\E' 1=.pointer (some ⟨x+0,0,none⟩)/\E' 3=.bool true/\E' 4=.pointer (some ⟨d+0,0,none⟩)/\E' 7=.int .i64 (i:Int)/\E' 8=.int .i64 (k:Int)/\E' 9=.bool ((f.panes.take j).any fun p=>inRc p.rect i k)/\E' 10=.int .i64 (j:Int)/\j<=f.panes.length) (fun j=>f.panes.length-j) 0
    ⟨rfl,g1',g3',g4',g7',g8',g9',g10',by omega⟩ ?_
   clear g1' g3' g4' g7' g8' g9' g10' E2
   rintro j E X ⟨hX,g1,g3,g4,g7,g8,g9,g10,hj⟩
   rw[hX]
   by_cases hjl:j=f.panes.length
   ·have hc:decide ((j:Int)<(f.panes.length:Int))=false:=decide_eq_false (by omega)
    rw[hjl,List.take_length]at g9
    simp only[g1,g10,nU,j1,kx,hc,qk_old,ruW,xF,ruU,Nat.reduceLT,Nat.reduceAdd,Nat.reduceEqDiff]
    exact joinR_normal ⟨rfl,by simp only[g1,ruU,Nat.reduceEqDiff],by simp only[g3,ruU,Nat.reduceEqDiff],by simp only[g4,ruU,Nat.reduceEqDiff],by simp only[g7,ruU,Nat.reduceEqDiff],by simp only[g8,ruU,Nat.reduceEqDiff],by simp only[g9,ruU,Nat.reduceEqDiff]⟩
   have hjt:j<f.panes.length:=by omega
   have hc:decide ((j:Int)<(f.panes.length:Int))=true:=decide_eq_true (by omega)
   have hws:=wrap_succ (show j<1000000 by omega)
   obtain⟨p,hpj⟩:∃ p,f.panes[j]?=some p:=⟨_,zA7 hjt⟩
   have hpok:=ok.pn (zC2 hpj)
   have hrok:rcOk p.rect:=by
    have o1:=hpok.top; have o2:=hpok.left; have o3:=hpok.height; have o4:=hpok.width; have o5:=hpok.th; have o6:=hpok.lw
    unfold rcOk
    omega
   obtain⟨n,off,s,c,e,o,M,cs,e1,n1,r1,hle,hM,rv',rfl,hRw⟩:=hfU.panes.one hpj
   have e1':=ep.symm.trans e1
   simp only[Value.slice.injEq,true_and]at e1'
   obtain⟨rfl,rfl⟩:=e1'
   rw[nU]at n1
   have ij:=ia_of (P:=Tryz.prog) (k:=.i64) (i:=j) (n:=n) (off:=off) (len:=f.panes.length) (cap:=pc) (s:=s) uP sP hjt
   have lj:ldB Tryz.prog 38 (off+j*15) (some ⟨e,o,M⟩)=some (.agg ⟨rcL p.rect⟩):=rect_load (by omega) hM
   have hin:=inRc_c U p.rect i k hrok
   obtain⟨bi,hbi⟩:∃ q,inRc p.rect i k=q:=⟨_,rfl⟩
   rw[hbi]at hin
   obtain⟨b9,hb9⟩:∃ q,((f.panes.take j).any fun p=>inRc p.rect i k)=q:=⟨_,rfl⟩
   rw[hb9]at g9
   have hnx:((f.panes.take (j+1)).any fun p=>inRc p.rect i k)=(b9||bi):=by
    rw[List.take_succ,List.any_append,hb9,hpj]
    simp only[Option.toList_some,List.any_cons,List.any_nil,Bool.or_false,hbi]
   unfold rcL at lj hin
   cases b9 with
   |true =>
    simp only[g1,g9,g10,nU,j1,kx,hc,hws,qk_old,ruW,xF,ruU,Nat.reduceLT,Nat.reduceAdd,Nat.reduceEqDiff]
    exact loopC_next ⟨j+1,by omega,rfl,by simp only[g1,ruU,Nat.reduceEqDiff],by simp only[g3,ruU,Nat.reduceEqDiff],by simp only[g4,ruU,Nat.reduceEqDiff],by simp only[g7,ruU,Nat.reduceEqDiff],by simp only[g8,ruU,Nat.reduceEqDiff],by rw[hnx]; simp only[Bool.true_or,ruU,Nat.reduceEqDiff],by simp only[ruU],by omega⟩
   |false =>
    simp only[g1,g7,g8,g9,g10,nU,j1,kx,hc,ij,lj,n1,r1,qk_old,ruW,xF,ruU,Nat.reduceLT,Nat.reduceAdd,Nat.reduceEqDiff]
    refine CallS.to (show Pure 8 _ (ext U []) _ from hin) ?_
    simp only[g10,hws,ruW,ruU,Nat.reduceLT,Nat.reduceEqDiff]
    exact loopC_next ⟨j+1,by omega,rfl,by simp only[g1,ruU,Nat.reduceEqDiff],by simp only[g3,ruU,Nat.reduceEqDiff],by simp only[g4,ruU,Nat.reduceEqDiff],by simp only[g7,ruU,Nat.reduceEqDiff],by simp only[g8,ruU,Nat.reduceEqDiff],by rw[hnx]; simp only[Bool.false_or,ruU,Nat.reduceEqDiff],by simp only[ruU],by omega⟩
  clear g1' g3' g4' g7' g8' g9' g10' E2
  rintro E X ⟨hX,g1,g3,g4,g7,g8,g9⟩
  rw[hX]
  simp only[ruW,ruU,Nat.reduceLT]
  obtain⟨bp,hbp⟩:∃ q,(f.panes.any fun p=>inRc p.rect i k)=q:=⟨_,rfl⟩
  rw[hbp]at g9
  refine w_env fun E2 hE=>?_
  have g1':E2 1=.pointer (some ⟨x+0,0,none⟩):=by rw[hE]; simp only[g1,ruU,Nat.reduceEqDiff]
  have g3':E2 3=.bool true:=by rw[hE]; simp only[g3,ruU,Nat.reduceEqDiff]
  have g4':E2 4=.pointer (some ⟨d+0,0,none⟩):=by rw[hE]; simp only[g4,ruU,Nat.reduceEqDiff]
  have g7':E2 7=.int .i64 (i:Int):=by rw[hE]; simp only[g7,ruU,Nat.reduceEqDiff]
  have g8':E2 8=.int .i64 (k:Int):=by rw[hE]; simp only[g8,ruU,Nat.reduceEqDiff]
  have g9':E2 9=.bool (bp||(f.bars.take 0).any fun r=>inRc r i k):=by rw[hE]; simp only[g9,List.take_zero,List.any_nil,Bool.or_false,ruU,Nat.reduceEqDiff]
  have g11':E2 11=.int .i64 ((0:Nat):Int):=by rw[hE]; (simp only[ruU]<;>rfl)
  clear hE g1 g3 g4 g7 g8 g9 E
  refine blockC_meet (fun E' H'=>H'=ext U []/\E' 1=.pointer (some ⟨x+0,0,none⟩)/\E' 3=.bool true/\E' 4=.pointer (some ⟨d+0,0,none⟩)/\E' 7=.int .i64 (i:Int)/\E' 8=.int .i64 (k:Int)/\E' 9=.bool (bp||f.bars.any fun r=>inRc r i k)) ?_ ?_
  ·refine w_loop (fun (j:Nat) E' H'=>H'=ext U []/\E' 1=.pointer (some ⟨x+0,0,none⟩)/\E' 3=.bool true/\E' 4=.pointer (some ⟨d+0,0,none⟩)/\E' 7=.int .i64 (i:Int)/\E' 8=.int .i64 (k:Int)/\E' 9=.bool (bp||(f.bars.take j).any fun r=>inRc r i k)/\E' 11=.int .i64 (j:Int)/\j<=f.bars.length) (fun j=>f.bars.length-j) 0
    ⟨rfl,g1',g3',g4',g7',g8',g9',g11',by omega⟩ ?_
   clear g1' g3' g4' g7' g8' g9' g11' E2
   rintro j E X ⟨hX,g1,g3,g4,g7,g8,g9,g11,hj⟩
   rw[hX]
   by_cases hjl:j=f.bars.length
   ·have hc:decide ((j:Int)<(f.bars.length:Int))=false:=decide_eq_false (by omega)
    rw[hjl,List.take_length]at g9
    simp only[g1,g11,nU,j1,kx,hc,qk_old,ruW,xF,ruU,Nat.reduceLT,Nat.reduceAdd,Nat.reduceEqDiff]
    exact joinR_normal ⟨rfl,by simp only[g1,ruU,Nat.reduceEqDiff],by simp only[g3,ruU,Nat.reduceEqDiff],by simp only[g4,ruU,Nat.reduceEqDiff],by simp only[g7,ruU,Nat.reduceEqDiff],by simp only[g8,ruU,Nat.reduceEqDiff],by simp only[g9,ruU,Nat.reduceEqDiff]⟩
   have hjt:j<f.bars.length:=by omega
   have hc:decide ((j:Int)<(f.bars.length:Int))=true:=decide_eq_true (by omega)
   have hws:=wrap_succ (show j<1000000 by omega)
   obtain⟨p,hpj⟩:∃ p,f.bars[j]?=some p:=⟨_,zA7 hjt⟩
   have hrok:rcOk p:=by
    have:=ins_ok (h:=f.height) (w:=f.width) (by omega) (by omega) (ok.bars p (zC2 hpj))
    exact this
   obtain⟨n,off,s,c,e,o,M,cs,e1,n1,r1,hle,hM,hcs⟩:=hfU.bars.one hpj
   have hcs':cs=rcL p:=hcs
   subst hcs'
   have e1':=eb.symm.trans e1
   simp only[Value.slice.injEq,true_and]at e1'
   obtain⟨rfl,rfl⟩:=e1'
   rw[nU]at n1
   have ij:=ia_of (P:=Tryz.prog) (k:=.i64) (i:=j) (n:=n) (off:=off) (len:=f.bars.length) (cap:=bc) (s:=s) uB sB hjt
   have lj:ldB Tryz.prog 38 (off+j*5) (some ⟨e,o,M⟩)=some (.agg ⟨rcL p⟩):=bar_load (by omega) hM
   have hin:=inRc_c U p i k hrok
   obtain⟨bi,hbi⟩:∃ q,inRc p i k=q:=⟨_,rfl⟩
   rw[hbi]at hin
   obtain⟨b9,hb9⟩:∃ q,(bp||(f.bars.take j).any fun r=>inRc r i k)=q:=⟨_,rfl⟩
   rw[hb9]at g9
   have hnx:(bp||(f.bars.take (j+1)).any fun r=>inRc r i k)=(b9||bi):=by
    rw[List.take_succ,List.any_append,<-Bool.or_assoc,hb9,hpj]
    simp only[Option.toList_some,List.any_cons,List.any_nil,Bool.or_false,hbi]
   unfold rcL at lj hin
   cases b9 with
   |true =>
    simp only[g1,g9,g11,nU,j1,kx,hc,hws,qk_old,ruW,xF,ruU,Nat.reduceLT,Nat.reduceAdd,Nat.reduceEqDiff]
    exact loopC_next ⟨j+1,by omega,rfl,by simp only[g1,ruU,Nat.reduceEqDiff],by simp only[g3,ruU,Nat.reduceEqDiff],by simp only[g4,ruU,Nat.reduceEqDiff],by simp only[g7,ruU,Nat.reduceEqDiff],by simp only[g8,ruU,Nat.reduceEqDiff],by rw[hnx]; simp only[Bool.true_or,ruU,Nat.reduceEqDiff],by simp only[ruU],by omega⟩
   |false =>
    simp only[g1,g7,g8,g9,g11,nU,j1,kx,hc,ij,lj,n1,r1,qk_old,ruW,xF,ruU,Nat.reduceLT,Nat.reduceAdd,Nat.reduceEqDiff]
    refine CallS.to (show Pure 8 _ (ext U []) _ from hin) ?_
    simp only[g11,hws,ruW,ruU,Nat.reduceLT,Nat.reduceEqDiff]
    exact loopC_next ⟨j+1,by omega,rfl,by simp only[g1,ruU,Nat.reduceEqDiff],by simp only[g3,ruU,Nat.reduceEqDiff],by simp only[g4,ruU,Nat.reduceEqDiff],by simp only[g7,ruU,Nat.reduceEqDiff],by simp only[g8,ruU,Nat.reduceEqDiff],by rw[hnx]; simp only[Bool.false_or,ruU,Nat.reduceEqDiff],by simp only[ruU],by omega⟩
  clear g1' g3' g4' g7' g8' g9' g11' E2
  rintro E X ⟨hX,g1,g3,g4,g7,g8,g9⟩
  rw[hX]
  have hws:=wrap_succ (show k<1000000 by omega)
  obtain⟨bb,hbb⟩:∃ q,(bp||f.bars.any fun r=>inRc r i k)=q:=⟨_,rfl⟩
  rw[hbb]at g9
  cases bb with
  |true =>
   simp only[g8,g9,hws,Bool.not_true,ruW,ruU,Nat.reduceLT,Nat.reduceEqDiff]
   exact loopC_next ⟨k+1,by omega,rfl,by simp only[g1,ruU,Nat.reduceEqDiff],by simp only[g3,ruU,Nat.reduceEqDiff],by simp only[g4,ruU,Nat.reduceEqDiff],by simp only[g7,ruU,Nat.reduceEqDiff],by simp only[ruU],by omega⟩
  |false =>
   simp only[Bool.or_eq_false_iff]at hbb
   obtain⟨rfl,hb2⟩:=hbb
   have hcell:=dk i k (by omega) (by omega) (fun p hp=>by
    rw[List.any_eq_false]at hbp
    simpa using hbp p hp) (fun r hr=>by
    rw[List.any_eq_false]at hb2
    simpa using hb2 r hr)
   unfold cellG at hcell
   rw[hkr,zA3]at hcell
   have hkll:k<l.length:=by omega
   rcases hrow with⟨h,_⟩|⟨_,n1,o1,s2,x1,t1,p1,L1,erv,b1,n1l,le1,tk1⟩
   ·rw[h]at hkll; simp at hkll
   have n1l':n1<d+1:=nU▸n1l
   have i2:=row_ia (n:=n1) (off:=o1) (s:=s2) (cap:=x1) (len:=l.length) (i:=(k:Int)) rfl hkll
   have q2:=row_load (e:=t1) (o:=p1) hcell le1 tk1
   unfold Ce.val at q2
   rw[erv]at q1
   simp only[g4,g7,g8,g9,nU,j2,kU,i1,q1,rm,hml',i2,b1,n1l',q2,Bool.not_false,qk_old,ruW,xF,ruU,Nat.reduceLT,Nat.reduceEqDiff]
   refine w_eqS (ts:=[3,3,3,4,4,4]) (xs:=spC.cells) (ys:=spC.cells) (r:=false) fl55 ag55 gd55 (by rw[ce_eqL,decide_eq_true rfl]; rfl) rfl rfl (by decide) (by simp only[ruU,Nat.reduceEqDiff]; rfl) (by simp only[ruU]; rfl) (ce_fits _) (ce_fits _) ?_
   simp only[g8,hws,ruW,ruU,Nat.reduceLT,Nat.reduceEqDiff]
   exact loopC_next ⟨k+1,by omega,rfl,by simp only[g1,ruU,Nat.reduceEqDiff],by simp only[g3,ruU,Nat.reduceEqDiff],by simp only[g4,ruU,Nat.reduceEqDiff],by simp only[g7,ruU,Nat.reduceEqDiff],by simp only[ruU],by omega⟩
 clear g1' g3' g4' g7' E2
 rintro E X ⟨hX,g3⟩
 rw[hX]
 simp only[g3,Tryz.results3,ruW,ruU,Nat.reduceLT]
 exact⟨trivial,mHU⟩
end Go.Proofs.YtfpckllenkifkaaGreatDoor
namespace Go.Ax
open Go.ChangeShapes
section
variable {P : Program} {w : World}
theorem tabsH_mem (N:Nat):∀ (T:List (Nat × TypeId × List Value)) (n:Nat),(tabsH N T).get n≠none->∃ x∈T,x.1=n
 |[],n,h=>absurd (none_get _ n) h
 |(g,e,vs)::r,n,h=>by
  rw[tabsH,AHeap.get_put]at h
  by_cases hg:n=g
  ·exact⟨(g,e,vs),by simp,hg.symm⟩
  ·rw[if_neg hg]at h
   obtain⟨x,hx,e⟩:=tabsH_mem N r n h
   exact⟨x,by simp[hx],e⟩
theorem Ro.tabs (T:List (Nat × TypeId × List Value)) (h:∀ x∈T,x.1<P.globals.size/\afL x.2.2=true/\∃ c,w.heap[x.1]?=some (.cells c x.2.1 (0,0))/\c.toList=x.2.2) (h8:∀ x∈T,x.2.2.all isU8=true):Ro P Ren.same (tabsH P.globals.size T) w:=by
 obtain⟨k1,k2,k3⟩:=tabsH_next P.globals.size T
 refine⟨rel_tabs T h,by rw[k1,k2],k3,fun n hn=>.inr ?_⟩
 obtain⟨x,hx,rfl⟩:=tabsH_mem _ T n hn
 obtain⟨h1,_,c,h3,h4⟩:=h x hx
 exact⟨h1,c,_,h3,fun v hv=>by rw[h4]at hv; exact zC4.1 (h8 x hx) v hv⟩
theorem bk_put_eq {H:AHeap} {g:Nat} {e:TypeId} {vs:List Value}:bk (H.put g (some (tabO e vs))) g=some ⟨e,false,vs⟩:=by
 refine blk_bk ⟨RV.ofList vs,?_,RV.n_ofList _,fun i hi=>?_⟩
 ·simp only[cellsAt,AHeap.get_put,if_true,tabO]
 ·rw[RV.get_ofList]
theorem bk_put_ne {H:AHeap} {g n:Nat} {e:TypeId} {vs:List Value} {b:Option Bl} (hn:n≠g) (h:bk H n=b):bk (H.put g (some (tabO e vs))) n=b:=(bk_get (by rw[AHeap.get_put,if_neg hn])).trans h
end
end Go.Ax
namespace Go.Proofs.YtfpckllenkifkaaGreatDoor
open Go.ChangeShapes Go.WideShapes Go.ChangeAt Go.RowKit Go.Ax
theorem trodAll_carry {K:Type} {enc:TypeId × Value->K} {P:Program} (hl:laidOutB P=true) {W W':World} (hb:Below W.heap.size W W'):∀ {ts:List TypeId} {vs:List Value} {ds:List (DataW K)} {ps:List MemPlace},
  (ts.all fun t=>P.readableRec t&&Nat.blt t P.types.size)=true->DataW.TrodAll enc P W 0 (fun _=>true) true ts vs ds ps->(∀ x∈ps,x.block<W.heap.size)->DataW.TrodAll enc P W' 0 (fun b=>decide (b<W.heap.size)) true ts vs ds ps
 |[],[],[],ps,_,h,_=>h
 |t::ts,v::vs,d::ds,ps,ht,h,hp=>by
  obtain⟨p,q,h1,h2,rfl⟩:=h
  simp only[List.all_cons,zA4]at ht
  exact⟨p,q,Below.trod hl ht.1.1 (blt_lt ht.1.2) h1 hb (fun x hx=>hp x (by simp[hx])),trodAll_carry hl hb (by simpa using ht.2) h2 (fun x hx=>hp x (by simp[hx])),rfl⟩
theorem ownZ:ownKnob Tryz.prog.godebug=none:=by kernel_rfl
theorem laidOutZ:laidOutB Tryz.prog=true:=by kernel_rfl
def Laid (w:World) (e1 e2 e3 e4 e5:TypeId):Prop:=(∃ c,w.heap[0]?=some (.cells c e1 (0,0))/\c.toList=dc fstD)/\(∃ c,w.heap[1]?=some (.cells c e2 (0,0))/\c.toList=dc accD)/\(∃ c,w.heap[3]?=some (.cells c e3 (0,0))/\c.toList=dc powD)/\(∃ c,w.heap[4]?=some (.cells c e4 (0,0))/\c.toList=dc b32D)/\∃ c,w.heap[5]?=some (.cells c e5 (0,0))/\c.toList=dc b64D
theorem tabs_laid {w:World} (h:laidMet Tryz.prog Rows.frameValidRow.laid w):∃ e1 e2 e3 e4 e5,Laid w e1 e2 e3 e4 e5:=by
 obtain⟨c1,t1,a1,b1⟩:=laid_tab h (name := "unicode/utf8.first") (d:=fstD) (.tail _ (.tail _ (.tail _ (.tail _ (.head _))))) (g:=0) (t:=127) (e:=5) (ts:=[5]) (D:=1000) (n:=256) (by kernel_rfl) (by kernel_rfl) (by kernel_rfl) (by kernel_rfl) (by kernel_rfl) (by kernel_rfl) (by kernel_rfl) (blt_lt (by kernel_rfl))
 obtain⟨c2,t2,a2,b2⟩:=laid_tab h (name := "unicode/utf8.acceptRanges") (d:=accD) (.tail _ (.tail _ (.tail _ (.head _)))) (g:=1) (t:=130) (e:=129) (ts:=[5,5]) (D:=1000) (n:=16) (by kernel_rfl) (by kernel_rfl) (by kernel_rfl) (by kernel_rfl) (by kernel_rfl) (by kernel_rfl) (by kernel_rfl) (blt_lt (by kernel_rfl))
 obtain⟨c3,t3,a3,b3⟩:=laid_tab h (name := "internal/strconv.uint64pow10") (d:=powD) (.tail _ (.tail _ (.head _))) (g:=3) (t:=145) (e:=120) (ts:=[120]) (D:=1000) (n:=20) (by kernel_rfl) (by kernel_rfl) (by kernel_rfl) (by kernel_rfl) (by kernel_rfl) (by kernel_rfl) (by kernel_rfl) (blt_lt (by kernel_rfl))
 obtain⟨c4,t4,a4,b4⟩:=laid_tab h (name := "math/bits.deBruijn32tab") (d:=b32D) (.head _) (g:=4) (t:=150) (e:=5) (ts:=[5]) (D:=1000) (n:=32) (by kernel_rfl) (by kernel_rfl) (by kernel_rfl) (by kernel_rfl) (by kernel_rfl) (by kernel_rfl) (by kernel_rfl) (blt_lt (by kernel_rfl))
 obtain⟨c5,t5,a5,b5⟩:=laid_tab h (name := "math/bits.deBruijn64tab") (d:=b64D) (.tail _ (.head _)) (g:=5) (t:=151) (e:=5) (ts:=[5]) (D:=1000) (n:=64) (by kernel_rfl) (by kernel_rfl) (by kernel_rfl) (by kernel_rfl) (by kernel_rfl) (by kernel_rfl) (by kernel_rfl) (blt_lt (by kernel_rfl))
 exact⟨t1,t2,t3,t4,t5,⟨c1,a1,b1⟩,⟨c2,a2,b2⟩,⟨c3,a3,b3⟩,⟨c4,a4,b4⟩,c5,a5,b5⟩
theorem Laid.ro {W:World} {e1 e2 e3 e4 e5:TypeId} (h:Laid W e1 e2 e3 e4 e5):∃ ρ H,Ro Tryz.prog ρ H W/\Tab5 H/\6<=H.next:=by
 refine⟨_,_,Ro.tabs (tabT e1 e2 e3 e4 e5) (fun x hx=>?_) (fun x hx=>?_),⟨e1,e2,e3,e4,e5,bk_put_eq,bk_put_ne (by decide) bk_put_eq,bk_put_ne (by decide) (bk_put_ne (by decide) bk_put_eq),bk_put_ne (by decide) (bk_put_ne (by decide) (bk_put_ne (by decide) bk_put_eq)),bk_put_ne (by decide) (bk_put_ne (by decide) (bk_put_ne (by decide) (bk_put_ne (by decide) bk_put_eq)))⟩,?_⟩
 ·simp only[tabT,zB1,List.not_mem_nil,or_false]at hx
  rcases hx with rfl|rfl|rfl|rfl|rfl
  ·exact⟨show 0<Tryz.prog.globals.size by decide +kernel,by kernel_rfl,h.1⟩
  ·exact⟨show 1<Tryz.prog.globals.size by decide +kernel,by kernel_rfl,h.2.1⟩
  ·exact⟨show 3<Tryz.prog.globals.size by decide +kernel,by kernel_rfl,h.2.2.1⟩
  ·exact⟨show 4<Tryz.prog.globals.size by decide +kernel,by kernel_rfl,h.2.2.2.1⟩
  ·exact⟨show 5<Tryz.prog.globals.size by decide +kernel,by kernel_rfl,h.2.2.2.2⟩
 ·simp only[tabT,zB1,List.not_mem_nil,or_false]at hx
  rcases hx with rfl|rfl|rfl|rfl|rfl
  ·exact (by kernel_rfl:(dc fstD).all isU8=true)
  ·exact (by kernel_rfl:(dc accD).all isU8=true)
  ·exact (by kernel_rfl:(dc powD).all isU8=true)
  ·exact (by kernel_rfl:(dc b32D).all isU8=true)
  ·exact (by kernel_rfl:(dc b64D).all isU8=true)
 ·rw[(tabsH_next Tryz.prog.globals.size (tabT e1 e2 e3 e4 e5)).1]
  exact zB2 (by kernel_rfl)
section
variable {W : World} {ρ : Ren} {H : AHeap}
theorem slAt_sc (R:Rel Tryz.prog ρ H W) {sz len:Nat} {u:Value} {vs:List Value} (h:SlAt H sz u vs len):scbL H.next vs=true:=by
 obtain⟨h1,a,c,rfl,h0|⟨n,e,rfl,hn,hb,hc⟩⟩:=h
 ·subst h0
  rw[Nat.zero_mul]at h1
  rw[zD4 h1]
  rfl
 ·exact R.rk_sc hb
theorem its_rd (R:Rel Tryz.prog ρ H W) {α:Type} {A A':List Value->α->Prop} {sz:Nat} {u:Value} {l:List α} (h:ItemsAt H sz A u l) (hA:∀ cs a,scbL H.next cs=true->A cs a->A' cs a):ItR H sz A' u l:=by
 obtain⟨vs,h1,h2⟩:=h
 exact⟨vs,SlAt.rdF h1,fun i a hi=>hA _ _ (scbL_sub (slAt_sc R h1) fun v hv=>List.mem_of_mem_drop (List.mem_of_mem_take hv)) (h2 i a hi)⟩
theorem rw_rd {cs:List Value} {r:Rw} (hs:scbL H.next cs=true) (h:RwAt H cs r):RwC H cs r:=by
 obtain⟨cv,pv,rfl,h1,h2,_⟩:=h
 exact⟨cv,pv,rfl,SlAt.rdF h1,SlAt.rdF h2,scbL_mem hs (by simp),scbL_mem hs (by simp)⟩
theorem cut_of (R:Rel Tryz.prog ρ H W) {rv:Value} {rows:List Rw} (h:ItemsAt H 5 (RwAt H) rv rows) (hc:Cut0 rv):CutR H rv rows:=by
 intro k hk
 obtain⟨vs,h1,h2⟩:=h
 have hrw:∀ (i:Nat) (r:Rw),rows[i]?=some r->RwC H ((vs.drop (i*5)).take 5) r:=fun i r hi=>rw_rd (scbL_sub (slAt_sc R h1) fun v hv=>List.mem_of_mem_drop (List.mem_of_mem_take hv)) (h2 i r hi)
 have u53:Tryz.prog.underlying 39=some (.slice 55):=by kernel_rfl
 have s58:szOf Tryz.prog 55=some 5:=by kernel_rfl
 obtain⟨hvl,a0,cap0,hv0,hor⟩:=h1
 obtain⟨a,len,cap,rfl,hlc,hcase⟩:=hc
 simp only[Value.slice.injEq]at hv0
 obtain⟨rfl,rfl,rfl⟩:=hv0
 have hb:bound rows.length (some (.int .i64 (k:Int)))=some k:=by simp[bound]
 have h0:bound 0 none=some 0:=rfl
 have nil0:∀ (a:Option Addr) (c:Nat),k=0->ItR H 5 (RwC H) (.slice a k c) (rows.take k):=fun a c hk0=>by
  subst hk0
  exact⟨[],RdAt.nil,fun i r hi=>by simp at hi⟩
 rcases hcase with⟨rfl,hl0⟩|⟨n,rfl⟩|⟨hl0,n,rfl⟩
 ·refine⟨none,cap,fun G _=>?_,nil0 _ _ (by omega),fun n hn=>hn⟩
  simp only[aSlice,u53,s58,aSlice2,hb,h0,zA1,zA3]
  rw[if_pos ⟨by omega,zA9 _⟩,Nat.sub_zero,Nat.sub_zero]
 ·refine⟨some ⟨n,0,some 0⟩,cap,fun G _=>?_,?_,fun n hn=>hn⟩
  ·simp only[aSlice,u53,s58,aSlice2,hb,h0,zA1,zA3,exactAt]
   rw[if_pos ⟨by omega,zA9 _⟩,Nat.sub_zero,Nat.sub_zero]
   simp
  ·by_cases hk0:k=0
   ·exact nil0 _ _ hk0
   ·obtain⟨n',e,hn',hlt,hbk,_⟩:=hor.resolve_left (by omega)
    simp only[Option.some.injEq,Addr.mk.injEq,and_true]at hn'
    subst hn'
    have htl:(rows.take k).length=k:=by rw[zE3]; omega
    refine⟨vs.take (k*5),⟨by rw[zE3,htl]; omega,.inr ⟨by omega,n,0,some 0,cap,e,true,vs,by rw[htl],hbk,hlt,by rw[htl]; omega,by rw[zC7,htl]⟩⟩,fun i r hi=>?_⟩
    have hik:i<k:=by
     have:=(List.getElem?_eq_some_iff.1 hi).1
     omega
    rw[List.getElem?_take,if_pos hik]at hi
    have:=hrw i r hi
    rw[List.drop_take,List.take_take,show min 5 (k*5-i*5)=5 by omega]
    exact this
 ·refine⟨some ⟨n,0,some 1⟩,cap,fun G _=>?_,nil0 _ _ (by omega),fun n hn=>hn⟩
  obtain rfl:k=0:=by omega
  simp only[aSlice,u53,s58,aSlice2,hb,h0,zA1,zA3,exactAt]
  rw[if_pos ⟨by omega,zA9 _⟩,if_pos ⟨trivial,by omega,by simp⟩,hl0]
theorem pn_rd (R:Rel Tryz.prog ρ H W) {cs:List Value} {p:Pn} (hs:scbL H.next cs=true) (h:PnAt H cs p):PnC true H cs p:=by
 obtain⟨rv,rfl,h1,hc⟩:=h
 exact⟨rv,rfl,its_rd R h1 fun _ _=>rw_rd,scbL_mem hs (by simp),fun _=>cut_of R h1 hc⟩
theorem fr_rd (R:Rel Tryz.prog ρ H W) {cs:List Value} {f:Fr} (hs:scbL H.next cs=true) (h:FrAt H cs f):∃ pv bv,cs=frL pv bv f/\FrR true H pv bv f:=by
 obtain⟨pv,bv,rfl,h1,h2⟩:=h
 exact⟨pv,bv,rfl,⟨its_rd R h1 fun _ _ hc=>pn_rd R hc,its_rd R h2 fun _ _ _ h=>h,scbL_mem hs (by simp),scbL_mem hs (by simp)⟩⟩
end
end Go.Proofs.YtfpckllenkifkaaGreatDoor
