/- Parts of the proof, one behind the other. -/
import Derived.Test.YtpohjcacnkhnkaaGreatDoorM8
import Derived.Test.YtpohjcacnkhnkaaGreatDoorM7
set_option linter.all false
set_option maxRecDepth 10000
set_option maxHeartbeats 16000000
open Option renaming some->a9,none->bi
open Bool renaming true->bv,false->ci
open Decidable renaming decide->f7
open Go renaming Value->go,TypeId->io,Program->ip,World->i6,Operand->i7
open Option.some renaming injEq->i8
open Prod.mk renaming injEq->i9
open Go.Value renaming int->jp,pointer->li,slice->lm,bool->ls
open Go.IntKind renaming i64->kw
open And renaming intro -> zA0
open Option renaming bind_eq_bind -> zA1, bind_eq_some_iff -> zA2, bind_some -> zA3, map_some -> zB2, map_eq_some_iff -> zB5, getD_some -> zH9
open Nat renaming le_refl -> zA4, le_of_ble_eq_true -> zA7, zero_le -> zB7, lt_or_ge -> zC0, zero_add -> zC2, le_trans -> zC4, add_zero -> zD5, lt_of_lt_of_le -> zE0, ble_eq -> zE8, mul_one -> zF0, lt_succ_self -> zF3, le_of_eq -> zF6, min -> zF9, add_sub_cancel_left -> zG2, sub_self -> zG8, min_eq_left -> zH0, zero_mul -> zH1
open List renaming mem_singleton -> zA5, mem_cons -> zA8, length_cons -> zA9, getElem?_eq_getElem -> zB0, mem_append -> zB1, length_append -> zB3, length_nil -> zB4, nil_append -> zB6, map_cons -> zB8, mem_cons_of_mem -> zB9, mem_map -> zC1, all_eq_true -> zC3, mem_of_getElem? -> zC5, length_drop -> zC6, append_nil -> zC7, append_assoc -> zC8, getD_eq_getElem?_getD -> zC9, drop_zero -> zD0, getElem?_eq_none -> zD3, take_of_length_le -> zD4, nodup_cons -> zD6, not_mem_nil -> zD7, length_take -> zD9, length_map -> zE1, mem_of_mem_take -> zE2, cons_append -> zE3, mem_of_mem_drop -> zE4, eq_nil_of_length_eq_zero -> zE5, nodup_append -> zE6, map_nil -> zE7, drop_eq_nil_of_le -> zE9, length_replicate -> zF1, mem_cons_self -> zF2, getElem?_eq_some_iff -> zF5, mem_range -> zF7, mem_append_left -> zF8, getElem?_map -> zG0, getElem?_cons_zero -> zG1, mem_flatMap -> zG3, take_add_one -> zG4, getElem?_append_right -> zG5, mem_append_right -> zG6, take_append_drop -> zG9, take_length -> zH2, drop_drop -> zH3, drop_eq_getElem_cons -> zH4, eq_of_mem_replicate -> zH6, getElem?_cons_succ -> zH8, length_singleton -> zI0
open Bool renaming and_eq_true -> zA6, not_true -> zD1, false_eq_true -> zD2, and_self -> zD8, not_false -> zF4, or_eq_true -> zH5, or_false -> zH7
open Int renaming toNat_natCast -> zG7
namespace Go.Proofs.YtpohjcacnkhnkaaGreatDoor
open Go.Ax
def tn{row i e:Nat}{a b:List Ce}(h:¬(bM a b i e).1<(bM a b i e).2):∀(f:Nat)(p:Lk),eP row a b e f i p=([],p)
 |0,_=>rfl
 |f+1,p=>by rw[eP,if_neg h]
def iN.WE{H:aa}{v:go}{l:List Ce}(h:iN H v l)(cn:l≠[]):aV H.next v=true:=by
 rcases h with⟨h,_⟩|⟨_,h⟩
 .exact absurd h cn
 .exact h.sc
def iN.one{H:aa}{v:go}{l:List Ce}(h:iN H v l):one v=true:=by obtain⟨a,c,rfl⟩:=h.sl;rfl
def iN.get{H:aa}{v:go}{l:List Ce}(h:iN H v l)(cn:l≠[]):∀ n∈ae v,H.get n≠none:=fun n a=>by
 rcases h with⟨h,_⟩|⟨_,h⟩
 .exact absurd h cn
 .exact (h.ne n a).1
def Ug(N:Nat)(F:List Nat)(H:aa)(p:Nat)(v O ub:go)(l:List Op)(k:Lk)(row:Nat)(a b:List Ce)(w:fq N F H p v l k)(h0:iN H O a)(h1:iN H ub b)(hi0:∀ n∈ae O,n<N\/n∈F)(hi1:∀ n∈ae ub,n<N\/n∈F)
  (hab:a.length=b.length) (cn:b≠[]) (hbl:b.length<=10000) (hll:l.length+3*b.length<=70000) (hc:∀ c∈b,c.rune≠-1->oA c.rune=bv) (hok:H.base<=H.next) (hN:N<=H.next) :
  bF Tryz.prog 49 [li (a9 ⟨p,0,bi⟩),jp kw (row:Int),O,ub] H (fun out X=>out=.ok (.tuple #[])/\∃ v',fq N F X p v' (l++(oc row a b k).1) (oc row a b k).2/\iQ N F H X):=by
 obtain⟨x,hx⟩:=ac H.next;have R:a≠[]:=fun e=>cn (zE5 (by rw[<-hab,e]; rfl));have hpl:=w.lt;rw[hx]at hpl;have hsb:=h1.WE cn;have hsa:=h0.WE R;have hob:=h1.one;have hoa:=h0.one;rw[hx]at hsb hsa;have hsb':=hsb;obtain⟨a1,c1,e1⟩:=h1.sl;rw[e1]at hsb';refine aI mixed Tryz.func49 rfl Tryz.ntmps49 (zA7 rfl) ?_;rw[e1];simp (maxDischargeDepth:=6) only[hx,hpl,hsb',zW,Nat.reduceLT,Nat.reduceAdd,Nat.reduceEqDiff];rw[<-e1];refine da fun E D=>?_;have S:E 2=O:=by rw[D]; rfl
 have g4:E 4=li (a9 ⟨x+0,0,bi⟩):=by rw[D]; rfl
 have g5:E 5=li (a9 ⟨x+1,0,bi⟩):=by rw[D]; rfl
 have P:E 7=li (a9 ⟨x+2,0,bi⟩):=by rw[D]; rfl
 have J:E 8=jp kw (b.length:Int):=by rw[D]; rfl
 clear D;generalize hX:ext H _=X;have mX:Mod [] H X:=hX▸Mod.ext hok;have nX:X.next=x+3:=by rw[<-hX,ai,hx]; rfl
 have okX:=mX.ok hok;have bX0:bk X (x+0)=a9 ⟨88,ci,[li (a9 ⟨p,0,bi⟩)]⟩:=by rw[<-hX,aZ hx nl]; rfl
 have bX1:bk X (x+1)=a9 ⟨3,ci,[jp kw (row:Int)]⟩:=by rw[<-hX,aZ hx nl]; rfl
 have bX2:bk X (x+2)=a9 ⟨56,ci,[ub]⟩:=by rw[<-hX,aZ hx nl]; rfl
 clear hX;have lx2:x+2<x+3:=by omega
 obtain⟨T,hT⟩:=ac (mS b b.length);have hTl:=uq b b.length;rw[hT]at hTl;have h1X:=h1.df mX;refine aS (fun u H'=>H'=ext X []/\u 2=O/\u 4=li (a9 ⟨x+0,0,bi⟩)/\u 5=li (a9 ⟨x+1,0,bi⟩)/\u 7=li (a9 ⟨x+2,0,bi⟩)/\u 8=jp kw (T:Int)) ?_ ?_
 .refine cp (fun (j:Nat) u H'=>H'=ext X []/\u 2=O/\u 4=li (a9 ⟨x+0,0,bi⟩)/\u 5=li (a9 ⟨x+1,0,bi⟩)/\u 7=li (a9 ⟨x+2,0,bi⟩)/\u 8=jp kw (j:Int)/\j<=b.length/\mS b j=T) (fun j=>j) b.length ⟨rfl,S,g4,g5,P,J,zA4 _,hT⟩ ?_;clear S g4 g5 P J;rintro j E H' ⟨hH,S,g4,g5,P,J,hj,ht⟩;rw[hH]
  cases j with
  |zero =>
   have hc0:f7 ((0:Int)<((0:Nat):Int))=false:=by decide
   rw[mS]at ht;simp (maxDischargeDepth:=6) only[J,hc0,zW,Nat.reduceLT,Nat.reduceEqDiff];exact ag ⟨rfl,by simp only[S,aF,Nat.reduceEqDiff],by simp only[g4,aF,Nat.reduceEqDiff],by simp only[g5,aF,Nat.reduceEqDiff],by simp only[P,aF,Nat.reduceEqDiff],by simp only[J,aF,Nat.reduceEqDiff]; rw[<-ht]⟩
  |succ j =>
   have hc0:f7 ((0:Int)<((j+1:Nat):Int))=true:=decide_eq_true lw;have wk:IntKind.i64.wrap (((j+1:Nat):Int)-1)=(j:Int):=(aR lw lw).trans lw
   rcases id h1X.at_ with⟨h,_⟩|⟨_,n1,o1,s1,x1,t1,p1,L1,ev1,b1,n1l,le1,tk1⟩
   .exact absurd h cn
   obtain⟨r1,hr1⟩:∃ r,b[j]?=a9 r:=⟨_,zB0 lw⟩
   have i1:=eU (n:=n1) (off:=o1) (s:=s1) (cap:=x1) (len:=b.length) (i:=(j:Int)) rfl lw;have q1:=gm (e:=t1) (o:=p1) hr1 le1 tk1;rw[nX]at n1l;rw[mS,hr1]at ht;have bX2':=bX2;rw[ev1]at bX2';obtain⟨d,hd⟩:=ac (f7 (r1=Ce.sp));simp (maxDischargeDepth:=6) only[P,J,nX,bX2',lx2,hc0,wk,i1,b1,n1l,q1,cm,Ce.val,zW,Nat.reduceLT,Nat.reduceEqDiff];refine TH (ts:=[3,3,3,4,4,4]) (xs:=r1.cells) (ys:=Ce.sp.cells) (r:=d) NO Nv NP (by rw[wF,hd]; rfl) rfl rfl ol (by simp only[aF,Nat.reduceEqDiff]; rfl) rx (jc _) (jc _) ?_
   cases d with
   |true =>rw[of_decide_eq_true hd,if_pos rfl]at ht;simp (maxDischargeDepth:=6) only[J,wk,zW,Nat.reduceLT,Nat.reduceEqDiff];refine aG ⟨j,by omega,rfl,?_,?_,?_,?_,?_,by omega,ht⟩<;>simp only[S,g4,g5,P,aF,Nat.reduceEqDiff]
   |false =>have hne2:=of_decide_eq_false hd;rw[if_neg (fun e=>hne2 (Option.some.inj e))]at ht;simp (maxDischargeDepth:=6) only[zW,Nat.reduceLT,Nat.reduceEqDiff];exact ag ⟨rfl,by simp only[S,aF,Nat.reduceEqDiff],by simp only[g4,aF,Nat.reduceEqDiff],by simp only[g5,aF,Nat.reduceEqDiff],by simp only[P,aF,Nat.reduceEqDiff],by simp only[J,aF,Nat.reduceEqDiff]; rw[<-ht]⟩
 clear S g4 g5 P J E;rintro E H' ⟨hH,S,g4,g5,P,J⟩;rw[hH];clear hH H';simp (maxDischargeDepth:=6) only[S,P,J,nX,bX2,lx2,zW,Nat.reduceLT,Nat.reduceEqDiff];have U:=JK (ext X []) O ub T okX (by rw[show (ext X []).next=x+3 from nX]; exact EM hsa) (by rw[show (ext X []).next=x+3 from nX]; exact EM hsb) hoa hob;rw[show (ext X []).next=x+3 from nX]at U;refine U.mono ?_;rintro _ Y ⟨rfl,hY⟩;have mY:Mod [] X Y:=by rw[hY]; exact Mod.ext okX
 have nY:Y.next=x+6:=by rw[hY,ai,show (ext X []).next=x+3 from nX]; rfl
 have bY0:bk Y (x+3+0)=a9 ⟨56,ci,[O]⟩:=by rw[hY,aZ (show (ext X []).next=x+3 from nX) nl]; rfl
 have bY1:bk Y (x+3+1)=a9 ⟨56,ci,[ub]⟩:=by rw[hY,aZ (show (ext X []).next=x+3 from nX) nl]; rfl
 have bY2:bk Y (x+3+2)=a9 ⟨3,ci,[jp kw (T:Int)]⟩:=by rw[hY,aZ (show (ext X []).next=x+3 from nX) nl]; rfl
 clear hY U;have okY:=mY.ok okX;rw[show Y=ext Y [] from rfl];simp (maxDischargeDepth:=6) only[gV,Nat.reduceLT,Nat.reduceAdd];refine da fun u D=>?_;have r2:u 2=O:=by rw[D]; simp only[S,aF,Nat.reduceEqDiff]
 have r4:u 4=li (a9 ⟨x+0,0,bi⟩):=by rw[D]; simp only[g4,aF,Nat.reduceEqDiff]
 have r5:u 5=li (a9 ⟨x+1,0,bi⟩):=by rw[D]; simp only[g5,aF,Nat.reduceEqDiff]
 have r7:u 7=li (a9 ⟨x+2,0,bi⟩):=by rw[D]; simp only[P,aF,Nat.reduceEqDiff]
 have r8:u 8=jp kw (T:Int):=by rw[D]; simp only[J,aF,Nat.reduceEqDiff]
 have r29:u 29=.func (.func 117) ⟨[]⟩ ⟨[li (a9 ⟨x+3+2,0,bi⟩),li (a9 ⟨x+3+0,0,bi⟩),li (a9 ⟨x+3+1,0,bi⟩)]⟩:=by rw[D]; rfl
 clear D S g4 g5 P J E;refine OZ (f:=117) (ca:=[li (a9 ⟨x+3+2,0,bi⟩),li (a9 ⟨x+3+0,0,bi⟩),li (a9 ⟨x+3+1,0,bi⟩)]) okY ol r29 m9 fun K hlp hdf mK nK=>?_;replace mK:Mod [] Y K:=mK [];rw[show (ext Y []).next=x+6 from nY]at hlp hdf nK ⊢
 have hlp':∃ asg bod,gW K (x+6+1) (VQ asg bod (x+6)) (lj 56 u)/\a9 (asg,bod)=Tryz.f49.body.bind kn:=⟨_,_,hlp,rfl⟩
 obtain⟨asg,bod,hlp,hasg⟩:=hlp';have V:=(mX.trans mY).trans mK;have mXK:=mY.trans mK;have okK:=V.ok hok
 obtain⟨A,hF1⟩:∃ A,A=[x+0,x+1,x+2,x+3+0,x+3+1,x+3+2,x+6]++F:=⟨_,rfl⟩
 have hFF:∀ n∈F,n∈A:=fun n B=>by rw[hF1]; exact zG6 _ B
 have hFl:∀ n∈A,n<x+7:=fun n B=>by
  rw[hF1]at B;rcases zB1.1 B with h|h
  .simp only[zA8,zD7,or_false]at h; omega
  .have:=w.fl n h; omega
 have hlpF:x+6+1∉A:=fun h=>by have:=hFl _ h; omega
 have wK:fq N ((x+6+1)::A) K p v l k:=by rw[hF1];refine w.TO (Q:=[x+6+1,x+0,x+1,x+2,x+3+0,x+3+1,x+3+2,x+6]) V fun q hq=>?_;simp only[zA8,zD7,or_false]at hq;omega
 have hm:∀ q,q=x+0\/q=x+1\/q=x+2\/q=x+3+0\/q=x+3+1\/q=x+3+2\/q=x+6->q∈A:=fun q hq=>by rw[hF1];refine zF8 _ ?_;simp only[zA8,zD7,or_false];exact hq
 have bK0:=(mXK.bk (n:=x+0) lw nl).trans bX0;have bK1:=(mXK.bk (n:=x+1) lw nl).trans bX1;have bK2:=(mXK.bk (n:=x+2) lw nl).trans bX2;have bK3:=(mK.bk (n:=x+3+0) lw nl).trans bY0;have bK4:=(mK.bk (n:=x+3+1) lw nl).trans bY1;have bK5:=(mK.bk (n:=x+3+2) lw nl).trans bY2;have h0K:=h0.df V;have h1K:=h1.df V;have hi0K:∀ n∈ae O,n<N\/n∈A:=fun n B=>(hi0 n B).imp id (hFF n);have I:∀ n∈ae ub,n<N\/n∈A:=fun n B=>(hi1 n B).imp id (hFF n);obtain⟨L,hL⟩:=ac (l++(eP row a b T (b.length+1) 0 k).1);obtain⟨Kk,hKk⟩:=ac ((eP row a b T (b.length+1) 0 k).2);have hline:oc row a b k=((eP row a b T (b.length+1) 0 k).1++Il row a b T,Kk):=by rw[<-hKk,<-hT]; rfl
 rw[hline];simp only;rw[<-zC8,hL];have hrd:∀ G,iQ N A K G->VU G (x+3+2) (x+3+0) (x+3+1) T O ub a b:=fun G C=>by have:=C.next;exact⟨C.ok okK,(C.bk lw (.inr (hm _ lw))).trans bK5,(C.bk lw (.inr (hm _ lw))).trans bK3,(C.bk lw (.inr (hm _ lw))).trans bK4,by omega,by omega,by omega,(h0K.kp C hi0K).at_,(h1K.kp C I).at_⟩
 refine (Ir K (fun i G=>gW G (x+6+1) (VQ asg bod (x+6)) (lj 56 u)/\iQ N A K G/\∃ v' l' k' f,fq N ((x+6+1)::A) G p v' l' k'/\l'++(eP row a b T f i k').1=L/\(eP row a b T f i k').2=Kk/\b.length+1<=f+i/\i<=b.length/\l'.length<=l.length+3*i)
  ⟨hlp,iQ.refl,v,l,k,_,wK,hL,hKk,zA4 _,zB7 _,by omega⟩ lw lw lw (fun i G hI=>hrd G hI.2.1) (fun i G hI hlt=>?_)).mono ?_
 .obtain⟨hlG,C,v',l',k',f,wG,hL',hK',hf,hi,hll'⟩:=hI;have hpl2:=C5 a b i T hTl hi;have hpg:=CD a b i T;obtain⟨s,hs⟩:=ac ((bM a b i T).1);obtain⟨t,ht⟩:=ac ((bM a b i T).2)
  obtain⟨f',rfl⟩:∃ f',f=f'+1:=⟨f-1,by omega⟩
  rw[eP,if_pos hlt]at hL' hK';rw[ht]at hpl2;rw[hs,ht]at hlt hpg hL' hK' ⊢;simp only at hL' hK';have hcsl:((b.take t).drop s).length=t-s:=by simp; omega
  have hrl:=BE row s ((b.take t).drop s) k';have hkn:=C.next;refine (row_step hasg r4 r5 r7 hlG wG hlpF lw ((C.bk lw (.inr (hm _ lw))).trans bK0) ((C.bk lw (.inr (hm _ lw))).trans bK1) ((C.bk lw (.inr (hm _ lw))).trans bK2) (hm _ lw) (hm _ lw) (hm _ lw) (h1K.kp C I) I (C.ok okK) lw hlt hpl2 lw hbl hc).mono ?_;rintro out G' ⟨rfl,hl2,v2,w2,k2⟩;refine⟨rfl,hl2,C.trans k2,v2,_,_,f',w2,?_,hK',by omega,hpl2,?_⟩
  .rw[zC8]; exact hL'
  .rw[zB3]; omega
 rintro _ X2 ⟨rfl,i,⟨hl2,k2,v2,l2,kk,f,w2,hL2,hK2,-,hi2,hll2⟩,hni⟩;rw[tn hni]at hL2 hK2;simp only[zC7]at hL2 hK2;subst hL2 hK2;refine⟨_,_,_,hl2.get,by simp[VQ],rfl,?_⟩;generalize hZ:cu X2 (x+6+1) _ _=Z;have mZ:Mod [x+6+1] X2 Z:=hZ▸Mod.cH nl;have wZ:=w2.loop mZ nl;have kZ:iQ N A K Z:=k2.trans (iQ.one mZ lw hlpF);clear hZ;have okZ:=kZ.ok okK;have hzn:=kZ.next;obtain⟨z,hz⟩:=ac Z.next;have bZ0:=(kZ.bk lw (.inr (hm _ lw))).trans bK0;have bZ1:=(kZ.bk lw (.inr (hm _ lw))).trans bK1;have bZ2:=(kZ.bk lw (.inr (hm _ lw))).trans bK2;have lz0:x+0<z:=by omega
 have lz1:x+1<z:=by omega
 have lz2:x+2<z:=by omega
 have hdZ:Z.get (x+6)=a9 ⟨.deferred (a9 []),ci,⟨[],0⟩⟩:=(kZ.get lw (.inr (hm _ lw))).trans hdf;have h0Z:=h0K.kp kZ hi0K;have h1Z:=h1K.kp kZ I;obtain⟨u0,sl0,rs0,-,-⟩:=h0Z.slice R (x:=a9 (jp kw (T:Int))) (y:=bi) (lo:=T) (hi:=a.length) rc rfl lw (zA4 _);obtain⟨u1,sl1,rs1,-,-⟩:=h1Z.slice cn (x:=a9 (jp kw (T:Int))) (y:=bi) (lo:=T) (hi:=b.length) rc rfl lw (zA4 _);rw[zH2]at rs0 rs1;obtain⟨d,hd⟩:=ac (f7 (a.drop T=b.drop T));rw[show Z=ext Z [] from rfl];simp (maxDischargeDepth:=6) only[gV];refine aQ [] [] m9 rfl rfl fun ops anc hA hG=>?_;simp (maxDischargeDepth:=6) only[r2,r8,gi,bS,aF,Nat.reduceLT,Nat.reduceAdd,Nat.reduceEqDiff];refine kt (v:=u0) (ae O) rfl rfl rfl rfl (zA7 rfl) (h0Z.get R) (fun G hG=>by simp only[dY,ec,aF,Nat.reduceEqDiff]; exact sl0 G hG) qr ?_;simp (maxDischargeDepth:=6) only[r7,r8,hz,bZ2,lz2,gi,bS,zW,Nat.reduceLT,Nat.reduceAdd,Nat.reduceEqDiff];refine kt (v:=u1) (ae ub) rfl rfl rfl rfl (zA7 rfl) (h1Z.get cn) (fun G hG=>by simp only[dY,ec,aF,Nat.reduceEqDiff]; exact sl1 G hG) qr ?_;simp (maxDischargeDepth:=6) only[bS,gV,Nat.reduceAdd];refine bI (v:=ls (f7 (a.drop T=b.drop T))) (uN (a.drop T) u0++uN (b.drop T) u1) rfl m9 ol (fun m hm=>?_) (fun G B hg=>?_) qr ?_
 .rcases zB1.1 hm with hm|hm
  .exact rs0.at_.f m hm
  .exact rs1.at_.f m hm
 .simp only[aF,Nat.reduceEqDiff];exact nZ G u0 u1 _ _ (rs0.at_.Si (zF6 B.symm) fun m hm=>hg m (zF8 _ hm)) (rs1.at_.Si (zF6 B.symm) fun m hm=>hg m (zG6 _ hm)) (by rw[zC6]; omega)
 have hfin:∀(Z':aa)(v':go)(l':List Op)(kk':Lk),fq N ((x+6+1)::A) Z' p v' l' kk'->iQ N A Z Z'->fq N F (Z'.cH (x+6) (a9 ⟨.deferred bi,ci,⟨[],0⟩⟩)) p v' l' kk'/\iQ N F H (Z'.cH (x+6) (a9 ⟨.deferred bi,ci,⟨[],0⟩⟩)):=fun Z' v' l' kk' hw hk=>by have m5:Mod [x+6] Z' (Z'.cH (x+6) (a9 ⟨.deferred bi,ci,⟨[],0⟩⟩)):=Mod.cH nl;refine⟨(hw.loop m5 (zB9 _ (hm _ lw))).sub fun n B=>zB9 _ (hFF n B),?_⟩;exact (((iQ.Wf V).trans (kZ.sub hFF)).trans (hk.sub hFF)).trans (iQ.one m5 lw fun h=>by have:=w.fl _ h; omega)
 simp (maxDischargeDepth:=6) only[hd,bS,zW,Nat.reduceLT,Nat.reduceAdd]
 cases d with
 |true =>have he:=of_decide_eq_true hd;simp (maxDischargeDepth:=6) only[zD1,gV];refine LX ⟨_,_,hdZ⟩ ?_;simp (maxDischargeDepth:=6) only[Tryz.results49,gV];refine⟨trivial,v2,?_⟩;rw[Il,if_pos he,zC7];exact hfin Z v2 _ _ wZ iQ.refl
 |false =>
  have he:=of_decide_eq_false hd;simp (maxDischargeDepth:=6) only[r4,r5,r8,hz,bZ0,bZ1,lz0,lz1,zF4,zW,Nat.reduceLT,Nat.reduceEqDiff];refine (tU N ((x+6+1)::A) (ext Z []) p v2 _ _ (R3 row T) wZ okZ lw (by rw[ai,hz]; simp only[zB4]; omega)).mono ?_;rintro _ Z2 ⟨rfl,v3,w3,k3⟩;replace k3:iQ N ((x+6+1)::A) Z Z2:=k3;have bZ0':=(k3.bk lw (.inr (zB9 _ (hm _ lw)))).trans bZ0;have hz2:=k3.next;have lz0':x+0<Z2.next:=by omega
  have ok2:=k3.ok okZ;rw[show Z2=ext Z2 [] from rfl];simp (maxDischargeDepth:=6) only[r4,bZ0',lz0',zW,Nat.reduceLT,Nat.reduceEqDiff];refine (tU N ((x+6+1)::A) (ext Z2 []) p v3 _ _ (PO 4) w3 ok2 (by rw[zB3]; simp only[zI0]; omega) (by rw[ai]; simp only[zB4]; omega)).mono ?_;rintro _ Z3 ⟨rfl,v4,w4,k4⟩;replace k4:iQ N ((x+6+1)::A) Z2 Z3:=k4;have hd3:=(k4.get (n:=x+6) lw (.inr (zB9 _ (hm _ lw)))).trans ((k3.get (n:=x+6) lw (.inr (zB9 _ (hm _ lw)))).trans hdZ);rw[show Z3=ext Z3 [] from rfl];simp (maxDischargeDepth:=6) only[gV,Nat.reduceLT];refine LX ⟨_,_,hd3⟩ ?_;simp (maxDischargeDepth:=6) only[Tryz.results49,gV];refine⟨trivial,v4,?_⟩;have:=hfin Z3 v4 _ _ w4 ((k3.trans k4).sub fun n B=>zB9 _ B);rw[Il,if_neg he];rw[zC8]at this;exact this
def fP.ne{H:aa}{v:go}{g:List (List Ce)}(h:fP H v g)(a:g≠[]):∀ n∈ae v,H.get n≠bi/\n<H.next:=by
 rcases h with⟨h,_⟩|⟨_,b,_,h,_⟩
 .exact absurd h a
 .exact h.ne
def uT(H:aa)(J K:go)(g h:List (List Ce))(Z:fP H J g)(h1s:fP H K h)(hw:∀ l∈g,l.length<1000000)(hwh:∀ l∈h,l.length<1000000)(V:g.length=h.length)(hl:h.length<1000000) :
  Pure 46 [J,K] H (.tuple #[match gT g h with|some o=>o.val|none=>Op.val ⟨0,0,0,0,⟨0,0,ci,ci,ci⟩,.empty⟩,ls (gT g h).isSome]):=by
 have h0:=Z.at_;have h1:=h1s.at_;obtain⟨b,hb⟩:=ac H.next;refine bA mixed Tryz.func46 rfl Tryz.ntmps46 (zA7 rfl) fun wf hsc=>?_;have hok:=wf.base;have hbase:H.base<=b:=hb▸hok;obtain⟨a1,c1,e1⟩:=h1.sl;rw[e1];simp only[hb,zW,seval];rw[<-e1];obtain⟨R,hX0⟩:=ac (ext H [⟨58,ci,[jp kw 0,jp kw 0,jp kw 0,jp kw 0,jp kw 0,jp kw 0,ls ci,ls ci,ls ci,.string .empty]⟩]);have kz:bk R (b+0)=a9 ⟨58,ci,[jp kw 0,jp kw 0,jp kw 0,jp kw 0,jp kw 0,jp kw 0,ls ci,ls ci,ls ci,.string .empty]⟩:=by rw[<-hX0,aZ hb nl]; rfl
 rw[hX0];have m0:Mod [] H R:=hX0▸Mod.ext hok;have n0:R.next=b+1:=by rw[<-hX0,ai,hb]; rfl
 have ok0:=m0.ok hok;refine da fun E q=>?_;have w:E 0=J:=by rw[q]; rfl
 have z:E 1=K:=by rw[q]; rfl
 have u:E 4=li (a9 ⟨b+0,0,bi⟩):=by rw[q]; rfl
 have d:E 6=jp kw ((0:Nat):Int):=by rw[q]; rfl
 have p:E 7=jp kw (h.length:Int):=by rw[q]; rfl
 clear q
 obtain⟨top,htop⟩:∃ t,nv g h=t:=⟨_,rfl⟩
 have hple:=Kq g h;rw[htop]at hple;refine aS (fun a B=>B=ext R []/\a 0=J/\a 1=K/\a 4=li (a9 ⟨b+0,0,bi⟩)/\a 6=jp kw (top:Int)/\a 7=jp kw (h.length:Int)) ?_ ?_
 .refine cp (fun (k:Nat) a B=>B=ext R []/\a 0=J/\a 1=K/\a 4=li (a9 ⟨b+0,0,bi⟩)/\a 6=jp kw (k:Int)/\a 7=jp kw (h.length:Int)/\k<=h.length/\g.take k=h.take k) (fun k=>h.length-k) 0
   ⟨rfl,w,z,u,d,p,zB7 _,rfl⟩ ?_
  clear w z u d p;rintro k E B ⟨S,w,z,u,d,p,hk,hpre⟩;rw[S];have hpd:=BT g h k hpre lw hk;rw[htop]at hpd;obtain⟨a0,c0,e0⟩:=h0.sl;obtain⟨a1,c1,e1⟩:=h1.sl;by_cases hkl:k=h.length
  .have T:f7 ((k:Int)<(h.length:Int))=false:=by simp[hkl]
   simp only[gV];refine aQ [] [(3,16)] m9 rfl m9 fun ops anc hA D=>?_;simp only[aw]at D;simp only[d,p,T,D,bS,zW,seval];refine ag ⟨rfl,?_⟩;refine⟨by simp only[w,aF,seval],by simp only[z,aF,seval],by simp only[u,aF,seval],?_,by simp only[p,aF,seval]⟩;simp only[d,aF,seval];rw[hpd,zE9 (show h.length<=k by omega)];cases g.drop k<;>simp[nv]
  .have hlt:k<h.length:=by omega
   have T:f7 ((k:Int)<(h.length:Int))=true:=decide_eq_true lw
   obtain⟨w1,I⟩:∃ r,g[k]?=a9 r:=⟨_,zB0 lw⟩
   obtain⟨L,U⟩:∃ r,h[k]?=a9 r:=⟨_,zB0 lw⟩
   have hd1:g.drop k=w1::g.drop (k+1):=by rw[zH4 lw];rw[zB0 lw]at I;rw[Option.some.inj I]
   have hd2:h.drop k=L::h.drop (k+1):=by rw[zH4 lw];rw[zB0 lw]at U;rw[Option.some.inj U]
   rw[hd1,hd2,nv]at hpd;have hg0:=h0.df m0;have hg1:=h1.df m0
   rcases hg0 with⟨hh,_⟩|⟨_,n1,o1,s1,x1,t1,p1,L1,ev0,b1,n1l,le1,tk1⟩
   .rw[hh]at V; simp at V; omega
   rcases hg1 with⟨hh,_⟩|⟨_,n2,o2,s2,x2,t2,p2,L2,ev1,b2,n2l,le2,tk2⟩
   .rw[hh]at hlt; simp at hlt
   obtain⟨u1,hu1,ra1⟩:=tk1 k w1 I;obtain⟨u2,hu2,ra2⟩:=tk2 k L U;have i1:=fD (n:=n1) (off:=o1) (s:=s1) (cap:=x1) (len:=g.length) (i:=(k:Int)) rfl lw;have i2:=fD (n:=n2) (off:=o2) (s:=s2) (cap:=x2) (len:=h.length) (i:=(k:Int)) rfl lw;have y1:=dG (e:=t1) (o:=p1) hu1;have y2:=dG (e:=t2) (o:=p2) hu2;rw[n0]at n1l n2l;have q0':=w;have q1':=z;rw[ev0]at q0';rw[ev1]at q1';simp only[gV];refine aQ [] [(3,16)] m9 rfl m9 fun ops anc hA D=>?_;simp only[aw]at D;simp only[q0',q1',d,p,n0,T,D,i1,i2,b1,b2,n1l,n2l,y1,y2,cm,bS,zW,seval];refine bI (v:=ls (f7 (w1=L))) (uN w1 u1++uN L u2) rfl m9 ol (fun m hm=>?_) (fun G C hg=>?_) qr ?_
   .rcases zB1.1 hm with hm|hm
    .exact ra1.ext.f m hm
    .exact ra2.ext.f m hm
   .simp only[aF,seval];exact nZ G u1 u2 w1 L (ra1.ext.Si (zF6 C.symm) fun m hm=>hg m (zF8 _ hm)) (ra2.ext.Si (zF6 C.symm) fun m hm=>hg m (zG6 _ hm)) (hw w1 (zC5 I))
   by_cases hr:w1=L
   .have A:f7 (w1=L)=true:=decide_eq_true hr;simp only[d,A,ba (show k<1000000 by omega),bS,zW,seval];refine aG ⟨k+1,by omega,rfl,?_,?_,?_,?_,?_,by omega,?_⟩
    .exact w
    .exact z
    .exact u
    .rfl
    .exact p
    .rw[zG4,zG4,I,U,hpre,hr]
   .have A:f7 (w1=L)=false:=decide_eq_false hr;rw[if_neg hr]at hpd;simp only[A,bS,zW,seval];refine ag ⟨rfl,by simp only[w,aF,seval],by simp only[z,aF,seval],by simp only[u,aF,seval],?_,by simp only[p,aF,seval]⟩;simp only[d,aF,seval];rw[hpd,zC2]
 rintro E B ⟨S,w,z,u,d,p⟩;rw[S];simp only[gV]
 obtain⟨bot,hbot⟩:∃ t,wo g h top h.length=t:=⟨_,rfl⟩
 have hble:=DM g h top h.length;have hbge:=Lw g h top h.length hple.1;rw[hbot]at hble hbge;refine da fun a q=>?_;have r0:a 0=J:=by rw[q]; simp only[w]
 have r1:a 1=K:=by rw[q]; simp only[z]
 have r4:a 4=li (a9 ⟨b+0,0,bi⟩):=by rw[q]; simp only[u]
 have r6:a 6=jp kw (top:Int):=by rw[q]; simp only[d]
 have r7:a 7=jp kw (h.length:Int):=by rw[q]; simp only[p]
 clear q w z u d p;clear E;refine aS (fun a B=>B=ext R []/\a 0=J/\a 1=K/\a 4=li (a9 ⟨b+0,0,bi⟩)/\a 6=jp kw (top:Int)/\a 7=jp kw (bot:Int)) ?_ ?_
 .refine cp (fun (k:Nat) a B=>B=ext R []/\a 0=J/\a 1=K/\a 4=li (a9 ⟨b+0,0,bi⟩)/\a 6=jp kw (top:Int)/\a 7=jp kw (k:Int)/\k<=h.length/\top<=k/\wo g h top k=bot) (fun k=>k) h.length
   ⟨rfl,r0,r1,r4,r6,r7,zA4 _,hple.1,hbot⟩ ?_
  clear r0 r1 r4 r6 r7;rintro k E B ⟨S,w,z,u,d,p,hk,hkt,A⟩;rw[S];by_cases hkl:k=top
  .have T:f7 ((top:Int)<(k:Int))=false:=by simp[hkl]
   simp only[gV];refine aQ [] [(3,32)] m9 rfl m9 fun ops anc hA D=>?_;simp only[aw]at D;simp only[d,p,T,D,bS,zW,seval];refine ag ⟨rfl,by simp only[w,aF,seval],by simp only[z,aF,seval],by simp only[u,aF,seval],by simp only[d,aF,seval],?_⟩;simp only[p,aF,seval]
   have:wo g h top k=k:=by
    cases k with
    |zero=>rfl
    |succ k=>rw[wo,if_neg (fun c=>by omega)]
   rw[<-A,this]
  .obtain⟨j,rfl⟩:∃ j,k=j+1:=⟨k-1,by omega⟩
   have T:f7 ((top:Int)<((j+1:Nat):Int))=true:=decide_eq_true lw;have wj:IntKind.i64.wrap (((j+1:Nat):Int)-1)=(j:Int):=(aR lw lw).trans lw
   obtain⟨w1,I⟩:∃ r,g[j]?=a9 r:=⟨_,zB0 lw⟩
   obtain⟨L,U⟩:∃ r,h[j]?=a9 r:=⟨_,zB0 lw⟩
   have hd1:g.getD j []=w1:=by rw[zC9,I]; rfl
   have hd2:h.getD j []=L:=by rw[zC9,U]; rfl
   rw[wo,hd1,hd2]at A;have hg0:=h0.df m0;have hg1:=h1.df m0
   rcases hg0 with⟨hh,_⟩|⟨_,n1,o1,s1,x1,t1,p1,L1,ev0,b1,n1l,le1,tk1⟩
   .rw[hh]at V; simp at V; omega
   rcases hg1 with⟨hh,_⟩|⟨_,n2,o2,s2,x2,t2,p2,L2,ev1,b2,n2l,le2,tk2⟩
   .rw[hh]at hk; simp at hk
   obtain⟨u1,hu1,ra1⟩:=tk1 j w1 I;obtain⟨u2,hu2,ra2⟩:=tk2 j L U;have i1:=fD (n:=n1) (off:=o1) (s:=s1) (cap:=x1) (len:=g.length) (i:=(j:Int)) rfl lw;have i2:=fD (n:=n2) (off:=o2) (s:=s2) (cap:=x2) (len:=h.length) (i:=(j:Int)) rfl lw;have y1:=dG (e:=t1) (o:=p1) hu1;have y2:=dG (e:=t2) (o:=p2) hu2;rw[n0]at n1l n2l;have q0':=w;have q1':=z;rw[ev0]at q0';rw[ev1]at q1';simp only[gV];refine aQ [] [(3,32)] m9 rfl m9 fun ops anc hA D=>?_;simp only[aw]at D;simp only[q0',q1',d,p,n0,T,D,wj,i1,i2,b1,b2,n1l,n2l,y1,y2,cm,bS,zW,seval];refine bI (v:=ls (f7 (w1=L))) (uN w1 u1++uN L u2) rfl m9 ol (fun m hm=>?_) (fun G C hg=>?_) qr ?_
   .rcases zB1.1 hm with hm|hm
    .exact ra1.ext.f m hm
    .exact ra2.ext.f m hm
   .simp only[aF,seval];exact nZ G u1 u2 w1 L (ra1.ext.Si (zF6 C.symm) fun m hm=>hg m (zF8 _ hm)) (ra2.ext.Si (zF6 C.symm) fun m hm=>hg m (zG6 _ hm)) (hw w1 (zC5 I))
   by_cases hr:w1=L
   .have hsd:f7 (w1=L)=true:=decide_eq_true hr;rw[if_pos ⟨by omega,hr⟩]at A;simp only[p,hsd,wj,bS,zW,seval];refine aG ⟨j,by omega,rfl,?_,?_,?_,?_,?_,by omega,by omega,A⟩
    .exact w
    .exact z
    .exact u
    .exact d
    .rfl
   .have hsd:f7 (w1=L)=false:=decide_eq_false hr;rw[if_neg (fun c=>hr c.2)]at A;simp only[hsd,bS,zW,seval];refine ag ⟨rfl,by simp only[w,aF,seval],by simp only[z,aF,seval],by simp only[u,aF,seval],by simp only[d,aF,seval],?_⟩;simp only[p,aF,seval];rw[<-A]
 rintro E B ⟨S,w,z,u,d,p⟩;rw[S];obtain⟨n,C⟩:=ac (bot-top);have wn:IntKind.i64.wrap ((bot:Int)-(top:Int))=(n:Int):=(aR lw lw).trans lw;have O:gT g h=match fT (RD g h top n) 1 (n-1) with|some i=>a9 (c8 5 top bot i)|none=>(fT (RK g h top n) 1 (n-1)).map (c8 6 top bot):=by unfold gT;simp only[htop,hbot,C]<;>(cases fT (RD g h top n) 1 (n-1)<;>rfl)
 simp only[d,p,wn,zW,seval];refine da fun a q=>?_;have r0:a 0=J:=by rw[q]; simp only[w,aF,seval]
 have r1:a 1=K:=by rw[q]; simp only[z,aF,seval]
 have r4:a 4=li (a9 ⟨b+0,0,bi⟩):=by rw[q]; simp only[u,aF,seval]
 have r6:a 6=jp kw (top:Int):=by rw[q]; simp only[d,aF,seval]
 have r7:a 7=jp kw (bot:Int):=by rw[q]; simp only[p,aF,seval]
 have r8:a 8=jp kw (n:Int):=by rw[q]; rfl
 have r9:a 9=jp kw ((1:Nat):Int):=by rw[q]; rfl
 clear q w z u d p;clear E;have lz:b+0<b+1:=by omega
 have hfin:∀ vs,Mod [] H (uw R (b+0) 0 vs):=fun vs=>m0.step (Mod.uw (W:=[b+0]) nl) hok (fun n C=>.inr (by simp only[zA5]at C; omega));refine aS (fun a B=>B=ext R []/\a 0=J/\a 1=K/\a 4=li (a9 ⟨b+0,0,bi⟩)/\a 6=jp kw (top:Int)/\a 7=jp kw (bot:Int)/\a 8=jp kw (n:Int)/\fT (RD g h top n) 1 (n-1)=bi) ?_ ?_
 .refine cp (fun (i:Nat) a B=>B=ext R []/\a 0=J/\a 1=K/\a 4=li (a9 ⟨b+0,0,bi⟩)/\a 6=jp kw (top:Int)/\a 7=jp kw (bot:Int)/\a 8=jp kw (n:Int)/\a 9=jp kw (i:Int)/\1<=i/\fT (RD g h top n) 1 (n-1)=fT (RD g h top n) i (n-i)) (fun i=>n-i) 1
   ⟨rfl,r0,r1,r4,r6,r7,r8,r9,zA4 _,rfl⟩ ?_
  clear r0 r1 r4 r6 r7 r8 r9;rintro i E B ⟨S,w,z,u,d,p,q8,q9,hi1,A⟩;rw[S];by_cases hin:i<n
  case neg =>
   have T:f7 ((i:Int)<(n:Int))=false:=decide_eq_false lw;simp only[q8,q9,T,zW,seval];rw[show n-i=0 by omega,fT]at A;exact ag ⟨rfl,by simp only[w,aF,seval],by simp only[z,aF,seval],by simp only[u,aF,seval],by simp only[d,aF,seval],by simp only[p,aF,seval],by simp only[q8,aF,seval],A⟩
  have T:f7 ((i:Int)<(n:Int))=true:=decide_eq_true lw;have w1:IntKind.i64.wrap ((top:Int)+(i:Int))=((top+i:Nat):Int):=(aR lw lw).trans lw;have w3:IntKind.i64.wrap ((bot:Int)-(i:Int))=((bot-i:Nat):Int):=(aR lw lw).trans lw;have P:h≠[]:=fun e=>by rw[e,zB4]at hble; omega
  have Q:g≠[]:=fun e=>by rw[e,zB4]at V; omega
  have hfv1:∀ n∈ae K,(ext R []).get n≠none:=fun n C=>((h1s.df m0).ne P n C).1;have hfv0:∀ n∈ae J,(ext R []).get n≠none:=fun n C=>((Z.df m0).ne Q n C).1;rw[show n-i=(n-(i+1))+1 by omega,fT]at A;obtain⟨u1,sl1,gs1,-,-⟩:=(h1s.df m0).slice P (x:=a9 (jp kw (top:Int))) (y:=a9 (jp kw ((bot-i:Nat):Int))) (lo:=top) (hi:=bot-i) rc (by simp only[bound]; rw[if_pos lw,zG7]) lw lw;obtain⟨u0,sl0,gs0,-,-⟩:=(Z.df m0).slice Q (x:=a9 (jp kw ((top+i:Nat):Int))) (y:=a9 (jp kw (bot:Int))) (lo:=top+i) (hi:=bot) (by simp only[bound]; rw[if_pos lw,zG7]) rc lw lw;obtain⟨F1,hF1,hG1⟩:=gs1.at_.sK (fun e=>by have:=congrArg List.length e; simp at this; omega);obtain⟨F0,hF0,hG0⟩:=gs0.at_.sK (fun e=>by have:=congrArg List.length e; simp at this; omega);have hdu:f7 ((h.take (bot-i)).drop top=(g.take bot).drop (top+i))=RD g h top n i:=by unfold RD;rw[List.drop_take,List.drop_take,show bot-i-top=n-i by omega,show bot-(top+i)=n-i by omega]
  simp only[q8,q9,T,zW,seval];refine aQ [] [] m9 rfl rfl fun ops anc hA D=>?_;simp only[z,d,p,q9,w3,gi,bS,aF,seval];refine kt (v:=u1) (ae K) rfl rfl rfl rfl (zA7 rfl) hfv1 (fun G D=>by simp only[dY,ec,aF,seval]; exact sl1 G D) qr ?_;simp only[w,d,p,q9,w1,gi,bS,zW,seval];refine kt (v:=u0) (ae J) rfl rfl rfl rfl (zA7 rfl) hfv0 (fun G D=>by simp only[dY,ec,aF,seval]; exact sl0 G D) qr ?_;simp only[bS,gV,seval];refine bI (v:=ls (RD g h top n i)) (F1++F0) rfl m9 ol (fun m hm=>?_) (fun G C hg=>?_) qr ?_
  .rcases zB1.1 hm with hm|hm
   .exact (hF1 m hm).1
   .exact (hF0 m hm).1
  .simp only[aF,seval];rw[<-hdu];exact GY G u1 u0 _ _ (hG1 G (zF6 C.symm) fun m hm=>hg m (zF8 _ hm)).1 (hG0 G (zF6 C.symm) fun m hm=>hg m (zG6 _ hm)).1 (fun l hl=>hwh l (zE2 (zE4 hl))) pp
  cases hu:RD g h top n i with
  |false =>rw[hu]at A;simp only[zD2,if_false]at A;simp only[q9,ba (show i<1000000 by omega),bS,zW,seval];refine aG ⟨i+1,by omega,rfl,?_,?_,?_,?_,?_,?_,?_,by omega,A⟩<;>simp only[w,z,u,d,p,q8,aF,seval]
  |true =>rw[hu,if_pos rfl]at A;have wb:IntKind.i64.wrap ((bot:Int)-1)=(bot:Int)-1:=aR lw lw;rw[O,A];simp only[u,d,p,q9,n0,kz,lz,wb,cO,Tryz.results46,bS,zW,seval];exact Ax.Fin.mod rfl (hfin _) rfl
 rintro E B ⟨S,w,z,u,d,p,q8,hup⟩;rw[S];rw[hup]at O;simp only at O;simp only[zW,seval];refine da fun a q=>?_;have r0:a 0=J:=by rw[q]; simp only[w,aF,seval]
 have r1:a 1=K:=by rw[q]; simp only[z,aF,seval]
 have r4:a 4=li (a9 ⟨b+0,0,bi⟩):=by rw[q]; simp only[u,aF,seval]
 have r6:a 6=jp kw (top:Int):=by rw[q]; simp only[d,aF,seval]
 have r7:a 7=jp kw (bot:Int):=by rw[q]; simp only[p,aF,seval]
 have r8:a 8=jp kw (n:Int):=by rw[q]; simp only[q8,aF,seval]
 have r10:a 10=jp kw ((1:Nat):Int):=by rw[q]; rfl
 clear q w z u d p q8;clear E;refine aS (fun a B=>B=ext R []/\a 4=li (a9 ⟨b+0,0,bi⟩)/\fT (RK g h top n) 1 (n-1)=bi) ?_ ?_
 .refine cp (fun (i:Nat) a B=>B=ext R []/\a 0=J/\a 1=K/\a 4=li (a9 ⟨b+0,0,bi⟩)/\a 6=jp kw (top:Int)/\a 7=jp kw (bot:Int)/\a 8=jp kw (n:Int)/\a 10=jp kw (i:Int)/\1<=i/\fT (RK g h top n) 1 (n-1)=fT (RK g h top n) i (n-i)) (fun i=>n-i) 1
   ⟨rfl,r0,r1,r4,r6,r7,r8,r10,zA4 _,rfl⟩ ?_
  clear r0 r1 r4 r6 r7 r8 r10;rintro i E B ⟨S,w,z,u,d,p,q8,Y,hi1,A⟩;rw[S];by_cases hin:i<n
  case neg =>
   have T:f7 ((i:Int)<(n:Int))=false:=decide_eq_false lw;simp only[q8,Y,T,zW,seval];rw[show n-i=0 by omega,fT]at A;exact ag ⟨rfl,by simp only[u,aF,seval],A⟩
  have T:f7 ((i:Int)<(n:Int))=true:=decide_eq_true lw;have w1:IntKind.i64.wrap ((top:Int)+(i:Int))=((top+i:Nat):Int):=(aR lw lw).trans lw;have w3:IntKind.i64.wrap ((bot:Int)-(i:Int))=((bot-i:Nat):Int):=(aR lw lw).trans lw;have P:h≠[]:=fun e=>by rw[e,zB4]at hble; omega
  have Q:g≠[]:=fun e=>by rw[e,zB4]at V; omega
  have hfv1:∀ n∈ae K,(ext R []).get n≠none:=fun n C=>((h1s.df m0).ne P n C).1;have hfv0:∀ n∈ae J,(ext R []).get n≠none:=fun n C=>((Z.df m0).ne Q n C).1;rw[show n-i=(n-(i+1))+1 by omega,fT]at A;obtain⟨u1,sl1,gs1,-,-⟩:=(h1s.df m0).slice P (x:=a9 (jp kw ((top+i:Nat):Int))) (y:=a9 (jp kw (bot:Int))) (lo:=top+i) (hi:=bot) (by simp only[bound]; rw[if_pos lw,zG7]) rc lw lw;obtain⟨u0,sl0,gs0,-,-⟩:=(Z.df m0).slice Q (x:=a9 (jp kw (top:Int))) (y:=a9 (jp kw ((bot-i:Nat):Int))) (lo:=top) (hi:=bot-i) rc (by simp only[bound]; rw[if_pos lw,zG7]) lw lw;obtain⟨F1,hF1,hG1⟩:=gs1.at_.sK (fun e=>by have:=congrArg List.length e; simp at this; omega);obtain⟨F0,hF0,hG0⟩:=gs0.at_.sK (fun e=>by have:=congrArg List.length e; simp at this; omega);have hdu:f7 ((h.take bot).drop (top+i)=(g.take (bot-i)).drop top)=RK g h top n i:=by unfold RK;rw[List.drop_take,List.drop_take,show bot-i-top=n-i by omega,show bot-(top+i)=n-i by omega]
  simp only[q8,Y,T,zW,seval];refine aQ [] [] m9 rfl rfl fun ops anc hA D=>?_;simp only[z,d,p,Y,w1,gi,bS,aF,seval];refine kt (v:=u1) (ae K) rfl rfl rfl rfl (zA7 rfl) hfv1 (fun G D=>by simp only[dY,ec,aF,seval]; exact sl1 G D) qr ?_;simp only[w,d,p,Y,w3,gi,bS,zW,seval];refine kt (v:=u0) (ae J) rfl rfl rfl rfl (zA7 rfl) hfv0 (fun G D=>by simp only[dY,ec,aF,seval]; exact sl0 G D) qr ?_;simp only[bS,gV,seval];refine bI (v:=ls (RK g h top n i)) (F1++F0) rfl m9 ol (fun m hm=>?_) (fun G C hg=>?_) qr ?_
  .rcases zB1.1 hm with hm|hm
   .exact (hF1 m hm).1
   .exact (hF0 m hm).1
  .simp only[aF,seval];rw[<-hdu];exact GY G u1 u0 _ _ (hG1 G (zF6 C.symm) fun m hm=>hg m (zF8 _ hm)).1 (hG0 G (zF6 C.symm) fun m hm=>hg m (zG6 _ hm)).1 (fun l hl=>hwh l (zE2 (zE4 hl))) pp
  cases hu:RK g h top n i with
  |false =>rw[hu]at A;simp only[zD2,if_false]at A;simp only[Y,ba (show i<1000000 by omega),bS,zW,seval];refine aG ⟨i+1,by omega,rfl,?_,?_,?_,?_,?_,?_,?_,by omega,A⟩<;>simp only[w,z,u,d,p,q8,aF,seval]
  |true =>rw[hu,if_pos rfl]at A;have wb:IntKind.i64.wrap ((bot:Int)-1)=(bot:Int)-1:=aR lw lw;rw[O,A];simp only[u,d,p,Y,n0,kz,lz,wb,cO,Tryz.results46,bS,zW,seval];exact Ax.Fin.mod rfl (hfin _) rfl
 rintro E B ⟨S,u,hdn⟩;rw[S];rw[hdn]at O;replace O:gT g h=none:=O;rw[O];have hbz:cY Tryz.prog 58 []=a9 (.agg #[jp kw 0,jp kw 0,jp kw 0,jp kw 0,jp kw 0,jp kw 0,ls ci,ls ci,ls ci,.string .empty]):=by kernel_rfl
 simp only[u,hbz,n0,kz,lz,Tryz.results46,zW,seval];exact Ax.Fin.mod rfl (hfin _) rfl
def o9:∀(n:Nat)(l:List Ce),l.length<=n->bH l=bv->∀ c∈l,c.rune≠-1->oA c.rune=bv
 |_,[],_,_,c,hc,_=>by cases hc
 |0,_::_,a,_,_,_,_=>by simp at a
 |n+1,x::l,a,h,c,hc,b=>by
  rw[eH]at h;split at h
  .cases h
  rename_i f;simp only[zH5,decide_eq_true_eq,not_or]at f
  have hx:oA x.rune=true:=by
   have e:=f.1;unfold aP at e;split at e
   .exact absurd rfl e
   .rename_i i;simp only[zH5,Bool.not_eq_true',not_or]at i;simpa using i.2
  simp only[zA9]at a;rcases zA8.1 hc with rfl|hc
  .exact hx
  split at h
  .cases l with
   |nil=>cases hc
   |cons d l' =>
    simp only[zA6,decide_eq_true_eq]at h;rcases zA8.1 hc with rfl|hc
    .exact absurd (by rw[h.1]; rfl) b
    .exact o9 n l' (by simp at a; omega) h.2 c hc b
  .exact o9 n l lw h c hc b
def Tr{g:List (List Ce)}{r c:Int}(h:eK g r c=0):∀ l∈g,∀ q∈l,q.rune≠-1->oA q.rune=true:=by
 unfold eK at h;intro l a
 have b:lA (di g) g=true:=by
  revert h
  cases (f7 ((g.length:Int)<1)||f7 (200<(g.length:Int))) with
  |true=>intro h; rw[cond_true]at h; omega
  |false =>
   rw[cond_false];generalize (f7 ((di g:Int)<1)||f7 (1000<(di g:Int))||_)=d
   cases d with
   |true=>intro h; rw[cond_true]at h; omega
   |false =>
    rw[cond_false]
    cases lA (di g) g with
    |false=>intro h; rw[cond_false]at h; omega
    |true=>intro _; rfl
 have:=zC3.1 b l a;unfold pH at this;simp only[zA6]at this;exact o9 _ l (zA4 _) this.2
def oY{g h:List (List Ce)}{x:Op}(e:gT g h=a9 x)(c:g.length=h.length):∃ (t b i:Nat) (k:Int),x=c8 k t b i/\(k=5\/k=6)/\1<=i/\t+i<b/\b<=g.length:=by
 have d:=DM g h (nv g h) h.length;unfold gT at e;simp only at e;split at e
 .rename_i i hi;have:=pQ _ _ _ hi;cases e;exact⟨_,_,i,5,rfl,.inl rfl,this.1,by omega,by omega⟩
 .cases a:fT (RK g h (nv g h) (wo g h (nv g h) h.length-nv g h)) 1 (wo g h (nv g h) h.length-nv g h-1) with
  |none=>rw[a]at e; cases e
  |some i =>rw[a]at e;have:=pQ _ _ _ a;cases e;exact⟨_,_,i,6,rfl,.inr rfl,this.1,by omega,by omega⟩
def zV{g h:List (List Ce)}{x:Op}{r c:Int}(e:gT g h=a9 x)(o:g.length=h.length)(m:eK g r c=0) :
  ∃ y:St,St.all (di g) ei [x] 0 (St.start g r c)=.inl y/\(y8 g r c [x]).1=y.aj/\y.aj.length=g.length/\∀ l∈y.aj,l.length=di g:=by
 obtain⟨ok,_⟩:=zj m;obtain⟨t,b,i,k,rfl,p,hi,q,z⟩:=oY e o
 have s:∃ y:St,(St.start g r c).iD (di g) ei (c8 k t b i)=a9 y/\y.aj.length=g.length:=by
  have u:(c8 k t b i).kind=k:=rfl
  have d:(f7 (0<=(c8 k t b i).row)&&f7 ((c8 k t b i).row<=(c8 k t b i).col)&&f7 ((c8 k t b i).col<(St.start g r c).aj.length)&&f7 (1<=(c8 k t b i).n)&&f7 ((c8 k t b i).n<=(c8 k t b i).col-(c8 k t b i).row+1))=true:=by
   simp only[c8,St.start,zA6];have:(b:Int)<=(g.length:Int):=by omega
   refine⟨⟨⟨⟨?_,?_⟩,?_⟩,?_⟩,?_⟩;all_goals (apply decide_eq_true; omega)
  refine⟨{St.start g r c with aj:=nW (di g) g t (b-1) i (f7 (k=5))},?_,?_⟩
  .unfold St.iD;rw[u,if_neg lw,if_neg lw,if_neg lw,if_neg lw,if_pos p,if_pos d];simp only[c8,St.start,zG7];rw[show ((b:Int)-1).toNat=b-1 by omega]
  .show (nW _ _ _ _ _ _).length=_;unfold nW;simp only[zB3,zD9,zC6];split<;>simp only[zB3,zD9,zC6,zF1]<;>omega
 obtain⟨y,w,f⟩:=s;have a:St.all (di g) ei [c8 k t b i] 0 (St.start g r c)=.inl y:=by simp only[St.all,w]
 have j:=wD _ 0 _ y ok a;refine⟨y,a,?_,f,j.wid⟩;unfold y8;rw[if_pos m,a]
def Bn{g h:List (List Ce)}{r c:Int}(b:g.length=h.length)(a:eK g r c=0):(nA g h r c).length=g.length/\∀ l∈nA g h r c,l.length=di g:=by
 unfold nA;split
 .rename_i x hx;obtain⟨y,_,e,d,f⟩:=zV hx b a;rw[e];exact⟨d,f⟩
 .obtain⟨ok,_⟩:=zj a;exact⟨rfl,ok.wid⟩
def Pv(H:aa)(v:go)(g:List (List Ce)):Prop :=
 ∃ n off s c e o L,v=lm (a9 ⟨n,off,s⟩) g.length c/\rk H n=a9 ⟨e,o,L⟩/\n<H.next/\off+g.length<=L.length/\∀(k:Nat)(row:List Ce),g[k]?=a9 row->∃ rv,L[off+k]?=a9 rv/\iN H rv row
section
variable{H G:aa}{v:go}{g:List (List Ce)}
def fP.r(h:fP H v g)(cn:g≠[]):Pv H v g:=by
 rcases h with h|⟨l,rvs,hl,⟨n,off,s,c,e,o,M,rfl,m,d,f,p,i⟩,hr⟩
 .exact absurd h.1 cn
 .refine⟨n,off,s,_,e,o,M,rfl,d,f,by omega,fun k row a=>?_⟩;obtain⟨rv,b,j⟩:=hr k row a;refine⟨rv,?_,j⟩;rw[<-i,List.getElem?_take,if_pos (by have:=(zF5.1 a).1; omega),List.getElem?_drop]at b;exact b
end
def rS(N:Nat)(F:List Nat)(H:aa)(v:go)(g:List (List Ce)):Prop :=
 ∃ n off s c e o L,v=lm (a9 ⟨n,off,s⟩) g.length c/\rk H n=a9 ⟨e,o,L⟩/\n<H.next/\(n<N\/n∈F)/\off+g.length<=L.length/\∀(k:Nat)(row:List Ce),g[k]?=a9 row->∃ rv,L[off+k]?=a9 rv/\iN H rv row/\(row≠[]->∀ q∈ae rv,q<N\/q∈F)
section
variable{N M:Nat}{F F':List Nat}{H X:aa}{v:go}{g:List (List Ce)}
def rS.df(h:rS N F H v g)(m:Mod [] H X):rS N F X v g:=by obtain⟨n,off,s,c,e,o,L,rfl,d,b,hi,a,f⟩:=h;exact⟨n,off,s,c,e,o,L,rfl,(kh (m.get n b nl)).trans d,m.lt b,hi,a,fun k row i=>let ⟨rv,j,l,p⟩:=f k row i; ⟨rv,j,l.df m,p⟩⟩
def rS.kp(h:rS N F H v g)(m:iQ N F H X)(cn:∀ l∈g,l≠[]):rS N F X v g:=by obtain⟨n,off,s,c,e,o,L,rfl,f,i,hi,a,j⟩:=h;have:=m.next;refine⟨n,off,s,c,e,o,L,rfl,(kh (m.get i hi)).trans f,by omega,hi,a,fun k row b=>?_⟩;obtain⟨rv,p,q,d⟩:=j k row b;have r:=cn row (zC5 b);exact⟨rv,p,q.kp m (d r),d⟩
def Pv.f(h:Pv H v g)(u:H.next<=N):rS N F H v g:=by
 obtain⟨n,off,s,c,e,o,L,rfl,d,i,a,j⟩:=h;refine⟨n,off,s,c,e,o,L,rfl,d,i,.inl lw,a,fun k row l=>?_⟩;obtain⟨rv,m,b⟩:=j k row l;refine⟨rv,m,b,fun p q r=>.inl ?_⟩
 rcases b with⟨h,_⟩|⟨_,h⟩
 .exact absurd h p
 .have:=(h.ne q r).2; omega
def jO.f{a:List go}(o:jO M H v a g)(cn:g≠[])(b:∀ n∈ae v++a.flatMap ae,n∈F):rS N F H v g:=by
 rcases o.at_ with⟨h,_⟩|⟨m,s,c,q,rfl,i,r,j,u⟩
 .exact absurd h cn
 have d:=o.len;refine⟨m,0,s,c,_,q,a,rfl,iq i,j,.inr (b m (zF8 _ pm)),by omega,fun k row e=>?_⟩;have l:=(zF5.1 e).1;refine⟨a[k]' lw,?_,(o.row k _ row (zB0 lw) e).Vh,fun _ q p=>.inr (b q (zG6 _ (zG3.2 ⟨_,List.getElem_mem lw,p⟩)))⟩;rw[zC2];exact zB0 lw
end
def xH(row:Nat)(a b:List Ce)(e:Nat)(c:e<=b.length):∀(f i:Nat)(p:Lk),i<=b.length->(eP row a b e f i p).1.length<=3*(b.length-i)
 |0,i,p,_=>zB7 _
 |f+1,i,p,hi=>by
  have j:=CD a b i e;have d:=C5 a b i e c hi;rw[eP];split
  .rename_i h;have k:=BE row (bM a b i e).1 ((b.take (bM a b i e).2).drop (bM a b i e).1) p;have l:((b.take (bM a b i e).2).drop (bM a b i e).1).length=(bM a b i e).2-(bM a b i e).1:=by simp; omega
   have m:=xH row a b e c f (bM a b i e).2 (kM row (bM a b i e).1 ((b.take (bM a b i e).2).drop (bM a b i e).1) p).2 d;simp only[zB3];omega
  .exact zB7 _
def Df(row:Nat)(a b:List Ce)(p:Lk):(oc row a b p).1.length<=3*b.length+2:=by have h:=xH row a b (mS b b.length) (uq b b.length) (b.length+1) 0 p (zB7 _);simp only[oc,zB3,Il];split<;>simp only[zB4,zA9]<;>omega
def opsV(g h:List (List Ce))(r c r2 c2:Int):List Op × Int :=
 if eK g r c≠0 then ([],eK g r c) else if eK h r2 c2≠0 then ([],eK h r2 c2) else if g.length≠h.length\/di g≠di h then ([],3) else (tg g h r c r2 c2,0)
def I4{i:Nat}{g h:List (List Ce)}{a b:List Ce}(p:Lk)(c:g[i]?=a9 a)(d:h[i]?=a9 b) :
  lH i (g.drop i) (h.drop i) p=if a=b then lH (i+1) (g.drop (i+1)) (h.drop (i+1)) p else (oc i a b p).1++lH (i+1) (g.drop (i+1)) (h.drop (i+1)) (oc i a b p).2:=by
 have e:=(zF5.1 c)
 have f:=(zF5.1 d)
 obtain⟨j,k⟩:=e;obtain⟨l2,l⟩:=f;rw[zH4 j,zH4 l2,k,l,lH]
def Oa{i:Nat}{g h:List (List Ce)}(p:Lk)(hi:h.length<=i):lH i (g.drop i) (h.drop i) p=[]:=by rw[zE9 hi];cases g.drop i<;>rfl
def MJ(l:List Int):List UInt8:=l.map fun n=>UInt8.ofNat n.toNat
def b8{n:Int}(a:0<=n)(b:n<256):((UInt8.ofNat n.toNat).toNat:Int)=n:=by rw[UInt8.toNat_ofNat'];omega
def zY{n:Int}{t:List UInt8}(a:0<=n)(b:n<256):bt (UInt8.ofNat n.toNat::t) 0=n:=b8 a b
def R7{x:UInt8}{t:List UInt8}{i:Nat}:bt (x::t) (i+1)=bt t i:=by simp[bt]
def MK{n:Int}{t:List UInt8}(a:128<=n)(b:n<192):tl (UInt8.ofNat n.toNat::t) 0=true:=by have:=zY (n:=n) (t:=t) lw lw;simp[tl,this,a,b]
def T7{x:UInt8}{t:List UInt8}{i:Nat}:tl (x::t) (i+1)=tl t i:=by simp[tl,R7]
def Wy{x:UInt8}{t:List UInt8}:bt (x::t) 1=bt t 0:=R7
def Wt{x:UInt8}{t:List UInt8}:tl (x::t) 1=tl t 0:=T7
def WY{x:UInt8}{t:List UInt8}:bt (x::t) 2=bt t 1:=R7
def WX{x:UInt8}{t:List UInt8}:tl (x::t) 2=tl t 1:=T7
def Xd{x:UInt8}{t:List UInt8}:bt (x::t) 3=bt t 2:=R7
def Xg{x:UInt8}{t:List UInt8}:tl (x::t) 3=tl t 2:=T7
def Sq(c:Int)(f:oA c=bv)(t:List UInt8):rV (MJ (iG c)++t)=(c,((iG c).length:Int)):=by
 have a:=f;unfold oA at f;simp only[zA6,decide_eq_true_eq,Bool.not_eq_true',Bool.and_eq_false_imp,decide_eq_false_iff_not]at f;obtain⟨⟨q,r⟩,c2⟩:=f;unfold iG;by_cases h:c<128
 .rw[if_pos h];simp only[MJ,zB8,zE7,zE3,zB6,rV,zY (n:=c) (t:=t) lw lw];rw[decide_eq_true h];rfl
 rw[if_neg h];by_cases l:c<2048
 .rw[if_pos l];have b:∀ s,bt (UInt8.ofNat (192+c / 64).toNat::s) 0=192+c / 64:=fun s=>zY lw lw;have d:∀ s,bt (UInt8.ofNat (128+c % 64).toNat::s) 0=128+c % 64:=fun s=>zY lw lw;have e:∀ s,tl (UInt8.ofNat (128+c % 64).toNat::s) 0=true:=fun s=>MK lw lw;simp only[MJ,zB8,zE7,zE3,zB6,rV,b,Wy,Wt,d,e];rw[decide_eq_false (show ¬192+c / 64<128 by omega),decide_eq_true (show 194<=192+c / 64 by omega),decide_eq_true (show 192+c / 64<224 by omega)];simp only[cond_false,zD8,cond_true,zA9,zB4];rw[show (192+c / 64-192)*64+(128+c % 64)-128=c by omega];rfl
 rw[if_neg l];by_cases m:c<65536
 .rw[if_pos m];have b:∀ s,bt (UInt8.ofNat (224+c / 4096).toNat::s) 0=224+c / 4096:=fun s=>zY lw lw;have d:∀ s,bt (UInt8.ofNat (128+c / 64 % 64).toNat::s) 0=128+c / 64 % 64:=fun s=>zY lw lw;have i:∀ s,bt (UInt8.ofNat (128+c % 64).toNat::s) 0=128+c % 64:=fun s=>zY lw lw;have e:∀ s,tl (UInt8.ofNat (128+c / 64 % 64).toNat::s) 0=true:=fun s=>MK lw lw;have j:∀ s,tl (UInt8.ofNat (128+c % 64).toNat::s) 0=true:=fun s=>MK lw lw;simp only[MJ,zB8,zE7,zE3,zB6,rV,b,Wy,WY,Wt,WX,d,i,e,j];have k:((224+c / 4096-224)*64+(128+c / 64 % 64)-128)*64+(128+c % 64)-128=c:=by omega
  rw[k,decide_eq_false (show ¬224+c / 4096<128 by omega),decide_eq_false (show ¬224+c / 4096<224 by omega),decide_eq_true (show 224<=224+c / 4096 by omega),decide_eq_true (show 224+c / 4096<240 by omega),decide_eq_true (show 2048<=c by omega),a];simp only[cond_false,zD8,cond_true,Bool.and_false,Bool.false_and,zA9,zB4];rfl
 rw[if_neg m];have b:∀ s,bt (UInt8.ofNat (240+c / 262144).toNat::s) 0=240+c / 262144:=fun s=>zY lw lw;have d:∀ s,bt (UInt8.ofNat (128+c / 4096 % 64).toNat::s) 0=128+c / 4096 % 64:=fun s=>zY lw lw;have i:∀ s,bt (UInt8.ofNat (128+c / 64 % 64).toNat::s) 0=128+c / 64 % 64:=fun s=>zY lw lw;have o:∀ s,bt (UInt8.ofNat (128+c % 64).toNat::s) 0=128+c % 64:=fun s=>zY lw lw;have e:∀ s,tl (UInt8.ofNat (128+c / 4096 % 64).toNat::s) 0=true:=fun s=>MK lw lw;have j:∀ s,tl (UInt8.ofNat (128+c / 64 % 64).toNat::s) 0=true:=fun s=>MK lw lw;have p:∀ s,tl (UInt8.ofNat (128+c % 64).toNat::s) 0=true:=fun s=>MK lw lw;simp only[MJ,zB8,zE7,zE3,zB6,rV,b,Wy,WY,Xd,Wt,WX,Xg,d,i,o,e,j,p];have k:(((240+c / 262144-240)*64+(128+c / 4096 % 64)-128)*64+(128+c / 64 % 64)-128)*64+(128+c % 64)-128=c:=by omega
 rw[k,decide_eq_false (show ¬240+c / 262144<128 by omega),decide_eq_false (show ¬240+c / 262144<224 by omega),decide_eq_false (show ¬240+c / 262144<240 by omega),decide_eq_true (show 240<=240+c / 262144 by omega),decide_eq_true (show 240+c / 262144<245 by omega),decide_eq_true (show 65536<=c by omega),a];simp only[cond_false,zD8,cond_true,Bool.and_false,Bool.false_and,zA9,zB4];rfl
def HO:∀(l:List Int),(∀ c∈l,oA c=bv)->ei (MJ (l.flatMap iG))=a9 l
 |[],_=>rfl
 |c::l,h=>by
  have b:=h c nl;have d:=HO l fun q e=>h q (zB9 _ e);have f:MJ ((c::l).flatMap iG)=MJ (iG c)++MJ (l.flatMap iG):=by simp[MJ]
  have i:=GJ c;have a:(MJ (iG c)).length=(iG c).length:=by simp[MJ]
  rw[f,n6 _ (by rw[zB3]; omega),Sq c b];simp only;rw[if_neg lw,zG7,<-a,List.drop_left,d];rfl
def Qy(l:List Int)(h:∀ c∈l,oA c=bv):ei (vl l).data.toList=a9 l:=by have:=HO l h;unfold MJ at this;exact this
def gQ:List Ce->List Ce
 |[]=>[]
 |c::l=>(if c.rune=-1 then Ce.sp else c)::l
def nh(l:List Ce):Prop:=∀ c,l[0]?=a9 c->c.rune≠-1
def lQ(l:List Ce):(gQ l).length=l.length:=by cases l<;>rfl
def sx(l:List Ce):nh (gQ l):=by
 cases l with
 |nil=>intro c h; cases h
 |cons x l =>
  intro c h;simp only[gQ,zG1,i8]at h;subst h;split
  .decide
  .assumption
def su{l:List Ce}(h:nh l):gQ l=l:=by
 cases l with
 |nil=>rfl
 |cons x l=>rw[gQ,if_neg (h x rfl)]
def uM(l:List Ce)(n:Nat):gQ ((gQ l).drop n)=gQ (l.drop n):=by
 cases l with
 |nil=>rfl
 |cons x l =>
  cases n with
  |zero=>exact su (sx _)
  |succ n=>simp[gQ]
def I0(P:List Ce)(x:Ce)(Y:List Ce)(c:Ce):(P++x::Y).set P.length c=P++c::Y:=by rw[List.set_append_right _ _ (zA4 _),zG8,List.set_cons_zero]
def Ks(P:List Ce)(x y:Ce)(Y:List Ce)(c:Ce):(P++x::y::Y).set (P.length+1) c=P++x::c::Y:=by rw[List.set_append_right _ _ (Nat.le_add_right _ _),zG2,List.set_cons_succ,List.set_cons_zero]
def getD_at(P:List Ce)(x:Ce)(Y:List Ce)(d:Ce):(P++x::Y).getD P.length d=x:=by rw[zC9,zG5 (zA4 _),zG8]; rfl
def QF(P:List Ce)(x:Ce)(Y:List Ce)(d:Ce):(P++x::Y).getD (P.length+1) d=Y.getD 0 d:=by rw[zC9,zG5 (Nat.le_add_right _ _),zG2,zH8,zC9]
def mM{P Y:List Ce}{x c:Ce}(hx:x.rune≠-1):yc (P++x::Y) P.length c=P++c::gQ Y:=by
 unfold yc;have a:xM (P++x::Y) P.length=P++x::Y:=by rw[xM,getD_at,if_neg (fun h=>hx h.2)]
 rw[a]
 have b:CN (P++x::Y) P.length=P++x::gQ Y:=by
  rw[CN,QF]
  cases Y with
  |nil=>rw[if_neg ol]; rfl
  |cons y Y =>
   rw[gQ,show (y::Y).getD 0 Ce.sp=y from rfl];split
   .rw[Ks]
   .rfl
 rw[b,I0]
def T6{P Y:List Ce}{x:Ce}{k:Lk}{c:Int}(a:aP c≠2)(hx:x.rune≠-1):tL k (P++x::Y) P.length c=P++k.ce c::gQ Y:=by rw[tL,if_neg a,mM hx,I0]
def UZ{P Y:List Ce}{x y:Ce}{k:Lk}{c:Int}(d:aP c=2)(hx:x.rune≠-1):tL k (P++x::y::Y) P.length c=P++k.ce c::k.ce (-1)::gQ Y:=by
 rw[tL,if_pos d,mM hx,gQ];generalize f:(if y.rune=-1 then Ce.sp else y)=y';have a:y'.rune≠-1:=by rw[<-f]; split; decide; assumption
 have e:P++Ce.sp::y'::Y=(P++[Ce.sp])++y'::Y:=by simp
 have b:P.length+1=(P++[Ce.sp]).length:=by simp
 rw[e,b,mM a,<-b];have h:(P++[Ce.sp])++Ce.sp::gQ Y=P++Ce.sp::Ce.sp::gQ Y:=by simp
 rw[h,Ks,I0]
def fN{c:Ce}{l:List Ce}(h:bH (c::l)=bv):aP c.rune≠0/\lK c.look=bv/\c.rune≠-1/\((aP c.rune≠2/\bH l=bv)\/(aP c.rune=2/\∃ l',l=c.look.ce (-1)::l'/\bH l'=bv)):=by
 rw[eH]at h;split at h
 .cases h
 rename_i a;simp only[zH5,decide_eq_true_eq,not_or,Bool.not_eq_true',Bool.not_eq_false]at a;refine⟨a.1,a.2,fun e=>a.1 (by rw[e]; decide),?_⟩;split at h
 .rename_i b
  cases l with
  |nil=>cases h
  |cons d l' =>simp only[zA6,decide_eq_true_eq]at h;exact .inr ⟨b,l',by rw[h.1],h.2⟩
 .rename_i b;exact .inl ⟨b,h⟩
def Ka{c:Int}(a:aP c≠0)(b:aP c≠2):aP c=1:=by
 unfold aP at *
 split
 .rename_i h; rw[if_pos h]at a; exact absurd rfl a
 .rename_i h;rw[if_neg h]at a b;rcases oH c with h|h|h
  .exact absurd h a
  .exact h
  .exact absurd h b
def qL:∀(n:Nat)(A B:List Ce),A.length<=n->bH (A++B)=bv->nh B->bH A=bv/\bH B=bv
 |_,[],B,_,h,_=>⟨rfl,h⟩
 |0,_::_,_,a,_,_=>by simp at a
 |n+1,x::A,B,a,h,c=>by
  obtain⟨f,hk,hr,b|⟨i,l',e,b⟩⟩:=fN (l:=A++B) h
  .have:=qL n A B (by simpa using a) b.2 c;refine⟨?_,this.2⟩;rw[eH,if_neg (by simp[f,hk]),if_neg b.1];exact this.1
  .cases A with
   |nil =>rw[zB6]at e;exact absurd rfl (c _ (by rw[e]; rfl))
   |cons d A =>rw[zE3,List.cons.injEq]at e;obtain⟨rfl,rfl⟩:=e;have:=qL n A B (by simp at a; omega) b c;refine⟨?_,this.2⟩;rw[eH,if_neg (by simp[f,hk]),if_pos i];simp[this.1]
theorem K2(c:Ce):c.look.ce c.rune=c:=rfl
def v7:∀(n:Nat)(L P Z:List Ce)(k:Lk),L.length<=n->bH L=bv->(∀ c∈L,c.look=k)->nh Z->L.length<=Z.length ->
  gz k (b9 L) (P++Z) P.length=(P++L++gQ (Z.drop L.length),P.length+L.length)
 |_,[],P,Z,k,_,_,_,f,_=>by simp[b9,gz,su f]
 |0,_::_,_,_,_,h,_,_,_,_=>by simp at h
 |n+1,c::L,P,Z,k,h,u,b,f,a=>by
  obtain⟨w,hcl,hr,d|⟨s,l',e,d⟩⟩:=fN u
  .cases Z with
   |nil=>simp at a
   |cons z Z =>
    have i:b9 (c::L)=c.rune::b9 L:=by simp[b9,hr]
    rw[i,gz,T6 d.1 (f z rfl),Ka w d.1];have j:k.ce c.rune=c:=by rw[<-b c nl]; exact K2 c
    rw[j];have l:=v7 n L (P++[c]) (gQ Z) k (by simpa using h) d.2 (fun q m=>b q (zB9 _ m)) (sx _) (by rw[lQ]; simpa using a);have o:P++c::gQ Z=(P++[c])++gQ Z:=by simp
    have p:P.length+1=(P++[c]).length:=by simp
    rw[o,p,l,uM];simp; omega
  .subst e
   match Z,a with
   |z::y::Z,a =>
    have i:b9 (c::c.look.ce (-1)::l')=c.rune::b9 l':=by have:(c.look.ce (-1)).rune=-1:=rfl;simp[b9,hr,this]
    rw[i,gz,UZ s (f z rfl),s];have j:k.ce c.rune=c:=by rw[<-b c nl]; exact K2 c
    have r:c.look=k:=b c nl;rw[j];have l:=v7 n l' (P++[c,c.look.ce (-1)]) (gQ Z) k (by simp at h; omega) d (fun q m=>b q (zB9 _ (zB9 _ m))) (sx _) (by rw[lQ]; simpa using a);have o:P++c::k.ce (-1)::gQ Z=(P++[c,c.look.ce (-1)])++gQ Z:=by rw[r]; simp
    have p:P.length+2=(P++[c,c.look.ce (-1)]).length:=by simp
    rw[o,p,l,uM];simp; omega
   |[z],a=>simp at a
   |[],a=>simp at a
def E4:∀(n:Nat)(L:List Ce)(W i:Nat),L.length<=n->bH L=bv->i+L.length<=W->St.fits W (b9 L) i=bv
 |_,[],W,i,_,_,_=>by simp[b9,St.fits]
 |0,_::_,_,_,b,_,_=>by simp at b
 |n+1,c::L,W,i,b,k,h=>by
  simp only[zA9]at h b;obtain⟨l,hcl,hr,d|⟨j,l',e,d⟩⟩:=fN k
  .have f:b9 (c::L)=c.rune::b9 L:=by simp[b9,hr]
   have a:=Ka l d.1;rw[f,St.fits,if_neg (by simp[a]; omega),a];have:=E4 n L W (i+1) lw d.2 lw
   exact_mod_cast this
  .subst e;have f:b9 (c::c.look.ce (-1)::l')=c.rune::b9 l':=by have:(c.look.ce (-1)).rune=-1:=rfl;simp[b9,hr,this]
   simp only[zA9]at h b;rw[f,St.fits,if_neg (by simp[j]; omega),j];have:=E4 n l' W (i+2) lw d lw
   exact_mod_cast this
def sI:∀(n:Nat)(L:List Ce)(k:Lk),L.length<=n->bH L=bv->bH (L.take (fG k L))=bv/\bH (L.drop (fG k L))=bv/\∀ q∈L.take (fG k L),q.look=k
 |_,[],k,_,_=>by simp[fG,bH]
 |0,_::_,_,f,_=>by simp at f
 |n+1,c::L,k,f,i=>by
  by_cases b:c.look=k
  .have l:=i;obtain⟨j,hcl,hr,h|⟨m,l',e,h⟩⟩:=fN i
   .have a:=sI n L k (by simpa using f) h.2;rw[fG,if_pos b,List.take_succ_cons,List.drop_succ_cons];refine⟨?_,a.2.1,fun q hq=>?_⟩
    .rw[eH,if_neg (by simp[j,hcl]),if_neg h.1];exact a.1
    .rcases zA8.1 hq with rfl|hq
     .exact b
     .exact a.2.2 q hq
   .subst e;have a:=sI n l' k (by simp at f; omega) h;have d:(c.look.ce (-1)).look=k:=b;rw[fG,if_pos b,fG,if_pos d,List.take_succ_cons,List.drop_succ_cons,List.take_succ_cons,List.drop_succ_cons];refine⟨?_,a.2.1,fun q hq=>?_⟩
    .rw[eH,if_neg (by simp[j,hcl]),if_pos m];simp[a.1]
    .rcases zA8.1 hq with rfl|hq
     .exact b
     rcases zA8.1 hq with rfl|hq
     .exact d
     .exact a.2.2 q hq
  .rw[fG,if_neg b];exact⟨rfl,i,fun q hq=>by simp at hq⟩
def pw{l:List Ce}(h:bH l=bv):nh l:=by
 intro c a
 cases l with
 |nil=>cases a
 |cons x l=>cases a; exact (fN h).2.2.1
def oS:∀(n:Nat)(l:List Ce)(j:Nat)(c:Ce),l.length<=n->bH l=bv->l[j]?=a9 c->aP c.rune=2->l[j+1]?=a9 (c.look.ce (-1))
 |_,[],j,c,_,_,h,_=>by simp at h
 |0,_::_,_,_,a,_,_,_=>by simp at a
 |n+1,x::l,j,c,a,f,h,b=>by
  simp only[zA9]at a;obtain⟨i,hcl,hr,d|⟨k,l',e,d⟩⟩:=fN f
  .cases j with
   |zero=>cases h; exact absurd b d.1
   |succ j=>exact oS n l j c lw d.2 h b
  .subst e
   cases j with
   |zero=>cases h; rfl
   |succ j =>
    cases j with
    |zero=>cases h; exact absurd b (show ¬aP (-1)=2 by decide)
    |succ j=>exact oS n l' j c (by simp at a; omega) d h b
def oW:∀(n:Nat)(l:List Ce)(j:Nat)(d:Ce),l.length<=n->bH l=bv->l[j+1]?=a9 d->d.rune=-1->∃ c,l[j]?=a9 c/\aP c.rune=2
 |_,[],j,c,_,_,h,_=>by simp at h
 |0,_::_,_,_,b,_,_,_=>by simp at b
 |n+1,x::l,j,d,b,i,h,f=>by
  simp only[zA9]at b;obtain⟨m,hcl,hr,a|⟨k,l',e,a⟩⟩:=fN i
  .cases j with
   |zero=>exact absurd f (pw a.2 d h)
   |succ j=>exact oW n l j d lw a.2 h f
  .subst e
   cases j with
   |zero=>exact⟨x,rfl,k⟩
   |succ j =>
    cases j with
    |zero=>exact absurd f (pw a d h)
    |succ j=>exact oW n l' j d (by simp at b; omega) a h f
def LY{a b:List Ce}{j:Nat}{d:Ce}(e:bH a=bv)(l:bH b=bv)(m:a[j]?=b[j]?)(f:a[j+1]?=a9 d)(n:d.rune=-1):b[j+1]?=a9 d:=by obtain⟨c,h,i⟩:=oW _ a j d (zA4 _) e f n;have k:=oS _ a j c (zA4 _) e h i;have o:=oS _ b j c (zA4 _) l (m▸h) i;rw[f]at k;rw[o,k]
def kq{l:List Ce}{j:Nat}:nh (l.drop j) ↔ ∀ c,l[j]?=a9 c->c.rune≠-1:=by unfold nh;rw[List.getElem?_drop,zD5]
def GF(a b:List Ce):∀ f i j,i<=j->j<eL a b i f->a[j]?=b[j]?
 |0,i,j,d,c=>by rw[eL]at c; omega
 |f+1,i,j,d,c=>by
  rw[eL]at c;split at c
  .rename_i e;rcases Nat.eq_or_lt_of_le d with rfl|h3
   .exact e
   .exact GF a b f (i+1) j h3 c
  .omega
def Pu{a b:List Ce}{i s:Nat}(m:bH a=bv)(n:bH b=bv)(o:a.length=b.length)(e:i<=s)(u:s<=b.length)(d:∀ j,i<=j->j<s->a[j]?=b[j]?)(hi:nh (b.drop i))(p:nh (b.drop s)):b.take i++gQ (a.drop i)=b.take s++gQ (a.drop s):=by
 rcases Nat.eq_or_lt_of_le e with rfl|h
 .rfl
 have q:nh (a.drop i):=kq.2 fun c f=>kq.1 hi c (d i (zA4 _) h▸f)
 have r:nh (a.drop s):=kq.2 fun c f l=>by
  obtain⟨k,rfl⟩:∃ k,s=k+1:=⟨s-1,by omega⟩
  exact kq.1 p c (LY m n (d k lw lw) f l) l
 rw[su q,su r];apply List.ext_getElem?;intro j;rcases zC0 j s with h3|h3
 .rw[List.getElem?_append_left (l₁:=b.take s) (by rw[zD9]; omega),List.getElem?_take,if_pos h3];rcases zC0 j i with h4|h4
  .rw[List.getElem?_append_left (by rw[zD9]; omega),List.getElem?_take,if_pos h4]
  .rw[zG5 (by rw[zD9]; omega),List.getElem?_drop,zD9,zH0 lw,show i+(j-i)=j by omega];exact d j h4 h3
 .rw[zG5 (by rw[zD9]; omega),zG5 (by rw[zD9]; omega),List.getElem?_drop,List.getElem?_drop,zD9,zD9,zH0 lw,zH0 lw];congr 1; omega
def jf(W:Nat):List Op->St->Option St
 |[],x=>a9 x
 |o::l,x=>(x.iD W ei o).bind (jf W l)
def mc(W:Nat):∀(l m:List Op)(x y:St),jf W l x=a9 y->jf W (l++m) x=jf W m y
 |[],m,x,y,h=>by cases h; rfl
 |o::l,m,x,y,h=>by
  rw[zE3,jf];rw[jf]at h
  cases a:x.iD W ei o with
  |none=>rw[a]at h; cases h
  |some z =>rw[a]at h;exact mc W l m z y h
def Fq(W:Nat):∀(l:List Op)(i:Nat)(x y:St),jf W l x=a9 y->St.all W ei l i x=.inl y
 |[],i,x,y,h=>by cases h; rfl
 |o::l,i,x,y,h=>by
  rw[jf]at h;rw[St.all]
  cases a:x.iD W ei o with
  |none=>rw[a]at h; cases h
  |some z =>rw[a]at h;exact Fq W l (i+1) z y h
def JM{W:Nat}{x:St}{r c:Nat}(a:r<x.aj.length)(b:c<W):x.iD W ei (R3 r c)=a9 {x with row:=(r:Int),col:=(c:Int)}:=by
 have:(f7 (0<=(r:Int))&&f7 ((r:Int)<x.aj.length)&&f7 (0<=(c:Int))&&f7 ((c:Int)<W))=true:=by simp only[zA6,decide_eq_true_eq]; omega
 unfold St.iD;rw[if_pos (show (R3 r c).kind=1 from rfl)];exact if_pos this
def Uo{W:Nat}{x:St}{k:Lk}(h:lK k=bv):x.iD W ei (RF k)=a9 {x with b7:=k}:=by unfold St.iD;rw[if_neg (show ¬(RF k).kind=1 from by show ¬(2:Int)=1; decide),if_pos (show (RF k).kind=2 from rfl)];exact if_pos h
def tR{G:List (List Ce)}{r:Nat}{l:List Ce}(h:G[r]?=a9 l):G.set r l=G:=by obtain⟨a,b⟩:=zF5.1 h;subst b;exact List.set_getElem_self a
def D2{G:List (List Ce)}{r:Nat}{l m:List Ce}(h:G[r]?=a9 l):(G.set r m)[r]?=a9 m:=by obtain⟨a,_⟩:=zF5.1 h;rw[List.getElem?_set_self a]
def UW{W:Nat}{G:List (List Ce)}{sr sc:Int}{k:Lk}{sh:Bool}{r:Nat}{P Z A:List Ce}(f:G[r]?=a9 (P++Z))(b:bH A=bv)(h:∀ c∈A,c.look=k)(i:nh Z)(j:A.length<=Z.length)(o:P.length+Z.length=W) :
  St.iD W ei ⟨G,sr,sc,k,(r:Int),(P.length:Int),sh⟩ (SG (vl (b9 A)))=a9 ⟨G.set r (P++A++gQ (Z.drop A.length)),sr,sc,k,(r:Int),((P.length+A.length:Nat):Int),sh⟩:=by
 have l:ei (vl (b9 A)).data.toList=a9 (b9 A):=Qy _ fun c e=>by simp only[b9,List.mem_filter,zC1,decide_eq_true_eq]at e;obtain⟨⟨q,m,rfl⟩,h2⟩:=e;exact o9 _ A (zA4 _) b q m h2
 have n:=E4 _ A W P.length (zA4 _) b lw;have d:G.getD r []=P++Z:=by rw[zC9,f]; rfl
 have a:=v7 _ A P Z k (zA4 _) b h i j;unfold St.iD;rw[if_neg (show ¬(SG (vl (b9 A))).kind=1 from by show ¬(3:Int)=1; decide),if_neg (show ¬(SG (vl (b9 A))).kind=2 from by show ¬(3:Int)=2; decide),if_pos (show (SG (vl (b9 A))).kind=3 from rfl)];simp only[show (SG (vl (b9 A))).text=vl (b9 A) from rfl,l,n,if_true,zG7,d,a]
def B9(W:Nat):∀(f:Nat)(L P Z:List Ce)(G:List (List Ce))(sr sc:Int)(k:Lk)(sh:Bool)(r:Nat),L.length<=f->bH L=bv->nh Z->L.length<=Z.length->P.length+Z.length=W->G[r]?=a9 (P++Z) ->
  jf W (fI f L k).1 ⟨G,sr,sc,k,(r:Int),(P.length:Int),sh⟩=a9 ⟨G.set r (P++L++gQ (Z.drop L.length)),sr,sc,(fI f L k).2,(r:Int),((P.length+L.length:Nat):Int),sh⟩
 |f,[],P,Z,G,sr,sc,k,sh,r,_,_,j,_,_,h=>by rw[y9];simp only[jf,zC7,zB4,zD0,su j,tR h,zD5]
 |0,_::_,_,_,_,_,_,_,_,_,l,_,_,_,_,_=>by simp at l
 |f+1,c::m,P,Z,G,sr,sc,k,sh,r,l,o,j,w,z,h=>by
  obtain⟨L,d⟩:=ac (c::m);have e:lK c.look=true:=(fN o).2.1;obtain⟨n,a⟩:=ac (fG c.look L);have i:=sI _ L c.look (zA4 _) (d▸o);have s:1<=n:=by rw[<-a,<-d]; exact vC c m
  have A:n<=L.length:=a▸ud c.look L;rw[a]at i;have p:fI (f+1) (c::m) k=((if c.look=k then [] else [RF c.look])++SG (vl (b9 (L.take n)))::(fI f (L.drop n) c.look).1,(fI f (L.drop n) c.look).2):=by rw[fI,d,a]
  rw[p,d];rw[d]at l o w;have q:(L.take n).length=n:=by rw[zD9]; omega
  have b:jf W (if c.look=k then [] else [RF c.look]) ⟨G,sr,sc,k,(r:Int),(P.length:Int),sh⟩=a9 ⟨G,sr,sc,c.look,(r:Int),(P.length:Int),sh⟩:=by
   split
   .rename_i B; rw[B]; rfl
   .rw[jf,Uo e]; rfl
  rw[mc W _ _ _ _ b,jf,UW h i.1 i.2.2 j lw z,zA3,q];have u:=B9 W f (L.drop n) (P++L.take n) (gQ (Z.drop n)) (G.set r (P++L.take n++gQ (Z.drop n))) sr sc c.look sh r (by rw[zC6]; omega) i.2.1 (sx _) (by rw[lQ,zC6,zC6]; omega) (by rw[lQ,zB3,q,zC6]; omega) (D2 h);rw[zB3,q]at u;rw[u];have C:P++L.take n++L.drop n=P++L:=by rw[zC8,zG9]
  have D:gQ ((gQ (Z.drop n)).drop (L.drop n).length)=gQ (Z.drop L.length):=by rw[uM,zH3,zC6]; congr 2; omega
  rw[C,D,List.set_set,zC6,show P.length+n+(L.length-n)=P.length+L.length by omega]
def P4{W:Nat}{L P Z:List Ce}{G:List (List Ce)}{sr sc row0 col0:Int}{k:Lk}{sh:Bool}{r:Nat}(c:bH L=bv)(d:nh Z)(e:L.length<=Z.length)(f:P.length+Z.length=W)(a:0<Z.length)(b:G[r]?=a9 (P++Z)) :
  jf W (kM r P.length L k).1 ⟨G,sr,sc,k,row0,col0,sh⟩=a9 ⟨G.set r (P++L++gQ (Z.drop L.length)),sr,sc,(kM r P.length L k).2,(r:Int),((P.length+L.length:Nat):Int),sh⟩:=by
 simp only[kM];rw[jf,JM (zF5.1 b).1 lw,zA3];exact B9 W L.length L P Z G sr sc k sh r (zA4 _) c d e f b
def Ie(b:List Ce)(e:Nat):Prop:=∀ j c,e<=j->b[j]?=a9 c->c=Ce.sp
def xB(l:List Ce):∀ e,(∀ j c,e<=j->l[j]?=a9 c->c=Ce.sp)->Ie l (mS l e)
 |0,h=>h
 |e+1,h=>by
  rw[mS];split
  .rename_i b;refine xB l e fun j c d a=>?_;rcases Nat.eq_or_lt_of_le d with rfl|h3
   .rw[b]at a; exact (Option.some.inj a).symm
   .exact h j c h3 a
  .exact h
def RW(a b:List Ce):∀ f i c k,0<f->k<8->a[i]?≠b[i]?->c<=i->i<qw a b i c k f
 |0,_,_,_,h,_,_,_=>by omega
 |f+1,i,c,k,_,d,cn,_=>by rw[qw,if_pos d,if_neg cn];have:=mP a b f (i+1) (i+1) 0 (zA4 _);omega
def zE{W r e:Nat}{a b:List Ce}{sr sc:Int}{sh:Bool}(ha:bH a=bv)(E:bH b=bv)(hal:a.length=W)(hbl:b.length=W)(he:e<=W)(q:Ie b e) :
  ∀(f i:Nat)(k:Lk)(G:List (List Ce))(row0 col0:Int),i<=e->nh (b.drop i)->W+1<=f+i->G[r]?=a9 (b.take i++gQ (a.drop i)) ->
   ∃ l m,jf W (eP r a b e f i k).1 ⟨G,sr,sc,k,row0,col0,sh⟩=a9 ⟨G.set r (b.take e++gQ (a.drop e)),sr,sc,(eP r a b e f i k).2,l,m,sh⟩
 |0,i,k,G,row0,col0,hi,_,hf,_=>by omega
 |f+1,i,k,G,row0,col0,hi,I,hf,J=>by
  obtain⟨s,hs⟩:=ac (eL a b i (e-i));have u:=pR a b (e-i) i;have w:=GF a b (e-i) i;have z:=yU a b (e-i) i;rw[hs]at u w z
  obtain⟨o,A⟩:∃ t,qw a b s s 0 (e-s)=t:=⟨_,rfl⟩
  have htg:=mP a b (e-s) s s 0 (zA4 _);rw[A]at htg;have V:bM a b i e=(s,jI b s o):=by simp only[bM,hs,A]
  have K:nh (b.drop s):=kq.2 fun c j p=>by
   rcases Nat.eq_or_lt_of_le u.1 with h|h
   .subst h; exact kq.1 I c j p
   rcases Nat.eq_or_lt_of_le (show s<=e by omega) with h2|h2
   .have:=q s c lw j;rw[this]at p;exact absurd p ol
   .obtain⟨s',rfl⟩:∃ s',s=s'+1:=⟨s-1,by omega⟩
    have hx:=LY E ha (w s' lw lw).symm j p;exact z lw (by rw[hx,j])
  have B:=Pu ha E lw u.1 lw w I K;rw[B]at J;by_cases hst:s<e
  .have O:=RW a b (e-s) s s 0 lw ol (z lw) (zA4 _);rw[A]at O;obtain⟨t,ht⟩:=ac (jI b s o)
   have C:o<=t/\t<=e/\nh (b.drop t):=by
    rw[<-ht,jI];split
    .rename_i j
     obtain⟨c,Q,D⟩:∃ c,b[o]?=a9 c/\c.rune=-1:=by
      cases R:b[o]? with
      |none=>rw[R]at j; simp at j
      |some c=>rw[R]at j; exact⟨c,rfl,by simpa using j.2⟩
     have hlt:o<e:=by
      rcases zC0 o e with h|h
      .exact h
      .have:=q o c h Q;rw[this]at D;exact absurd D ol
     refine⟨by omega,by omega,kq.2 fun d hd p=>?_⟩;obtain⟨c',Y,h2⟩:=oW _ b o d (zA4 _) E hd p;rw[Q]at Y;cases Y;rw[D]at h2;exact absurd h2 ol
    .rename_i j;refine⟨zA4 _,by omega,kq.2 fun d hd p=>j ⟨O,by rw[hd]; simp[p]⟩⟩
   rw[ht]at V;have S:(bM a b i e).1<(bM a b i e).2:=by rw[V]; show s<t; omega
   rw[eP,if_pos S,V];simp only;obtain⟨L,hL⟩:=ac ((b.take t).drop s);have hLl:L.length=t-s:=by rw[<-hL,zC6,zD9]; omega
   have T:b.take t=b.take s++L:=by rw[<-hL,List.drop_take,<-List.take_add,show s+(t-s)=t by omega]
   have hwL:bH L=true:=by
    have Y:bH (b.take t++b.drop t)=true:=by rw[zG9]; exact E
    have h2:=(qL _ _ _ (zA4 _) Y C.2.2).1;rw[T]at h2;have h3:nh L:=by intro c j;refine kq.1 K c ?_;rw[<-hL,List.getElem?_drop,zD5,List.getElem?_take,if_pos lw]at j;exact j
    exact (qL _ _ _ (zA4 _) h2 h3).2
   have hPl:(b.take s).length=s:=by rw[zD9]; omega
   have n:=P4 (W:=W) (L:=L) (P:=b.take s) (Z:=gQ (a.drop s)) (G:=G) (sr:=sr) (sc:=sc) (row0:=row0) (col0:=col0) (k:=k) (sh:=sh) (r:=r) hwL (sx _) (by rw[lQ,zC6]; omega) (by rw[lQ,zC6]; omega) (by rw[lQ,zC6]; omega) J;rw[hPl,hLl]at n;have U:b.take s++L++gQ ((gQ (a.drop s)).drop (t-s))=b.take t++gQ (a.drop t):=by rw[T,uM,zH3,show s+(t-s)=t by omega]
   rw[U]at n;have ih:=zE (r:=r) (sr:=sr) (sc:=sc) (sh:=sh) ha E hal hbl he q f t (kM r s L k).2 (G.set r (b.take t++gQ (a.drop t))) r ((s+(t-s):Nat):Int) C.2.1 C.2.2 lw (D2 J);obtain⟨l,m,ih⟩:=ih;refine⟨l,m,?_⟩;rw[hL,mc W _ _ _ _ n,ih,List.set_set]
  .have hes:s=e:=by omega
   have hpn:¬(bM a b i e).1<(bM a b i e).2:=by rw[V];show ¬s<jI b s o;rw[jI,if_neg lw];omega
   rw[tn hpn];refine⟨row0,col0,?_⟩;rw[hes]at J;simp only[jf,tR J]
def Cz:∀(n:Nat)(P Z:List Ce),Z.length=n->nh Z->iy (P++Z) P.length n=P++List.replicate n Ce.sp
 |0,P,Z,h,_=>by rw[zE5 h]; simp[iy]
 |n+1,P,[],h,_=>by simp at h
 |n+1,P,z::Z,h,a=>by
  rw[iy,mM (a z rfl)];have b:P++Ce.sp::gQ Z=(P++[Ce.sp])++gQ Z:=by simp
  have c:P.length+1=(P++[Ce.sp]).length:=by simp
  rw[b,c,Cz n (P++[Ce.sp]) (gQ Z) (by rw[lQ]; simpa using h) (sx _),List.replicate_succ];simp
def Oo{W r:Nat}{a b:List Ce}{sr sc row0 col0:Int}{sh:Bool}{k:Lk}{G:List (List Ce)}(J:bH a=bv)(L:bH b=bv)(w:a.length=W)(p:b.length=W)(O:G[r]?=a9 a) :
  ∃ d f,jf W (oc r a b k).1 ⟨G,sr,sc,k,row0,col0,sh⟩=a9 ⟨G.set r b,sr,sc,(oc r a b k).2,d,f,sh⟩:=by
 obtain⟨e,z⟩:=ac (mS b b.length);have A:e<=W:=by rw[<-z,<-p]; exact uq b b.length
 have l:Ie b e:=z▸xB b b.length fun j c s o=>by rw[zD3 s]at o; cases o
 have Q:b.take 0++gQ (a.drop 0)=a:=by simp[su (pw J)]
 have cn:nh (b.drop e):=kq.2 fun c o=>by rw[l e c (zA4 _) o]; decide
 obtain⟨d,f,R⟩:=zE (r:=r) (sr:=sr) (sc:=sc) (sh:=sh) J L w p A l (b.length+1) 0 k G row0 col0 (zB7 _) (by rw[zD0]; exact pw L) lw (by rw[Q]; exact O);simp only[oc,z];rw[mc W _ _ _ _ R];by_cases u:a.drop e=b.drop e
 .refine⟨d,f,?_⟩;rw[Il,if_pos u,u,su cn,zG9];rfl
 .have B:e<W:=by
   rcases zC0 e W with h|h
   .exact h
   .exact absurd (by rw[zE9 lw,zE9 lw]) u
  obtain⟨K,S⟩:=ac ((eP r a b e (b.length+1) 0 k).2);rw[S];have n:=D2 (m:=b.take e++gQ (a.drop e)) O;obtain⟨P,i⟩:=ac (G.set r (b.take e++gQ (a.drop e)));rw[i]at n ⊢;have C:(b.take e).length=e:=by rw[zD9]; omega
  have D:(gQ (a.drop e)).length=W-e:=by rw[lQ,zC6]; omega
  have q:=Cz (W-e) (b.take e) (gQ (a.drop e)) D (sx _);rw[C]at q
  have E:b.take e++List.replicate (W-e) Ce.sp=b:=by
   have:List.replicate (W-e) Ce.sp=b.drop e:=by
    symm
    refine List.eq_replicate_iff.2 ⟨by rw[zC6]; omega,fun c o=>?_⟩;obtain⟨j,s⟩:=List.getElem?_of_mem o;rw[List.getElem?_drop]at s;exact l (e+j) c lw s
   rw[this,zG9]
  refine⟨(r:Int),(e:Int),?_⟩;rw[Il,if_neg u,jf,JM (zF5.1 n).1 B,zA3,jf];have I:St.iD W ei ⟨P,sr,sc,K,(r:Int),(e:Int),sh⟩ (PO 4)=a9 ⟨P.set r b,sr,sc,K,(r:Int),(e:Int),sh⟩:=by unfold St.iD;rw[if_neg (show ¬(PO 4).kind=1 from by show ¬(4:Int)=1; decide),if_neg (show ¬(PO 4).kind=2 from by show ¬(4:Int)=2; decide),if_neg (show ¬(PO 4).kind=3 from by show ¬(4:Int)=3; decide),if_pos (show (PO 4).kind=4 from rfl)];simp only;rw[if_pos lw,zG7,zG7,zC9,n,zH9,q,E]
  rw[I,zA3,jf,<-i,List.set_set]
def yS{W:Nat}{sr sc:Int}{sh:Bool}:∀(g h Q:List (List Ce))(k:Lk)(row0 col0:Int),g.length=h.length->(∀ l∈g,bH l=bv/\l.length=W)->(∀ l∈h,bH l=bv/\l.length=W) ->
  ∃ w c d,jf W (lH Q.length g h k) ⟨Q++g,sr,sc,k,row0,col0,sh⟩=a9 ⟨Q++h,sr,sc,w,c,d,sh⟩
 |[],[],Q,k,row0,col0,_,_,_=>⟨k,row0,col0,rfl⟩
 |[],_::_,_,_,_,_,f,_,_=>by simp at f
 |_::_,[],_,_,_,_,f,_,_=>by simp at f
 |a::g,b::h,Q,k,row0,col0,f,n,o=>by
  have p:Q++b::g=(Q++[b])++g:=by simp
  have q:Q++b::h=(Q++[b])++h:=by simp
  have s:Q.length+1=(Q++[b]).length:=by simp
  rw[lH];split
  .rename_i z;subst z;rw[p,q,s];exact yS g h (Q++[a]) k row0 col0 (by simpa using f) (fun l e=>n l (zB9 _ e)) (fun l e=>o l (zB9 _ e))
  .have i:=n a nl;have j:=o b nl;obtain⟨c,d,u⟩:=Oo (r:=Q.length) (sr:=sr) (sc:=sc) (row0:=row0) (col0:=col0) (sh:=sh) (k:=k) (G:=Q++a::g) i.1 j.1 i.2 j.2 (by rw[zG5 (zA4 _),zG8]; rfl);have m:(Q++a::g).set Q.length b=Q++b::g:=by rw[List.set_append_right _ _ (zA4 _),zG8,List.set_cons_zero]
   rw[m,p]at u;rw[mc W _ _ _ _ u,q,s];exact yS g h (Q++[b]) _ c d (by simpa using f) (fun l e=>n l (zB9 _ e)) (fun l e=>o l (zB9 _ e))
def JR{g:List (List Ce)}{r c:Int}(h:eK g r c=0):(∀ l∈g,bH l=bv/\l.length=di g)/\((0<=r/\r<(g.length:Int)/\0<=c/\c<(di g:Int))\/(r=-1/\c=0)):=by
 unfold eK at h
 cases d:(f7 ((g.length:Int)<1)||f7 (200<(g.length:Int))) with
 |true=>rw[d,cond_true]at h; omega
 |false =>
  rw[d,cond_false]at h;obtain⟨W,f⟩:=ac (di g);rw[f]at h ⊢
  cases b:(f7 ((W:Int)<1)||f7 (1000<(W:Int))||(!(f7 (0<=r)&&f7 (r<(g.length:Int))&&f7 (0<=c)&&f7 (c<(W:Int)))&&!(f7 (r=-1)&&f7 (c=0)))) with
  |true=>rw[b,cond_true]at h; omega
  |false =>
   rw[b,cond_false]at h
   cases e:lA W g with
   |false=>rw[e,cond_false]at h; omega
   |true =>
    simp only[Bool.or_eq_false_iff,decide_eq_false_iff_not]at b;obtain⟨⟨w1,j⟩,a⟩:=b;refine⟨fun l i=>?_,?_⟩
    .have:=zC3.1 e l i;unfold pH at this;simp only[zA6,decide_eq_true_eq]at this;exact⟨this.2,this.1⟩
    .by_cases q:(r=-1/\c=0)
     .exact .inr q
     .left;have:(f7 (r=-1)&&f7 (c=0))=false:=by by_cases k:r=-1<;>by_cases m:c=0<;>simp_all
      rw[this]at a;simp only[zF4,Bool.and_true,Bool.not_eq_false',zA6,decide_eq_true_eq]at a;exact⟨a.1.1.1,a.1.1.2,a.1.2,a.2⟩
def zk:∀ n,bH (List.replicate n Ce.sp)=bv
 |0=>rfl
 |n+1=>by
  have a:aP Ce.sp.rune=1:=by kernel_rfl
  have b:lK Ce.sp.look=true:=by kernel_rfl
  rw[List.replicate_succ,eH,a,b,if_neg ol,if_neg ol];exact zk n
def MT{W t b n:Nat}{g:List (List Ce)}{up:Bool}(h:∀ l∈g,bH l=bv/\l.length=W):∀ l∈nW W g t b n up,bH l=bv/\l.length=W:=by
 have a:∀ l∈List.replicate n (List.replicate W Ce.sp),bH l=bv/\l.length=W:=fun l hl=>by rw[(List.mem_replicate.1 hl).2];exact⟨zk W,by simp⟩
 intro l hl;unfold nW at hl;simp only[zB1]at hl;rcases hl with (hl|hl)|hl
 .exact h l (zE2 hl)
 .split at hl
  .rcases zB1.1 hl with hl|hl
   .exact h l (zE2 (zE4 (zE4 hl)))
   .exact a l hl
  .rcases zB1.1 hl with hl|hl
   .exact a l hl
   .exact h l (zE2 (zE4 (zE2 hl)))
 .exact h l (zE4 hl)
def Cw{g h:List (List Ce)}{r c:Int}(m:g.length=h.length)(o:eK g r c=0) :
  jf (di g) (gT g h).toList (St.start g r c)=a9 ⟨nA g h r c,(St.start g r c).sr,(St.start g r c).sc,Dj,(St.start g r c).row,(St.start g r c).col,(St.start g r c).shown⟩/\∀ l∈nA g h r c,bH l=bv/\l.length=di g:=by
 have p:=(JR o).1
 cases d:gT g h with
 |none =>
  have e:nA g h r c=g:=by unfold nA; rw[d]
  rw[e];exact⟨rfl,p⟩
 |some x =>
  obtain⟨y,f,j,-,-⟩:=zV d m o;obtain⟨t,b,i,k,rfl,s,hi,u,z⟩:=oY d m;have e:nA g h r c=y.aj:=by unfold nA; rw[d]; exact j
  have w:(c8 k t b i).kind=k:=rfl
  have a:(f7 (0<=(c8 k t b i).row)&&f7 ((c8 k t b i).row<=(c8 k t b i).col)&&f7 ((c8 k t b i).col<(St.start g r c).aj.length)&&f7 (1<=(c8 k t b i).n)&&f7 ((c8 k t b i).n<=(c8 k t b i).col-(c8 k t b i).row+1))=true:=by
   simp only[c8,St.start,zA6];have:(b:Int)<=(g.length:Int):=by omega
   refine⟨⟨⟨⟨?_,?_⟩,?_⟩,?_⟩,?_⟩;all_goals (apply decide_eq_true; omega)
  have q:(St.start g r c).iD (di g) ei (c8 k t b i)=a9 {St.start g r c with aj:=nW (di g) g t (b-1) i (f7 (k=5))}:=by unfold St.iD;rw[w,if_neg lw,if_neg lw,if_neg lw,if_neg lw,if_pos s,if_pos a];simp only[c8,St.start,zG7];rw[show ((b:Int)-1).toNat=b-1 by omega]
  rw[St.all,q]at f;simp only[St.all,Sum.inl.injEq]at f;rw[e,<-f];refine⟨?_,MT p⟩;rw[Option.toList_some,jf,q];rfl
def PQ{W:Nat}{x x' z:St}{o:Op}(a:o.kind=5\/o.kind=6)(b:x'.aj=x.aj)(h:x.iD W ei o=a9 z):x'.iD W ei o=a9 {x' with aj:=z.aj}:=by
 unfold St.iD at h ⊢;rw[if_neg lw,if_neg lw,if_neg lw,if_neg lw,if_pos a]at h ⊢;rw[b];split at h
 .rename_i c;rw[if_pos c];cases h;rfl
 .cases h
def Me{g h:List (List Ce)}{r c:Int}(j:g.length=h.length)(l:eK g r c=0)(sr sc row a:Int)(sh:Bool) :
  jf (di g) (gT g h).toList ⟨g,sr,sc,Dj,row,a,sh⟩=a9 ⟨nA g h r c,sr,sc,Dj,row,a,sh⟩:=by
 have e:=(Cw j l).1
 cases d:gT g h with
 |none =>
  have m:nA g h r c=g:=by unfold nA; rw[d]
  rw[m]; rfl
 |some o =>
  obtain⟨t,b,i,k,rfl,n,-⟩:=oY d j;rw[d,Option.toList_some,jf]at e
  cases f:(St.start g r c).iD (di g) ei (c8 k t b i) with
  |none=>rw[f]at e; cases e
  |some z =>rw[f,zA3,jf,i8]at e;rw[Option.toList_some,jf,PQ (x:=St.start g r c) (x':=⟨g,sr,sc,Dj,row,a,sh⟩) n rfl f,zA3,jf,e]
def PK{g h:List (List Ce)}{r c r2 c2:Int}(k:eK g r c=0)(s:eK h r2 c2=0)(m:g.length=h.length)(u:di g=di h)(x:St)(hx:x.aj=g)(o:x.b7=Dj) :
  ∃ y:St,St.all (di g) ei (tg g h r c r2 c2) 0 x=.inl y/\y.aj=h/\y.atR=r2/\y.Kd (di g)=c2:=by
 obtain⟨G,sr,sc,b7,row,e,sh⟩:=x;simp only at hx o;rw[hx,o];have w:=Me m k sr sc row e sh;have f:=(Cw m k).2;have p:=JR s;have z:=(Bn (h:=h) m k).1;obtain⟨n,a,b,q⟩:=yS (W:=di g) (sr:=sr) (sc:=sc) (sh:=sh) (nA g h r c) h [] Dj row e lw f (fun l A=>u▸p.1 l A);simp only[zB6,zB4]at q;have d:∀ y,jf (di g) (FJ r2 c2) ⟨h,sr,sc,n,a,b,sh⟩=a9 y->St.all (di g) ei (tg g h r c r2 c2) 0 ⟨g,sr,sc,Dj,row,e,sh⟩=.inl y:=fun y B=>by refine Fq _ _ 0 _ y ?_;rw[tg,zC8,mc _ _ _ _ _ w,mc _ _ _ _ _ q,B]
 rcases p.2 with⟨C,D,E,I⟩|⟨rfl,rfl⟩
 .obtain⟨i,rfl⟩:∃ i:Nat,r2=i:=⟨r2.toNat,by omega⟩
  obtain⟨j,rfl⟩:∃ j:Nat,c2=j:=⟨c2.toNat,by omega⟩
  refine⟨_,d ⟨h,sr,sc,n,(i:Int),(j:Int),bv⟩ ?_,rfl,?_,?_⟩
  .rw[FJ,if_neg lw,jf,JM (by show i<h.length; omega) lw];rfl
  .simp[St.atR]
  .simp only[St.Kd,if_true];omega
 .refine⟨_,d ⟨h,sr,sc,n,a,b,ci⟩ rfl,rfl,rfl,rfl⟩
end Go.Proofs.YtpohjcacnkhnkaaGreatDoor
namespace Go.Proofs.YtpohjcacnkhnkaaGreatDoor.Tq
open Go.Ax
def cellW(c:Int):Nat:=if c<32\/c=127 then 0 else c7 c
def pP:cellW (-1)=0:=by simp[cellW]
def pX:cellW 32=1:=by kernel_rfl
structure Lk.Ok (l:Lk):Prop where
 f0:0<=l.fore
 f1:l.fore<=256
 b0:0<=l.back
 b1:l.back<=256
def Lk.CV:Lk.no.Ok:=⟨by decide,by decide,by decide,by decide⟩
def Whole(l:List Ce):Prop:=∀ i c,l[i]?=a9 c->c.look.Ok/\(cellW c.rune=1\/(cellW c.rune=2/\l[i+1]?=a9 ⟨-1,c.look⟩)\/(c.rune=-1/\∃ j q,i=j+1/\l[j]?=a9 q/\cellW q.rune=2/\q.look=c.look))
def BO(w:Nat):Whole (List.replicate w sp):=fun i c h=>by have:=zC5 h;rw[zH6 this];exact⟨Lk.CV,.inl pX⟩
def NT(l:List Ce)(a b k:Nat)(c:a<=b)(f:b<=l.length):(kQ l a b)[k]?=if a<=k/\k<b then a9 sp else l[k]?:=by
 unfold kQ;have h:(l.take a).length=a:=by simp; omega
 by_cases d:k<a
 .rw[if_neg lw,zC8,List.getElem?_append_left lw,List.getElem?_take,if_pos d]
 .by_cases e:k<b
  .rw[if_pos ⟨by omega,e⟩,zC8,zG5 lw,List.getElem?_append_left pp,List.getElem?_replicate,if_pos lw]
  .rw[if_neg lw,zG5 pp,List.getElem?_drop];congr 1;simp;omega
def j4(l:List Ce)(a b k:Nat)(f:a<b)(n:b<=l.length):(ic l a b)[k]?=if a<=k/\k<b then a9 sp else if (k+1=a/\(l.getD a sp).rune=-1)\/(k=b/\(l.getD b sp).rune=-1) then a9 sp else l[k]?:=by
 rw[rl l a b lw,NT _ a b k lw (by rw[ou,jZ]; exact n)];by_cases h:a<=k/\k<b
 .rw[if_pos h,if_pos h]
 rw[if_neg h,if_neg h]
 have e:(jS l a b).getD b sp=l.getD b sp:=by
  unfold jS;split
  .simp only[zC9,List.getElem?_set];rw[if_neg lw]
  .rfl
 have m:(jS l a b)[k]?=if k+1=a/\(l.getD a sp).rune=-1 then a9 sp else l[k]?:=by
  unfold jS;by_cases q:(l.getD a sp).rune=-1
  .rw[if_pos ⟨f,q⟩,List.getElem?_set];by_cases e:k+1=a
   .rw[if_pos lw,if_pos lw,if_pos ⟨e,q⟩]
   .rw[if_neg (show ¬(k+1=a/\(l.getD a sp).rune=-1) from fun h=>e h.1)];by_cases d:a-1=k
    .exact absurd (show a=0/\k=0 by omega) (fun p=>h ⟨by omega,by omega⟩)
    .rw[if_neg d]
  .rw[if_neg (fun h=>q h.2),if_neg (fun h=>q h.2)]
 unfold kK;rw[e,jZ];by_cases q:b<l.length/\(l.getD b sp).rune=-1
 .rw[if_pos ⟨f,q⟩,List.getElem?_set];by_cases d:b=k
  .rw[if_pos d,if_pos (by rw[jZ]; omega),if_pos (.inr ⟨d.symm,q.2⟩)]
  .rw[if_neg d,m];by_cases c:k+1=a/\(l.getD a sp).rune=-1
   .rw[if_pos c,if_pos (.inl c)]
   .rw[if_neg c,if_neg (fun h=>h.elim c fun h=>d h.1.symm)]
 .rw[if_neg (fun h=>q h.2),m];by_cases c:k+1=a/\(l.getD a sp).rune=-1
  .rw[if_pos c,if_pos (.inl c)]
  .rw[if_neg c];by_cases i:k=b/\(l.getD b sp).rune=-1
   .exfalso;refine q ⟨?_,i.2⟩;have j:=i.2;rw[zC9]at j;by_cases o:b<l.length
    .exact o
    .rw[zD3 lw]at j;simp[sp]at j
   .rw[if_neg (fun h=>h.elim c i)]
def getD_some{l:List Ce}{i:Nat}{c:Ce}(h:l[i]?=a9 c):l.getD i sp=c:=by simp[zC9,h]
def NC{l:List Ce}{i:Nat}(h:(l.getD i sp).rune=-1):∃ c,l[i]?=a9 c/\c.rune=-1:=by
 rw[zC9]at h
 cases e:l[i]? with
 |none=>rw[e]at h; simp[sp]at h
 |some c=>rw[e]at h; exact⟨c,rfl,h⟩
def Whole.half{l:List Ce}(w:Whole l){i:Nat}{c:Ce}(h:l[i]?=a9 c)(b:c.rune=-1):∃ j q,i=j+1/\l[j]?=a9 q/\cellW q.rune=2/\q.look=c.look:=by
 rcases (w i c h).2 with a|⟨a,_⟩|⟨_,a⟩
 .rw[b,pP]at a; cases a
 .rw[b,pP]at a; cases a
 .exact a
def Whole.blank{l:List Ce}(w:Whole l){a b:Nat}(m:a<b)(r:b<=l.length):Whole (ic l a b):=by
 intro i c k;rw[j4 l a b i m r]at k;by_cases A:a<=i/\i<b
 .rw[if_pos A]at k;cases k;exact⟨Lk.CV,.inl pX⟩
 rw[if_neg A]at k;by_cases p:(i+1=a/\(l.getD a sp).rune=-1)\/(i=b/\(l.getD b sp).rune=-1)
 .rw[if_pos p]at k;cases k;exact⟨Lk.CV,.inl pX⟩
 rw[if_neg p]at k;obtain⟨ok,h⟩:=w i c k;refine⟨ok,?_⟩
 rcases h with h|⟨h,s⟩|⟨h,j,q,rfl,o,f,u⟩
 .exact .inl h
 .refine .inr (.inl ⟨h,?_⟩);rw[j4 l a b _ m r,if_neg,if_neg]
  .exact s
  .rintro (⟨e,n⟩|⟨e,n⟩)
   .obtain⟨d,B,z⟩:=NC n;obtain⟨j,q,D,o,f,_⟩:=w.half B z;obtain rfl:j=i+1:=by omega
    rw[s]at o;cases o;rw[pP]at f;cases f
   .omega
  .intro C;have e:i+1=a:=by omega
   exact p (.inl ⟨e,by rw[<-e,getD_some s]⟩)
 .refine .inr (.inr ⟨h,j,q,rfl,?_,f,u⟩);rw[j4 l a b _ m r,if_neg,if_neg]
  .exact o
  .rintro (⟨e,n⟩|⟨e,n⟩)
   .omega
   .rw[<-e,getD_some o]at n;rw[n,pP]at f;cases f
  .intro C;have e:j+1=b:=by omega
   exact p (.inr ⟨e,by rw[<-e,getD_some k]; exact h⟩)
def Whole.To{l:List Ce}(w:Whole l){k:Nat}{c:Ce}(f:l[k]?=a9 sp)(r:cellW c.rune=1)(ok:c.look.Ok):Whole (l.set k c):=by
 have m:=(zF5.1 f).1;intro i d b;rw[List.getElem?_set]at b;by_cases e:k=i
 .rw[if_pos e,if_pos m]at b;cases b;exact⟨ok,.inl r⟩
 rw[if_neg e]at b;obtain⟨ok,h⟩:=w i d b;refine⟨ok,?_⟩
 rcases h with h|⟨h,n⟩|⟨h,j,q,rfl,o,a,p⟩
 .exact .inl h
 .refine .inr (.inl ⟨h,?_⟩);rw[List.getElem?_set,if_neg]
  .exact n
  .rintro rfl;rw[f]at n;simp[sp]at n
 .refine .inr (.inr ⟨h,j,q,rfl,?_,a,p⟩);rw[List.getElem?_set,if_neg]
  .exact o
  .rintro rfl;rw[f]at o;cases o;rw[show sp.rune=32 from rfl,pX]at a;cases a
def Whole.WC{l:List Ce}(w:Whole l){k:Nat}{c:Int}{lk:Lk}(C:l[k]?=a9 sp)(o:l[k+1]?=a9 sp)(D:cellW c=2)(ok:lk.Ok):Whole ((l.set k ⟨c,lk⟩).set (k+1) ⟨-1,lk⟩):=by
 have z:=(zF5.1 C).1;have p:=(zF5.1 o).1
 have r:∀ i,((l.set k ⟨c,lk⟩).set (k+1) ⟨-1,lk⟩)[i]?=if k+1=i then a9 ⟨-1,lk⟩ else if k=i then a9 ⟨c,lk⟩ else l[i]?:=fun i=>by
  rw[List.getElem?_set];by_cases e:k+1=i
  .rw[if_pos e,if_pos e,if_pos (by simpa using p)]
  .rw[if_neg e,if_neg e,List.getElem?_set];by_cases n:k=i
   .rw[if_pos n,if_pos n,if_pos z]
   .rw[if_neg n,if_neg n]
 intro i d f;rw[r]at f;by_cases A:k+1=i
 .rw[if_pos A]at f;cases f;refine⟨ok,.inr (.inr ⟨rfl,k,⟨c,lk⟩,A.symm,?_,D,rfl⟩)⟩;rw[r,if_neg lw,if_pos rfl]
 rw[if_neg A]at f;by_cases n:k=i
 .rw[if_pos n]at f;cases f;refine⟨ok,.inr (.inl ⟨D,?_⟩)⟩;rw[r,if_pos lw]
 rw[if_neg n]at f;obtain⟨ok,h⟩:=w i d f;refine⟨ok,?_⟩
 have cn:∀ {j:Nat} {q:Ce},l[j]?=a9 q->(q.rune=-1\/cellW q.rune=2)->k≠j/\k+1≠j:=fun {j q} u hr=>by
  have:∀ {m:Nat},l[m]?=a9 sp->m≠j:=fun {m} E e=>by
   rw[e,u]at E;cases E;rcases hr with hr|hr
   .exact absurd hr ol
   .rw[show sp.rune=32 from rfl,pX]at hr;cases hr
  exact⟨this C,this o⟩
 rcases h with h|⟨h,I⟩|⟨h,j,q,rfl,u,s,B⟩
 .exact .inl h
 .obtain⟨a,b⟩:=cn I (.inl rfl);exact .inr (.inl ⟨h,by rw[r,if_neg b,if_neg a]; exact I⟩)
 .obtain⟨a,b⟩:=cn u (.inr s);exact .inr (.inr ⟨h,j,q,rfl,by rw[r,if_neg b,if_neg a]; exact u,s,B⟩)
structure Tm.gP (x:Tm):Prop where
 rows:∀ l∈x.aj,Whole l
 b7:x.b7.Ok
 spen:x.spen.Ok
def Lb(h w:Nat):(Tm.new h w).gP:=⟨fun l a=>by
 simp only[Tm.new]at a;rw[zH6 a]
 exact BO w,Lk.CV,Lk.CV⟩
def Tm.gP.setRow{x:Tm}(v:x.gP){k:Nat}{l:List Ce}(h:Whole l):(x.setRow k l).gP :=
 ⟨fun r a=>(List.mem_or_eq_of_mem_set a).elim (v.rows r) (fun e=>e▸h),v.b7,v.spen⟩
def Tm.gP.rowAt{x:Tm}(v:x.gP){k:Nat}{l:List Ce}(h:x.aj[k]?=a9 l):Whole l:=v.rows l (zC5 h)
def Tm.gP.blank{x:Tm}(v:x.gP)(s:x.Sz){k a b:Nat}(c:k<x.h)(d:a<b)(i:b<=x.w):(x.blank k a b).gP:=by obtain⟨l,f,e,j,_⟩:=s.rowAt c;rw[qt,e];exact v.setRow ((v.rowAt f).blank d lw)
def Tm.gP.move{x:Tm}(v:x.gP)(r c:Int):Tm.gP {x with row:=r,col:=c}:=⟨v.rows,v.b7,v.spen⟩
def Tm.gP.bQ{x:Tm}(v:x.gP)(r c:Int):(x.bQ r c).gP:=v.move _ _
def Tm.gP.written{x:Tm}(v:x.gP)(s:x.Sz){r c n:Nat}{k:Int}(f:r<x.h)(z:c+n<=x.w)(p:cellW k=n)(A:n=1\/n=2):(x.written r c n k).gP:=by
 obtain⟨l,B,e,C,_⟩:=s.rowAt f;have m:r<x.aj.length:=f;have q:=(v.rowAt B).blank (a:=c) (b:=c+n) lw lw;have u:(x.blank r c (c+n:Nat))=x.setRow r (ic l c (c+n)):=by rw[qt,e]; rfl
 have d:∀ L:List Ce,(x.aj.set r L).getD r []=L:=fun L=>by simp[zC9,m]
 rcases A with rfl|rfl
 .have i:=j4 l c (c+1) c lw lw;rw[if_pos ⟨zA4 _,by omega⟩]at i;have o:=q.To (c:=⟨k,x.b7⟩) i p v.b7;unfold Tm.written;rw[u];simp only[Tm.put,Tm.setRow,d,List.set_set];exact⟨fun r f=>(List.mem_or_eq_of_mem_set f).elim (v.rows r) (fun e=>e▸o),v.b7,v.spen⟩
 .have i:=j4 l c (c+2) c lw lw;rw[if_pos ⟨zA4 _,by omega⟩]at i;have j:=j4 l c (c+2) (c+1) lw lw;rw[if_pos ⟨by omega,by omega⟩]at j;have o:=q.WC (lk:=x.b7) i j p v.b7;unfold Tm.written;rw[u];simp only[Tm.put,Tm.setRow,d,List.set_set,if_true];exact⟨fun r f=>(List.mem_or_eq_of_mem_set f).elim (v.rows r) (fun e=>e▸o),v.b7,v.spen⟩
def MS{w:Nat}{g:List (List Ce)}{top bot n:Nat}{up:Bool}{l:List Ce}(h:l∈jw w g top bot n up):l∈g\/l=List.replicate w sp:=by
 simp only[jw,zB1]at h;rcases h with (h|h)|h
 .exact .inl (zE2 h)
 .cases up
  .simp only[zD2,if_false,zB1]at h;rcases h with h|h
   .exact .inr (zH6 h)
   .exact .inl (zE4 (zE2 (zE2 h)))
  .simp only[if_true,zB1]at h;rcases h with h|h
   .exact .inl (zE4 (zE2 (zE4 h)))
   .exact .inr (zH6 h)
 .exact .inl (zE4 h)
def Tm.gP.fA{x:Tm}(v:x.gP)(top bot n:Int)(up:Bool):(x.fA top bot n up).gP :=
 ⟨fun l a=>(MS a).elim (v.rows l) (fun e=>e▸BO _),v.b7,v.spen⟩
def Tm.gP.control{x:Tm}(v:x.gP)(c:Int):(x.control c).gP:=by
 unfold Tm.control;split
 .exact v.move x.row _
 .split
  .exact v.move x.row _
  .split
   .split
    .exact v.fA _ _ _ _
    .exact v.move _ x.col
   .split
    .exact v.move x.row _
    .exact v
def PH(c:Int):c7 c<=2:=Kv.le c
def Tm.gP.write{x:Tm}(v:x.gP)(s:x.Sz){a:Int}(b:¬(a<32\/a=127)):(x.write ek a).gP:=by
 obtain⟨r,d⟩:∃ r:Nat,x.row=r:=⟨x.row.toNat,by have:=s.r1; omega⟩
 obtain⟨c,e⟩:∃ c:Nat,x.col=c:=⟨x.col.toNat,by have:=s.c1; omega⟩
 rw[uR ek x a r c d e];split
 .exact v
 .rename_i h;have:=PH a;have f:ek.wd a=c7 a:=rfl;exact v.written s (by have:=s.r2; omega) lw (by unfold cellW; rw[if_neg b]; exact f.symm) lw
def Tm.gP.character{x:Tm}(v:x.gP)(s:x.Sz)(a:Int):(x.character ek a).gP:=by
 unfold Tm.character;split
 .exact v.control a
 .rename_i h;exact v.write s h
def Tm.gP.cg{x:Tm}(v:x.gP)(s:x.Sz)(l:List Int):(x.cg l).gP:=by
 obtain⟨r,c⟩:∃ r:Nat,x.row=r:=⟨x.row.toNat,by have:=s.r1; omega⟩
 have hi:=jv s;have w1:=s.w1
 obtain⟨i,b⟩:∃ i:Nat,x.inside=i:=⟨x.inside.toNat,by omega⟩
 have a:r<x.h:=by have:=s.r2; omega
 unfold Tm.cg;rw[nJ];split
 .rw[c,b];exact v.blank s a lw lw
 .split
  .rw[c,b,show ((i:Nat):Int)+1=((i+1:Nat):Int) from by omega,show (0:Int)=((0:Nat):Int) from rfl];exact v.blank s a lw lw
  .split
   .rw[c,show (0:Int)=((0:Nat):Int) from rfl];exact v.blank s a lw lw
   .exact v
def Tm.gP.cR{x:Tm}(v:x.gP)(s:x.Sz)(l:List Int){i:Nat}(hi:i<x.h):(x.cR l i).gP:=by
 unfold Tm.cR;split
 .exact v.blank s hi s.w1 (zA4 _)
 .exact v
def Tm.gP.c9(l:List Int):∀(k i:Nat){x:Tm},x.gP->x.Sz->i+k<=x.h->(Tm.c9 l i k x).gP
 |0,_,_,v,_,_=>v
 |k+1,i,x,v,s,h=>by rw[ij];obtain⟨a,b,_,_⟩:=s.cR l (i:=i) lw;exact Tm.gP.c9 l k (i+1) (v.cR s l lw) a lw
def Tm.gP.ig{x:Tm}(v:x.gP)(s:x.Sz)(l:List Int):(x.ig l).gP:=by obtain⟨a,b,_,_⟩:=s.cg l;exact Tm.gP.c9 l _ _ (v.cg s l) a (by rw[b]; simp[Tm.h])
def Tm.gP.lines{x:Tm}(v:x.gP)(n:Int)(up:Bool):(x.lines n up).gP:=by
 unfold Tm.lines;split
 .exact v.fA _ _ _ _
 .exact v
def Tm.gP.region{x:Tm}(v:x.gP)(l:List Int):(x.region l).gP:=by
 rw[nR];split
 .exact Tm.gP.bQ (x:={x with top:=count l-1,bottom:=Gp x l}) ⟨v.rows,v.b7,v.spen⟩ 0 0
 .exact v
def Lk.Ok.attribute{l:Lk}(o:l.Ok)(n:Int):(l.attribute n).Ok:=by
 unfold Lk.attribute;split
 .exact Lk.CV
 split
 .exact⟨o.f0,o.f1,o.b0,o.b1⟩
 split
 .exact⟨o.f0,o.f1,o.b0,o.b1⟩
 split
 .exact⟨o.f0,o.f1,o.b0,o.b1⟩
 split
 .exact⟨by simp,by simp,o.b0,o.b1⟩
 split
 .exact⟨o.f0,o.f1,by simp,by simp⟩
 .exact o
def iX:∀(k:Nat)(p:List Int)(l:Lk),p.length<=k->(∀ n∈p,0<=n)->l.Ok->(Lk.attributes p l).Ok
 |_,[],l,_,_,o=>by rw[Lk.attributes]; exact o
 |0,_::_,_,h,_,_=>by simp at h
 |k+1,n::p,l,h,f,o=>by
  simp only[zA9]at h;have c:∀ m∈p,0<=m:=fun m d=>f m (by simp[d]);rw[Lk.attributes.eq_def];dsimp only;split
  .match p,h,c with
   |[],_,_=>exact o
   |[_],_,_=>exact o
   |a::b::r,h,c =>
    try simp only
    split
    .exact o
    .rename_i j;have i:=c b nl;have e:=iX k r;split
     .exact e _ (by simp only[zA9]at h; omega) (fun m d=>c m (by simp[d])) ⟨by simp only; omega,by simp only; omega,o.b0,o.b1⟩
     .exact e _ (by simp only[zA9]at h; omega) (fun m d=>c m (by simp[d])) ⟨o.f0,o.f1,by simp only; omega,by simp only; omega⟩
  .split
   .exact iX k p _ lw c ⟨by simp only; omega,by simp only; omega,o.b0,o.b1⟩
   .split
    .exact iX k p _ lw c ⟨o.f0,o.f1,by simp only; omega,by simp only; omega⟩
    .exact iX k p _ lw c (o.attribute n)
def tc:∀(l:List UInt8)(d:List Int)(n:Int)(p:List Int),(∀ m∈d,0<=m)->0<=n->numbers l d n=a9 p->∀ m∈p,0<=m
 |[],d,n,p,a,b,h=>by
  simp only[numbers,i8]at h;subst h;intro m hm;rcases zB1.1 hm with hm|hm
  .exact a m hm
  .rw[zA5.1 hm]; exact b
 |c::r,d,n,p,a,b,h=>by
  rw[numbers]at h;split at h
  .refine tc r _ 0 p (fun m hm=>?_) (Int.le_refl _) h;rcases zB1.1 hm with hm|hm
   .exact a m hm
   .rw[zA5.1 hm]; exact b
  .split at h
   .rename_i f;have:(48:Int)<=(c.toNat:Int):=by have:=UInt8.le_iff_toNat_le.1 f.1;have e:(48:UInt8).toNat=48:=rfl;omega
    exact tc r d _ p a lw h
   .cases h
def Tm.gP.cQ{x:Tm}(v:x.gP)(s:x.Sz)(f:UInt8)(l:List Int)(r:∀ m∈l,0<=m):(x.cQ f l).gP:=by
 unfold Tm.cQ;by_cases d:f=65
 .rw[if_pos d]; exact v.bQ _ _
 rw[if_neg d];by_cases e:f=66
 .rw[if_pos e]; exact v.bQ _ _
 rw[if_neg e];by_cases h:f=67
 .rw[if_pos h]; exact v.bQ _ _
 rw[if_neg h];by_cases i:f=68
 .rw[if_pos i]; exact v.bQ _ _
 rw[if_neg i];by_cases j:f=71
 .rw[if_pos j]; exact v.bQ _ _
 rw[if_neg j];by_cases k:f=100
 .rw[if_pos k]; exact v.bQ _ _
 rw[if_neg k];by_cases n:f=72\/f=102
 .rw[if_pos n]; exact v.bQ _ _
 rw[if_neg n];by_cases o:f=74
 .rw[if_pos o]; exact v.ig s l
 rw[if_neg o];by_cases p:f=75
 .rw[if_pos p]; exact v.cg s l
 rw[if_neg p];by_cases q:f=76
 .rw[if_pos q]; exact v.lines _ _
 rw[if_neg q];by_cases a:f=77
 .rw[if_pos a]; exact v.lines _ _
 rw[if_neg a];by_cases b:f=109
 .rw[if_pos b]; exact⟨v.rows,iX _ l _ (zA4 _) r v.b7,v.spen⟩
 rw[if_neg b];by_cases c:f=114
 .rw[if_pos c]; exact v.region l
 rw[if_neg c];exact v
def Tm.gP.dP{x:Tm}(v:x.gP)(s:x.Sz)(f:UInt8):(x.dP f).gP:=by
 unfold Tm.dP;split
 .exact⟨v.rows,v.b7,v.spen⟩
 .split
  .rename_i p a;exact v.cQ s f _ (tc _ _ _ _ nl (Int.le_refl _) a)
  .exact v
def Tm.gP.parameter{x:Tm}(v:x.gP)(s:x.Sz)(c:UInt8):(x.parameter c).1.gP:=by
 unfold Tm.parameter;by_cases a:c=27
 .rw[if_pos a]; exact v
 rw[if_neg a];by_cases b:64<=c/\c<=126
 .rw[if_pos b];simp only;split
  .exact v.dP s c
  .exact v
 rw[if_neg b];by_cases d:c<32\/c>126\/(c ≥ 48/\x.middle=bv)
 .rw[if_pos d]; exact v
 rw[if_neg d];simp only;split
 .exact⟨v.rows,v.b7,v.spen⟩
 .exact⟨v.rows,v.b7,v.spen⟩
def Tm.gP.second{x:Tm}(v:x.gP)(c:UInt8):(x.second c).1.gP:=by
 unfold Tm.second;by_cases a:c=91
 .rw[if_pos a]; exact⟨v.rows,v.b7,v.spen⟩
 rw[if_neg a];by_cases b:c=93
 .rw[if_pos b]; exact⟨v.rows,v.b7,v.spen⟩
 rw[if_neg b];by_cases d:c=27
 .rw[if_pos d]; exact v
 rw[if_neg d];by_cases e:32<=c/\c<48
 .rw[if_pos e]; exact v
 rw[if_neg e];by_cases f:c=55
 .rw[if_pos f]; exact⟨v.rows,v.b7,v.b7⟩
 rw[if_neg f];by_cases h:c=56
 .rw[if_pos h]; exact⟨v.rows,v.spen,v.spen⟩
 rw[if_neg h];by_cases i:c=99
 .rw[if_pos i]; exact Lb _ _
 rw[if_neg i];by_cases j:c=77/\x.row=x.top
 .rw[if_pos j]; exact v.fA _ _ _ _
 rw[if_neg j];by_cases k:c=77
 .rw[if_pos k]; exact⟨v.rows,v.b7,v.spen⟩
 rw[if_neg k]; exact v
def C9:∀(k:Nat)(x:Tm),x.gP->x.Sz->(Tm.drain ek k x).1.gP
 |0,x,v,_=>v
 |k+1,x,v,s=>by
  rw[Tm.drain];by_cases h:x.rest≠[]/\ek.full x.rest=bv
  .rw[if_pos h];by_cases b:x.rest.headD 0=27
   .rw[if_pos b];exact⟨v.rows,v.b7,v.spen⟩
   .rw[if_neg b]
    obtain⟨r,n,e⟩:∃ r n,ek.dec x.rest=(r,n):=⟨_,_,rfl⟩
    simp only[e];obtain⟨y,c⟩:=ac ((if r≠65533\/n>1 then x.character ek r else x));rw[c]
    have a:y.Sz/\y.gP:=by
     rw[<-c];split
     .exact⟨s.character r,v.character s r⟩
     .exact⟨s,v⟩
    have d:(y.aN (y.rest.drop n)).gP:=⟨a.2.rows,a.2.b7,a.2.spen⟩
    exact C9 k (y.aN (y.rest.drop n)) d (a.1.aN _)
  .rw[if_neg h];exact v
def O4{x:Tm}(v:x.gP)(s:x.Sz)(c:UInt8):(x.byte c).1.gP:=by
 unfold Tm.byte;split
 .have a:(x.aN (x.rest++[c])).gP:=⟨v.rows,v.b7,v.spen⟩
  exact C9 (x.rest.length+2) (x.aN (x.rest++[c])) a (s.aN _)
 .exact v.second c
 .exact v
 .exact v.parameter s c
 .unfold Tm.ignore;split
  .exact v
  .exact⟨v.rows,v.b7,v.spen⟩
def GK{x:Tm}(v:x.gP)(s:x.Sz)(i:x.params.length<=65):∀(f:List UInt8),(x.feed ek f).gP
 |[]=>v
 |c::f=>by have h:=O4 v s c;obtain⟨a,b,d,e⟩:=tE s i c;have:=GK (x:=(x.byte c).1.gp (x.byte c).2) ⟨h.rows,h.b7,h.spen⟩ (a.gp b) d f;rw[<-step_eq]at this;exact this
def NK{h w:Nat}(b:1<=h)(c:h<=200)(w1:1<=w)(d:w<=300)(a:List UInt8):∀ l∈((Tm.new h w).feed ek a).aj,Whole l :=
 (GK (Lb h w) (Dv b c w1 d) (by simp[Tm.new]) a).rows
def Dm(x y:Tm):Prop:=y.h=x.h/\y.w=x.w
def Dm.rfl{x:Tm}:Dm x x:=⟨Eq.refl _,Eq.refl _⟩
def Dm.trans{x y z:Tm}(a:Dm x y)(b:Dm y z):Dm x z:=⟨b.1.trans a.1,b.2.trans a.2⟩
def Dm.of{x y:Tm}(h:y.aj=x.aj):Dm x y:=by simp only[Dm,Tm.h,Tm.w,h,and_self]
def Dm.set{x y z:Tm}(a:Dm x y)(h:z.aj=y.aj):Dm x z:=a.trans (Dm.of h)
def Dw{x:Tm}(s:x.Sz){top bot n:Nat}(up:Bool)(a:top<=bot)(b:bot<x.h):Dm x (x.fA top bot n up):=by obtain⟨c,d,_⟩:=LG (n:=n) s up a b;exact⟨c,d⟩
def IQ{x:Tm}(s:x.Sz)(c:Int):Dm x (x.control c):=by
 unfold Tm.control;split
 .exact Dm.of rfl
 .split
  .exact Dm.of rfl
  .split
   .split
    .obtain⟨t,a⟩:∃ r:Nat,x.top=r:=⟨x.top.toNat,by have:=s.t1; omega⟩
     obtain⟨b,d⟩:∃ b:Nat,x.bottom=b:=⟨x.bottom.toNat,by have:=s.t1; have:=s.t2; omega⟩
     rw[a,d];exact Dw s (n:=1) bv (by have:=s.t2; omega) (by have:=s.t3; omega)
    .exact Dm.of rfl
   .split
    .exact Dm.of rfl
    .exact Dm.rfl
def Jv{x:Tm}(s:x.Sz){r c n:Nat}{b:Int}(d:r<x.h)(e:c+n<=x.w)(j:b≠-1):Dm x (x.written r c n b):=by
 have l:=s.blank d (show c<=c+n by omega) e;have f:=iE s d (show c<=c+n by omega) e;have s2:=l.put (i:=c) (c:=⟨b,x.b7⟩) (by rw[f.1]; exact d) (.inl j);have k:=Bm l (i:=c) (c:=⟨b,x.b7⟩) (by rw[f.1]; exact d);have a:Dm x ((x.blank r c (c+n:Nat)).put r c ⟨b,x.b7⟩):=Dm.trans ⟨f.1,f.2⟩ ⟨k.1,k.2⟩;unfold Tm.written;simp only;split
 .have m:=Bm s2 (i:=c+1) (c:=⟨-1,x.b7⟩) (by rw[k.1,f.1]; exact d);exact (a.trans ⟨m.1,m.2⟩).set rfl
 .exact a.set rfl
def DK{u:AW}{x:Tm}(s:x.Sz)(a:Int):Dm x (x.character u a):=by
 unfold Tm.character;split
 .exact IQ s a
 .rename_i e
  obtain⟨r,d⟩:∃ r:Nat,x.row=r:=⟨x.row.toNat,by have:=s.r1; omega⟩
  obtain⟨c,b⟩:∃ c:Nat,x.col=c:=⟨x.col.toNat,by have:=s.c1; omega⟩
  rw[uR u x a r c d b];split
  .exact Dm.rfl
  .rename_i h;exact Jv s (by have:=s.r2; omega) lw lw
def uQ(l:List Int):∀(k i:Nat){x:Tm},x.Sz->i+k<=x.h->Dm x (Tm.c9 l i k x)
 |0,_,_,_,_=>Dm.rfl
 |k+1,i,x,s,h=>by rw[ij];obtain⟨a,b,c,_⟩:=s.cR l (i:=i) lw;exact Dm.trans ⟨b,c⟩ (uQ l k (i+1) a lw)
def GS{x:Tm}(s:x.Sz)(l:List Int):Dm x (x.ig l):=by obtain⟨a,b,c,_⟩:=s.cg l;exact Dm.trans ⟨b,c⟩ (uQ l _ _ a (by rw[b]; simp[Tm.h]))
def GQ{x:Tm}(s:x.Sz)(n:Nat)(up:Bool):Dm x (x.lines n up):=by
 unfold Tm.lines;split
 .rename_i h
  obtain⟨r,a⟩:∃ r:Nat,x.row=r:=⟨x.row.toNat,by have:=s.r1; omega⟩
  obtain⟨b,c⟩:∃ b:Nat,x.bottom=b:=⟨x.bottom.toNat,by have:=s.t1; have:=s.t2; omega⟩
  rw[a,c];have:=s.t3;exact Dw s up lw lw
 .exact Dm.rfl
def Jy{x:Tm}(s:x.Sz)(f:UInt8)(l:List Int)(u:1<=count l):Dm x (x.cQ f l):=by
 obtain⟨n,d⟩:∃ n:Nat,count l=n:=⟨(count l).toNat,by omega⟩
 unfold Tm.cQ;by_cases e:f=65
 .rw[if_pos e]; exact Dm.of rfl
 rw[if_neg e];by_cases h:f=66
 .rw[if_pos h]; exact Dm.of rfl
 rw[if_neg h];by_cases i:f=67
 .rw[if_pos i]; exact Dm.of rfl
 rw[if_neg i];by_cases j:f=68
 .rw[if_pos j]; exact Dm.of rfl
 rw[if_neg j];by_cases k:f=71
 .rw[if_pos k]; exact Dm.of rfl
 rw[if_neg k];by_cases m:f=100
 .rw[if_pos m]; exact Dm.of rfl
 rw[if_neg m];by_cases o:f=72\/f=102
 .rw[if_pos o]; exact Dm.of rfl
 rw[if_neg o];by_cases p:f=74
 .rw[if_pos p]; exact GS s l
 rw[if_neg p];by_cases q:f=75
 .rw[if_pos q]; exact⟨(s.cg l).2.1,(s.cg l).2.2.1⟩
 rw[if_neg q];by_cases r:f=76
 .rw[if_pos r]; rw[d]; exact GQ s _ _
 rw[if_neg r];by_cases a:f=77
 .rw[if_pos a]; rw[d]; exact GQ s _ _
 rw[if_neg a];by_cases b:f=109
 .rw[if_pos b]; exact Dm.of rfl
 rw[if_neg b];by_cases c:f=114
 .rw[if_pos c,nR];split
  .exact Dm.of rfl
  .exact Dm.rfl
 rw[if_neg c];exact Dm.rfl
def IT{x:Tm}(s:x.Sz)(f:UInt8):Dm x (x.dP f):=by
 unfold Tm.dP;split
 .exact Dm.of rfl
 .split
  .exact Jy s f _ (BX _)
  .exact Dm.rfl
def E3{x:Tm}(s:x.Sz)(c:UInt8):Dm x (x.parameter c).1:=by
 unfold Tm.parameter;by_cases a:c=27
 .rw[if_pos a]; exact Dm.rfl
 rw[if_neg a];by_cases b:64<=c/\c<=126
 .rw[if_pos b];simp only;split
  .exact IT s c
  .exact Dm.rfl
 rw[if_neg b];by_cases d:c<32\/c>126\/(c ≥ 48/\x.middle=bv)
 .rw[if_pos d]; exact Dm.rfl
 rw[if_neg d];simp only;split
 .exact Dm.of rfl
 .exact Dm.of rfl
def Mm{x:Tm}(s:x.Sz)(c:UInt8):Dm x (x.second c).1:=by
 unfold Tm.second;by_cases a:c=91
 .rw[if_pos a]; exact Dm.of rfl
 rw[if_neg a];by_cases d:c=93
 .rw[if_pos d]; exact Dm.of rfl
 rw[if_neg d];by_cases e:c=27
 .rw[if_pos e]; exact Dm.rfl
 rw[if_neg e];by_cases f:32<=c/\c<48
 .rw[if_pos f]; exact Dm.rfl
 rw[if_neg f];by_cases i:c=55
 .rw[if_pos i]; exact Dm.of rfl
 rw[if_neg i];by_cases j:c=56
 .rw[if_pos j]; exact Dm.of rfl
 rw[if_neg j];by_cases k:c=99
 .rw[if_pos k]; exact⟨G7 x.h x.w,L8 x.w s.h1⟩
 rw[if_neg k];by_cases l:c=77/\x.row=x.top
 .rw[if_pos l]
  obtain⟨t,o⟩:∃ r:Nat,x.top=r:=⟨x.top.toNat,by have:=s.t1; omega⟩
  obtain⟨b,p⟩:∃ b:Nat,x.bottom=b:=⟨x.bottom.toNat,by have:=s.t1; have:=s.t2; omega⟩
  simp only[o,p];exact Dw s (n:=1) ci (by have:=s.t2; omega) (by have:=s.t3; omega)
 rw[if_neg l];by_cases m:c=77
 .rw[if_pos m]; exact Dm.of rfl
 rw[if_neg m]; exact Dm.rfl
def HF:∀(k:Nat)(x:Tm),x.Sz->Dm x (Tm.drain ek k x).1
 |0,x,_=>Dm.rfl
 |k+1,x,s=>by
  rw[Tm.drain];by_cases h:x.rest≠[]/\ek.full x.rest=bv
  .rw[if_pos h];by_cases b:x.rest.headD 0=27
   .rw[if_pos b];exact Dm.of rfl
   .rw[if_neg b]
    obtain⟨r,n,e⟩:∃ r n,ek.dec x.rest=(r,n):=⟨_,_,rfl⟩
    simp only[e];obtain⟨y,c⟩:=ac ((if r≠65533\/n>1 then x.character ek r else x));rw[c]
    have d:y.Sz/\Dm x y:=by
     rw[<-c];split
     .exact⟨s.character r,DK s r⟩
     .exact⟨s,Dm.rfl⟩
    have a:Dm x (y.aN (y.rest.drop n)):=d.2.set rfl;exact a.trans (HF k (y.aN (y.rest.drop n)) (d.1.aN _))
  .rw[if_neg h];exact Dm.rfl
def RO{x:Tm}(s:x.Sz)(c:UInt8):Dm x (x.byte c).1:=by
 unfold Tm.byte;split
 .have a:Dm x (x.aN (x.rest++[c])):=Dm.of rfl;exact a.trans (HF (x.rest.length+2) (x.aN (x.rest++[c])) (s.aN _))
 .exact Mm s c
 .exact Dm.rfl
 .exact E3 s c
 .unfold Tm.ignore;split
  .exact Dm.rfl
  .exact Dm.of rfl
def K3{x:Tm}(s:x.Sz)(i:x.params.length<=65):∀(f:List UInt8),Dm x (x.feed ek f)
 |[]=>Dm.rfl
 |c::f=>by
  obtain⟨a,b,d,e⟩:=tE s i c;have h:=K3 (x:=(x.byte c).1.gp (x.byte c).2) (a.gp b) d f;rw[<-step_eq]at h;have j:Dm x (x.step ek c):=by rw[step_eq]; exact (RO s c).set rfl
  exact j.trans h
def KL{c:Int}(h:cellW c≠0):aP c=cellW c:=by
 unfold cellW at h ⊢;split at h
 .exact absurd rfl h
 .rename_i a;have hi:Go.Proofs.YtpohjcacnkhnkaaGreatDoor.oA c=true:=Qd h;rw[if_neg a];unfold aP
  rw[hi,if_neg (by
   simp only[zD1,zH7,zH5,decide_eq_true_eq]
   exact a)]
def LS{k:Lk}(o:k.Ok):lK (Ua k)=true:=by have:=o.f0; have:=o.f1; have:=o.b0; have:=o.b1;unfold lK Ua;simp only[zA6,decide_eq_true_eq];omega
def Av{l:List Ce}(w:Whole l):∀(n k:Nat),l.length-k<=n->(∀ c,l[k]?=a9 c->c.rune≠-1)->bH ((l.drop k).map AL)=bv
 |0,k,A,_=>by rw[zE9 lw]; rfl
 |n+1,k,A,B=>by
  rcases zC0 k l.length with b|hge
  .obtain⟨c,f⟩:∃ c,l[k]?=a9 c:=⟨_,zB0 b⟩
   have z:l.drop k=c::l.drop (k+1):=by rw[zH4 b];rw[zB0 b,i8]at f;rw[f]
   obtain⟨ok,h1|⟨C,i⟩|⟨D,_⟩⟩:=w k c f
   .rw[z,zB8,eH];have p:aP (AL c).rune=1:=(KL (c:=c.rune) lw).trans h1;have r:lK (AL c).look=true:=LS ok;rw[p,r,if_neg ol,if_neg ol];refine Av w n (k+1) lw fun d e s=>?_;obtain⟨j,q,E,m,o,-⟩:=w.half e s;have:j=k:=by omega
    subst this;rw[f,i8]at m;subst m;omega
   .have a:k+1<l.length:=by
     rcases zC0 (k+1) l.length with h|h
     .exact h
     .rw[zD3 h]at i; cases i
    have u:l.drop (k+1)=⟨-1,c.look⟩::l.drop (k+2):=by rw[zH4 a];rw[zB0 a,i8]at i;rw[i]
    rw[z,zB8,eH,u,zB8];have p:aP (AL c).rune=2:=(KL (c:=c.rune) lw).trans C;have r:lK (AL c).look=true:=LS ok;have I:AL ⟨-1,c.look⟩=(AL c).look.ce (-1):=rfl;rw[p,r,I,if_neg ol,if_pos rfl];simp only[decide_true,Bool.true_and];refine Av w n (k+2) lw fun d e s=>?_;obtain⟨j,q,E,m,o,-⟩:=w.half e s;have:j=k+1:=by omega
    subst this;rw[i,i8]at m;subst m;exact absurd (pP.symm.trans o) ol
   .exact absurd D (B c f)
  .rw[zE9 hge]; rfl
def SQ{l:List Ce}(w:Whole l):bH (l.map AL)=true:=by
 have:=Av w l.length 0 lw fun c a b=>by obtain⟨j,q,d,-⟩:=w.half a b;omega
 rwa [zD0]at this
def Fy{g:List (List Nu)}{r c:Int}{W:Nat}(k:1<=g.length)(p:g.length<=200)(w1:1<=W)(q:W<=1000)(h:∀ l∈g,bH l=bv/\l.length=W)(f:(0<=r/\r<g.length/\0<=c/\c<W)\/(r=-1/\c=0)):eK g r c=0/\di g=W:=by
 have i:di g=W:=by
  cases g with
  |nil=>simp at k
  |cons l g=>exact (h l nl).2
 refine⟨?_,i⟩;unfold eK;rw[i];have m:(f7 ((g.length:Int)<1)||f7 (200<(g.length:Int)))=false:=by rw[decide_eq_false lw,decide_eq_false lw]; rfl
 have n:(f7 ((W:Int)<1)||f7 (1000<(W:Int))||(!(f7 (0<=r)&&f7 (r<(g.length:Int))&&f7 (0<=c)&&f7 (c<(W:Int)))&&!(f7 (r=-1)&&f7 (c=0))))=false:=by
  rw[decide_eq_false (by omega:¬(W:Int)<1),decide_eq_false (by omega:¬1000<(W:Int))]
  rcases f with⟨a,b,d,e⟩|⟨a,b⟩
  .rw[decide_eq_true a,decide_eq_true b,decide_eq_true d,decide_eq_true e]; rfl
  .rw[decide_eq_true a,decide_eq_true b]; simp
 have o:lA W g=true:=by unfold lA;rw[zC3];intro l j;unfold pH;rw[(h l j).1,decide_eq_true (h l j).2]; rfl
 rw[m,n,o]; rfl
def Ue{t:Tm}(s:t.Sz)(b:∀ l∈t.aj,Whole l):eK (iW t.aj) t.dR t.dQ=0/\di (iW t.aj)=t.w:=by
 have e:=s.h1;have f:=s.h2;have w1:=s.w1;have i:=s.w2;have c:(iW t.aj).length=t.h:=by rw[iW,zE1]; rfl
 refine Fy lw lw lw lw (fun l d=>?_) ?_
 .obtain⟨m,a,rfl⟩:=zC1.1 d;exact⟨SQ (b m a),by rw[zE1]; exact s.ws m a⟩
 .have hi:=jv s;have:=s.r1;have:=s.r2;rw[c];unfold Tm.dR Tm.dQ;cases t.shown
  .exact .inr ⟨rfl,rfl⟩
  .simp only[cond_true];exact .inl ⟨by omega,by omega,by omega,by omega⟩
section
variable{W:Nat}{x y:St}{t:Tm}
def NZ(s:pI W x t):pI W {x with b7:=Dj} (t.feed ek [27,91,109]):=by have h:=jB (u:=ek) (t:=t) mr s.idle [] (f:=109) (fun n a=>by cases a) nl ol ol;have b:gA [] 109=[27,91,109]:=rfl;rw[b]at h;rw[h];have e:∀ q:Tm,q.cQ 109 (tZ [])={q with b7:=Lk.no}:=fun q=>rfl;rw[e];exact⟨⟨s.ok.h1,s.ok.h2,s.ok.w1,s.ok.w2,s.ok.wid,s.ok.row0,s.ok.row1,s.ok.col0,s.ok.col1⟩,s.aj,rfl,s.row,s.col,s.shown,s.top,s.bot,⟨rfl,s.idle.rest⟩⟩
def C3(s:pI W x t)(i:x.b7=Dj){h:List (List Nu)}{r c r2 c2:Int}(j:eK x.aj r c=0)(k:eK h r2 c2=0)(l:x.aj.length=h.length)(a:di x.aj=W)(d:di h=W)(m:W<=100) :
  ∃ b y,eS (tg x.aj h r c r2 c2)=a9 b/\pI W y (t.feed ek b)/\y.aj=h/\y.atR=r2/\y.Kd W=c2/\(∀ o∈tg x.aj h r c r2 c2,(∀ b,mA o=a9 b->b.length<=400)/\(o.kind=3->o.text.size<=1000000000)):=by
 obtain⟨y,e,n,p,f⟩:=PK j k l (a.trans d.symm) x rfl i;rw[a]at e f;obtain⟨b,q,u⟩:=Kc _ 0 s e;exact⟨b,y,q,u,n,p,f,wD m _ 0 s e⟩
def De(s:pI W y t){h:List (List Nu)}{r c:Int}(a:y.aj=h)(b:y.atR=r)(d:y.Kd W=c):iW t.aj=h/\t.dR=r/\t.dQ=c:=by have:=TB s;exact⟨s.aj.symm.trans a,this.1.trans b,this.2.trans d⟩
end
end Go.Proofs.YtpohjcacnkhnkaaGreatDoor.Tq
namespace Go.Proofs.YtpohjcacnkhnkaaGreatDoor
open Go.Ax
def UK(N:Nat)(H:aa)(p W:Nat)(v:go)(b:List go)(x:St)(o:Op)(k f:Nat)(i:o.kind=(k:Int))(c:JT[k]?=a9 f)(a:iT 83 N H p v b x)(sl:RE v)(d:H.base<=H.next)(ok:x.Ok W)(e:o.kind=5\/o.kind=6) :
  bF Tryz.prog f [li (a9 ⟨p,0,bi⟩),o.val] H (F7 83 N p (x.iD W ei o) H):=by
 rw[Ey,i];rw[i]at e
 match k,c,e with
 |5,c,_=>obtain rfl:=Option.some.inj c; rw[if_neg ol,if_neg ol,if_neg ol,if_neg ol,if_pos ol]; exact zQ N H p W v b x o a sl d ok
 |6,c,_=>obtain rfl:=Option.some.inj c; rw[if_neg ol,if_neg ol,if_neg ol,if_neg ol,if_neg ol,if_pos ol]; exact AY N H p W v b x o a sl d ok
 |0,_,h=>exact absurd h lw
 |1,_,h=>exact absurd h lw
 |2,_,h=>exact absurd h lw
 |3,_,h=>exact absurd h lw
 |4,_,h=>exact absurd h lw
 |7,_,h=>exact absurd h lw
 |8,_,h=>exact absurd h lw
 |k+9,_,h=>exact absurd h lw
def Ju(N:Nat)(H:aa)(p W:Nat)(v ov:go)(D:List go)(x:St)(l:List Op)(hl:iP H ov l)(hov:l≠[]->∀ n∈ae ov,n<N)(a:iT 83 N H p v D x)(sl:RE v)(hNH:N<=H.next)(O:H.base<=H.next)(ok:x.Ok W)(h56:∀ o∈l,o.kind=5\/o.kind=6)(hll:l.length<=10000) :
  bF Tryz.prog 39 [li (a9 ⟨p,0,bi⟩),ov] H (Vs N p (St.all W ei l 0 x) H):=by
 obtain⟨b,hb⟩:=ac H.next;have hbb:H.base<=b:=hb▸O;obtain⟨ao,co,eo⟩:=hl.sl;have hst:∀(M:Nat)(l:List go),l.length=9->Cc Tryz.prog 121 M 0 (.agg ⟨im⟩) (a9 ⟨121,ci,l⟩)=a9 ⟨121,ci,im⟩:=fun M l h=>by have I:(Value.agg ⟨im⟩).cells.toList=im:=rfl;rw[oG (by rw[I]; kernel_rfl) (by rw[I,h]; decide) (by rw[I]; rfl) (by rw[I]; rfl),I,qP _ _ (by rw[h]; decide),zE9 (by rw[h]; decide),zC7]
 refine aI mixed Tryz.func39 rfl Tryz.ntmps39 (zA7 rfl) ?_;rw[eo];simp only[Sn,zW,seval];refine (Su (ext H [])).to ?_;simp only[hb,hbb,hst,zW,seval];rw[<-eo];refine da fun E P=>?_;have g0:E 0=li (a9 ⟨p,0,bi⟩):=by rw[P]; rfl
 have g4:E 4=jp kw ((0:Nat):Int):=by rw[P]; rfl
 have g5:E 5=li (a9 ⟨b+0,0,bi⟩):=by rw[P]; rfl
 have g9:E 9=ov:=by rw[P,eo]; simp only[aF,seval]
 have z:E 10=jp kw (l.length:Int):=by rw[P]; rfl
 have r:E 11=jp kw ((0:Nat):Int):=by rw[P]; rfl
 clear P;obtain⟨X,hX⟩:=ac (ext H [⟨121,ci,im⟩]);have mX:Mod [] H X:=hX▸Mod.ext O;have kX:bk X (b+0)=a9 ⟨121,ci,im⟩:=by rw[<-hX,aZ hb nl]; rfl
 have nX:X.next=b+1:=by rw[<-hX,ai,hb]; rfl
 have A:=mX.ok O;have aX:=a.df mX;rw[hX];rw[show X=ext X [] from rfl];have J:iL N H X:=iL.of (Ws:=[]) mX nl;have Q:∀(Y:aa)(E:Env)(i:Nat),iL N X Y->E 4=jp kw (i:Int)->St.all W ei l 0 x=.inr i->ft Tryz.prog Tryz.f39 (bu 34 E [⟨.fn (.func 76) #[],⟨[]⟩⟩]) [⟨.fn (.func 76) #[],⟨[]⟩⟩] (.panicking [gj]) Y (Vs N p (St.all W ei l 0 x) H):=fun Y E i m e4 hr=>by refine MW (m.ok A) (fun j R=>?_) ol;rw[e4]at R;subst R;rw[hr];exact⟨(J.trans m).trans (iL.of (Ws:=[]) (Mod.ext (m.ok A)) nl),rfl⟩
 refine aS (fun E' Y=>iL N X Y/\∃ y v D,St.all W ei l 0 x=.inl y/\RE v/\iT 83 N Y p v D y) ?_ ?_
 .refine cp (fun (q:Nat × St × go × List go) E' Y=>iL N X Y/\E' 0=li (a9 ⟨p,0,bi⟩)/\E' 5=li (a9 ⟨b+0,0,bi⟩)/\E' 9=ov/\E' 10=jp kw (l.length:Int)/\E' 11=jp kw (q.1:Int)/\q.1<=l.length/\St.all W ei (l.drop q.1) q.1 q.2.1=St.all W ei l 0 x/\q.2.1.Ok W/\RE q.2.2.1/\iT 83 N Y p q.2.2.1 q.2.2.2 q.2.1) (fun q=>l.length-q.1) (0,x,v,D)
   ⟨iL.refl,g0,g5,g9,z,r,zB7 _,rfl,ok,sl,aX⟩ ?_
  clear g0 g4 g5 g9 z r;rintro⟨k,y,u,us⟩ E Y ⟨m,g0,g5,g9,z,r,hk,c,S,B,aY⟩;simp only at r hk c S B aY;rw[show Y=ext Y [] from rfl];by_cases hkl:k=l.length
  .have hc:f7 ((k:Int)<(l.length:Int))=false:=by simp[hkl]
   simp only[z,r,hc,zW,seval];rw[zE9 lw,St.all]at c;exact ag ⟨m,y,u,us,c.symm,B,aY⟩
  .have K:k<l.length:=by omega
   have hc:f7 ((k:Int)<(l.length:Int))=true:=decide_eq_true lw
   obtain⟨o,ho⟩:∃ o,l[k]?=a9 o:=⟨_,zB0 K⟩
   have T:=m.ok A
   obtain⟨yn,C⟩:∃ n,Y.next=n:=⟨_,rfl⟩
   have hyb:Y.base<=yn:=C▸T;have hby:b+0<yn:=by have:=m.next; omega
   have kY:bk Y (b+0)=a9 ⟨121,ci,im⟩:=m.kinds lw kX
   rcases hl with⟨h,_⟩|⟨cn,no,off,so,co',eo1,oo,L,U,hrk,hno,hle,hop⟩
   .rw[h]at K; simp at K
   have hnoN:no<N:=hov cn no (by rw[U]; simp[ae]);have hnoY:rk Y no=a9 ⟨eo1,oo,L⟩:=by obtain⟨Ws,V,m1⟩:=J.trans m;exact (kh (m1.get no hno fun h=>by have:=(V no h).1; omega)).trans hrk
   have hnoy:no<yn:=by have:=(J.trans m).next; omega
   have ia:=TE (len:=l.length) (cap:=co') (n:=no) (off:=off) (s:=so) (i:=(k:Int)) rfl K;have ld:=J9 (e:=eo1) (o:=oo) ho hle hop;rw[U]at g9;simp only[g9,z,r,hc,C,hyb,hnoy,ia,hnoY,ld,cm,Op.val,Op.cells,zW,seval]
   obtain⟨d1,V⟩:∃ d,f7 (0<=o.kind)=d:=⟨_,rfl⟩
   obtain⟨d2,h2⟩:∃ d,f7 (o.kind<9)=d:=⟨_,rfl⟩
   have mB:Mod [] Y (ext Y [⟨58,ci,o.cells⟩]):=Mod.ext T;have mBN:iL N X (ext Y [⟨58,ci,o.cells⟩]):=m.trans (iL.of (Ws:=[]) mB nl);by_cases I:(d1&&d2)=bv
   .simp only[zA6]at I;obtain⟨rfl,rfl⟩:=I;have q1:=of_decide_eq_true V;have q2:=of_decide_eq_true h2
    obtain⟨j,R⟩:∃ j:Nat,o.kind=j:=⟨o.kind.toNat,by omega⟩
    have hj9:j<9:=by omega
    obtain⟨f,hf⟩:∃ f,JT[j]?=a9 f:=⟨_,zB0 (show j<9 from hj9)⟩
    have hbf:aD Tryz.prog f=true:=zC3.1 JJ f (zC5 hf);simp only[V,h2,C,zW,seval];refine bD.to (LR _) ?_
    have ix:aW Tryz.prog 121 (li (a9 ⟨b+0,0,bi⟩)) (jp kw (j:Int))=a9 (li (a9 ⟨b+0,0+j,bi⟩)):=by
     have hu:Tryz.prog.underlying 121=a9 (.array 9 120):=by kernel_rfl
     have hz:br Tryz.prog 120=a9 1:=by kernel_rfl
     simp only[aW,hu,hz,zA1,zA3];rw[if_pos ⟨by omega,by omega⟩];simp[Addr.add];omega
    have lk:rL Tryz.prog 120 (0+j) (a9 ⟨121,ci,im⟩)=a9 (.func (.func f) ⟨[]⟩ ⟨[]⟩):=by rw[lf m9,zC2];simp only[im,zG0,hf,zB2];rfl
    simp only[R,gV,seval];refine pf [] [] m9 m9 rfl rfl (fun ops anc hA hG=>?_) nl ⟨rfl,rfl⟩;simp only[eF,gh,g0,g5,C,hby,kY,ix,lk,bS,zW,seval];simp only[hJ,jV,jg,true_and];refine qY (f:=f) (ca:=[]) rfl rfl rfl hbf ?_;simp only[aF,seval];rw[zC7];have aB:=aY.df mB;have key:=UK N (ext Y [⟨58,ci,o.cells⟩]) p W u us y o j f R hf aB B (mB.ok T) S (h56 o (zC5 ho));simp only[Op.val,Op.cells,R]at key;refine key.mono ?_;rintro out Z ⟨mZ,hr⟩;replace mZ:iL N (ext Y [⟨58,ci,o.cells⟩]) Z:=by simp only[Op.cells,R]; exact mZ
    have mZN:=mBN.trans mZ
    cases hd:y.iD W ei o with
    |none =>rw[hd]at hr;obtain rfl:=hr;have w:=Gf (W:=W) l k k y o ho hd;rw[w]at c;simp only[gq,iz,o5,qG,qH,eN];exact Q _ _ k mZN rfl c.symm
    |some y2 =>
     rw[hd]at hr;obtain⟨rfl,v2,us2,sl2,a2⟩:=hr;rw[OA l k k y y2 o ho hd]at c;rw[show Z=ext Z [] from rfl];simp only[r,ba (show k<1000000 by omega),zW,seval];refine aG ⟨(k+1,y2,v2,us2),by simp only; omega,mZN,?_,?_,?_,?_,?_,by simp only; omega,c,yz S hd,sl2,a2⟩
     .exact g0
     .exact g5
     .simp only[g9,U,aF,seval]
     .exact z
     .rfl
   .have hdn:y.iD W ei o=none:=by
     rw[Ey]
     have:o.kind<0\/9<=o.kind:=by
      cases d1 with
      |false=>have:=of_decide_eq_false V; omega
      |true =>
       cases d2 with
       |false=>have:=of_decide_eq_false h2; omega
       |true=>exact absurd rfl I
     rw[if_neg lw,if_neg lw,if_neg lw,if_neg lw,if_neg lw,if_neg lw,if_neg lw,if_neg lw]
    have w:=Gf (W:=W) l k k y o ho hdn;rw[w]at c;have hs:d1=ci\/(d1=bv/\d2=ci):=by cases d1<;>cases d2<;>simp_all
    rcases hs with rfl|⟨rfl,rfl⟩
    .simp only[V,zW,seval];refine bD.panics (oE _) ?_;simp only[gq,iz,o5,qG,qH,eN];exact Q _ _ k mBN rfl c.symm
    .simp only[V,h2,C,zW,seval];refine bD.panics (oE _) ?_;simp only[gq,iz,o5,qG,qH,eN];exact Q _ _ k mBN rfl c.symm
 .rintro E Y ⟨m,y,u,us,c,B,aY⟩;rw[show Y=ext Y [] from rfl];simp only[zW,seval];rw[c];refine MI (m.ok A) (fun i hi=>?_) ol;simp only[aF]at hi;subst hi;exact⟨(J.trans m).trans (iL.of (Ws:=[]) (Mod.ext (m.ok A)) nl),rfl,u,us,B,aY.df (Mod.ext (m.ok A))⟩
def Se(H:aa)(v ov:go)(g:List (List Ce))(r c:Int)(l:List Op)(hg:ej H v g)(hl:iP H ov l)(j:H.base<=H.next)(hs:aV H.next v=bv)(hw:∀ l∈g,l.length<=10000)(hgl:g.length<=10000)
  (h56:∀ o∈l,o.kind=5\/o.kind=6) (hll:l.length<=10000) :
  bF Tryz.prog 20 [.agg ⟨[v,jp kw r,jp kw c]⟩,ov] H (UB H g r c l):=by
 obtain⟨b,hb⟩:=ac H.next;have hbb:H.base<=b:=hb▸j;obtain⟨a0,c0,e0⟩:=hg.sl;rw[hb]at hs;have hs':=hs;rw[e0]at hs;obtain⟨k,hk⟩:=ac (eK g r c);refine aI mixed Tryz.func20 rfl Tryz.ntmps20 (zA7 rfl) ?_;rw[e0];simp only[hb,hs,zW,Nat.reduceLeDiff,Nat.reduceLT,Nat.reduceAdd,Nat.reduceEqDiff];rw[<-e0];obtain⟨X,hX⟩:=ac (ext H [⟨41,ci,[v,jp kw r,jp kw c]⟩,⟨41,ci,[lm bi 0 0,jp kw 0,jp kw 0]⟩]);have mX:Mod [] H X:=hX▸Mod.ext j;have nX:X.next=b+2:=by rw[<-hX,ai,hb]; rfl
 have k0:bk X (b+0)=a9 ⟨41,ci,[v,jp kw r,jp kw c]⟩:=by rw[<-hX,aZ hb nl]; rfl
 have k1:bk X (b+1)=a9 ⟨41,ci,[lm bi 0 0,jp kw 0,jp kw 0]⟩:=by rw[<-hX,aZ hb nl]; rfl
 have okX:=mX.ok j;have gX:ej X v g:=hX▸hg.ext;rw[hX];have hck:=vi X v g r c gX (fun l hl=>by have:=hw l hl; omega) lw;rw[hk]at hck;rw[show X=ext X [] from rfl];refine hck.to ?_;rw[show X=ext X [] from rfl];have l0:b+0<b+2:=by omega
 have l1:b+1<b+2:=by omega
 by_cases K:k=0
 .have hd:f7 (¬k=0)=false:=by simp[K]
  rw[K]at hk;obtain⟨ok,cn,T⟩:=zj hk;obtain⟨W,hW⟩:=ac (di g);rw[hW]at ok;obtain⟨F,hF,hFG⟩:=gX.sK T;have A:=aK X F;obtain⟨gR,_⟩:=hFG (X.restrict F) (by rw[A.1]; exact zA4 _) (fun n a=>by rw[aU,if_pos a]);obtain⟨_,gg,hcc,u,rvs,rfl,gr,mg⟩:=Mg (X.restrict F) v g r c gR (by rw[A.1,A.2.1]; exact zA4 _) (by rw[A.1,nX]; exact cU lw _ hs') cn hw hgl;rw[A.1]at gr;simp only[hd,zW,Nat.reduceLT];refine aQ [(10,1),(11,10),(11,1),(12,11),(12,1)] [] m9 m9 rfl fun ops anc hA hG=>?_;simp only[aw]at hA;simp only[nX,k0,l0,bS,zW,Nat.reduceLeDiff,Nat.reduceLT,Nat.reduceAdd,Nat.reduceEqDiff];refine mi (H:=ext X []) (W:=[]) F okX rfl m9 (fun n a=>(hF n a).1) (fun n a=>(hF n a).2) (fun _ h=>by simp at h) (v:=.agg ⟨[u,jp kw r,jp kw c]⟩) (g:=gg) (by simp only[aF]; exact hcc) mg (by simp only[aw,cG,and_true]; simp) ?_;intro Z D mZ hFZ hNZ hnZ hDZ;have hD0:D=[]:=List.eq_nil_iff_forall_not_mem.2 (fun q hq=>by simpa using hDZ q hq);subst hD0;replace mZ:Mod [] X Z:=mZ;replace hNZ:∀ m,X.next<=m->m<gg.next->Z.get m=gg.get m:=hNZ
  have O:Grow (b+2) Z u rvs g:=by
   have:=gr.of (Y:=Z) lw (fun n a hm=>hNZ n (by
    rcases zB1.1 hm with hm|hm
    .exact (gr.apart n hm).1
    .exact (gr.ids n hm).1) a)
   rw[nX]at this;exact this
  obtain⟨au,eu⟩:=O.at_.len;have hsu:=O.at_.sc
  have slu:RE u:=by
   obtain⟨_,_,⟨h0,_⟩|⟨_,n,e,_⟩⟩:=O.at_
   .exact absurd (List.length_eq_zero_iff.1 h0) T
   .exact⟨n,_,e⟩
  have P:=mZ.ok okX
  obtain⟨f,B⟩:∃ z,Z.next=z:=⟨_,rfl⟩
  have hzb:Z.base<=f:=B▸P;have hz2:b+2<=f:=by have:=mZ.next; omega
  have kz0:bk Z (b+0)=_:=(mZ.bk lw nl).trans k0;have kz1:bk Z (b+1)=_:=(mZ.bk lw nl).trans k1;have hg2:gg.next=f:=by omega
  have l0z:b+0<f:=by omega
  rw[B]at hsu;rw[eu]at hsu;rw[show Z=ext Z [] from rfl,eu];simp only[B,kz0,l0z,hg2,hsu,nX,hA,bS,zW,Nat.reduceLT,Nat.reduceAdd,Nat.reduceEqDiff];rw[<-eu];obtain⟨Y1,C⟩:=ac (ext Z [⟨83,ci,(St.start g r c).cells u⟩]);have s:Mod [] Z Y1:=C▸Mod.ext P;have nY1:Y1.next=f+1:=by rw[<-C,ai,B]; rfl
  have kp:bk Y1 (f+0)=a9 ⟨83,ci,(St.start g r c).cells u⟩:=by rw[<-C,aZ B nl]; rfl
  have mHZ:Mod [] H Z:=mX.trans mZ;have mHY:Mod [] H Y1:=mHZ.trans s
  have aY1:iT 83 (b+2) Y1 (f+0) u rvs (St.start g r c):=by
   have own:=O.own;refine⟨kp,own.of s.next fun n h1 h2 h3=>s.get n h2 nl,fun h=>?_,by omega,by omega⟩;rcases zB1.1 h with h|h
   .have:=(own.Wi _ h).2.1; omega
   .have:=(own.ids _ h).2.1; omega
  have key:=Ju (b+2) Y1 (f+0) W u ov rvs (St.start g r c) l (hl.df mHY) (fun h n a=>by have:=hl.gO h n a; omega) aY1 slu lw (s.ok P) ok h56 hll;simp only[St.start,St.cells]at C;rw[C];refine key.mono ?_;rintro out Y ⟨mY,hr⟩;have gH:∀ n,n<b+2->bk Y n=bk Y1 n:=fun n a=>by obtain⟨Ws,h1,m1⟩:=mY;exact m1.bk lw fun h=>by have:=(h1 n h).1; omega
  have ky1:=(gH (b+1) lw).trans ((s.bk lw nl).trans kz1);have U:Mod [] H Y:=mY.mod mHY j lw;have okY:=mY.ok (s.ok P)
  obtain⟨yn,hyn⟩:∃ n,Y.next=n:=⟨_,rfl⟩
  have hzy:f+1<=yn:=by have:=mY.next; omega
  have l1y:b+1<yn:=by omega
  rw[show Y=ext Y [] from rfl]
  cases p:St.all W ei l 0 (St.start g r c) with
  |inr i =>rw[p]at hr;obtain rfl:=hr;have hdi:f7 ((0:Int)<=(i:Int))=true:=decide_eq_true lw;simp only[hyn,ky1,l1y,hdi,Tryz.results20,zW,Nat.reduceLeDiff,Nat.reduceLT,Nat.reduceAdd,Nat.reduceEqDiff];have mU:Mod [b+1] Y (uw Y (b+1) 0 [lm bi 0 0,jp kw 0,jp kw 0]):=Mod.uw nl;refine⟨U.step mU j (fun n a=>.inr (by simp only[zA5]at a; omega)),?_⟩;rw[if_pos hk,hW,p]
  |inl y =>
   rw[p]at hr;obtain⟨rfl,u2,I,sl2,a2⟩:=hr;have hdi:f7 ((0:Int)<=-1)=false:=by decide
   have kpy:=a2.cell;simp only[St.cells]at kpy;have lpy:f+0<yn:=by omega
   have d:=wD l 0 _ y ok p;simp only[hyn,lpy,kpy,hdi,zW,Nat.reduceLeDiff,Nat.reduceLT,Nat.reduceAdd,Nat.reduceEqDiff];obtain⟨a3,m3⟩:=a2.RS (y:={y with sr:=-1}) okY (off:=1) (vs:=[jp kw (-1)]) (L:=[]) rfl rfl;obtain⟨Q,m4⟩:=a3.RS (y:={y with sr:=-1,sc:=0}) (m3.ok okY) (off:=2) (vs:=[jp kw 0]) (L:=[]) rfl rfl;have J:=m4.ok (m3.ok okY);have m34:Mod [f+0] Y (ext (uw (uw Y (f+0) 1 [jp kw (-1)]) (f+0) 2 [jp kw 0]) []):=m3.trans m4;generalize hY4:ext (uw (uw Y (f+0) 1 [jp kw (-1)]) (f+0) 2 [jp kw 0]) []=Y4 at Q J m34 ⊢;replace Q:iT 83 (b+2) Y4 (f+0) u2 I {y with sr:=-1,sc:=0}:=hY4▸Q;replace J:Y4.base<=Y4.next:=hY4▸J;rw[show Y4=ext Y4 [] from rfl];refine fB (fun E' R=>Mod [f+0] Y R/\E' 4=li (a9 ⟨b+1,0,bi⟩)/\E' 8=li (a9 ⟨f+0,0,bi⟩)/\iT 83 (b+2) R (f+0) u2 I {y with sr:=y.atR,sc:=y.Kd W}) ?_ ?_
   .have oky4:St.Ok {y with sr:=-1,sc:=0} W:=⟨d.h1,d.h2,d.w1,d.w2,d.wid,d.row0,d.row1,d.col0,d.col1⟩
    obtain⟨m,hml,hmp,⟨_,_,_,hmb⟩,hwd⟩:=FE Q oky4
    have hFn:∀ n∈[f+0,m],(ext Y4 []).get n≠none:=fun n a=>by
     simp only[zA8,zD7,or_false]at a;rcases a with rfl|rfl
     .exact fa Q.cell
     .exact fa hmb
    have n4:Y4.next=yn:=by rw[<-hY4,ai,cw,cw,hyn]; rfl
    have k4:=Q.cell;simp only[St.cells]at k4
    cases w:y.shown with
    |false =>
     have e1:y.atR=-1:=by simp[St.atR,w]
     have e2:y.Kd W=0:=by simp[St.Kd,w]
     rw[e1,e2];simp only[gV];rw[w]at Q;exact ag ⟨m34,by simp only[aF,Nat.reduceEqDiff],by simp only[aF,Nat.reduceEqDiff],Q⟩
    |true =>
     have e1:y.atR=y.row:=by simp[St.atR,w]
     have e2:y.Kd W=min y.col ((W:Int)-1):=by simp[St.Kd,w]
     have hw1:IntKind.i64.wrap ((W:Int)-1)=(W:Int)-1:=aR (by have:=d.w1; omega) (by have:=d.w2; omega);rw[e1,e2];simp only[gV];refine aQ [(17,5),(17,9),(17,11),(21,17),(21,5),(21,9),(21,11)] [] m9 m9 rfl fun ops anc hA hG=>?_;simp only[aw]at hA;simp only[n4,lpy,k4,bS,zW,Nat.reduceLT,Nat.reduceAdd,Nat.reduceEqDiff];refine bI (v:=jp kw W) [f+0,m] rfl m9 (zA7 rfl) hFn (fun G a hg=>hwd G a hg) qr ?_;simp only[n4,lpy,k4,hw1,hA,bS,zW,Nat.reduceLeDiff,Nat.reduceLT,Nat.reduceAdd,Nat.reduceEqDiff];obtain⟨a5,m5⟩:=Q.RS (y:={y with sr:=y.row,sc:=0}) J (off:=1) (vs:=[jp kw y.row]) (L:=[]) rfl rfl;obtain⟨a6,m6⟩:=a5.RS (y:={y with sr:=y.row,sc:=min y.col ((W:Int)-1)}) (m5.ok J) (off:=2) (vs:=[jp kw (min y.col ((W:Int)-1))]) (L:=[]) rfl rfl;rw[w]at a6;exact ag ⟨m34.trans (m5.trans m6),by simp only[aF,Nat.reduceEqDiff],by simp only[aF,Nat.reduceEqDiff],a6⟩
   .rintro E R ⟨m2,e4,e8,a7⟩
    obtain⟨z2,hz2n⟩:∃ n,R.next=n:=⟨_,rfl⟩
    have hyz2:yn<=z2:=by have:=m2.next; omega
    have k7:=a7.cell;simp only[St.cells]at k7;have l7:f+0<z2:=by omega
    have l8:b+1<z2:=by omega
    have k8:=(m2.bk (n:=b+1) lw t6).trans ky1;obtain⟨nu,hu,S⟩:=sl2;have hnu:nu<z2:=by have:=(a7.own.Wi nu (by rw[S]; simp[ae])).2.1;omega
    have V:aV z2 u2=true:=by rw[S]; exact bd hnu
    rw[show R=ext R [] from rfl];rw[S]at k7 V;simp only[e4,e8,hz2n,l7,l8,k7,k8,V,Tryz.results20,zW,Nat.reduceLeDiff,Nat.reduceLT,Nat.reduceAdd,Nat.reduceEqDiff];rw[<-S];have mU:Mod [b+1] R (uw R (b+1) 0 [u2,jp kw y.atR,jp kw (y.Kd W)]):=Mod.uw nl;have mHZ2:Mod [] H R:=U.step m2 j (fun n a=>.inr (by simp only[zA5]at a; omega));refine⟨mHZ2.step mU j (fun n a=>.inr (by simp only[zA5]at a; omega)),?_⟩;rw[if_pos hk,hW,p];refine⟨u2,I,b+2,rfl,by omega,a7.own.of mU.next fun n h1 h2 h3=>mU.get n h2 t6⟩
 .have hd:f7 (¬k=0)=true:=by simp[K]
  simp only[hd,nX,k1,l1,Tryz.results20,zW,Nat.reduceLeDiff,Nat.reduceLT,Nat.reduceAdd,Nat.reduceEqDiff];have mU:Mod [b+1] X (uw X (b+1) 0 [lm bi 0 0,jp kw 0,jp kw 0]):=Mod.uw nl;refine⟨mX.step mU j (fun n a=>.inr (by simp only[zA5]at a; omega)),?_⟩;rw[if_neg (by rw[hk]; exact K),hk]
def JB(H:aa)(g h:List (List Ce))(r c r2 c2:Int)(out:Out)(X:aa):Prop :=
 Mod [] H X/\∃ a,out=.ok (.tuple #[a,jp kw (opsV g h r c r2 c2).2])/\jP X a (opsV g h r c r2 c2).1/\∀ n∈ae a,H.next<=n
def Ut{g h:List (List Ce)}{r c r2 c2:Int}(a:¬eK g r c=0):opsV g h r c r2 c2=([],eK g r c):=by rw[opsV,if_pos a]
def UG{g h:List (List Ce)}{r c r2 c2:Int}(a:eK g r c=0)(b:¬eK h r2 c2=0):opsV g h r c r2 c2=([],eK h r2 c2):=by rw[opsV,if_neg (fun k=>k a),if_pos b]
def Pr{g h:List (List Ce)}{r c r2 c2:Int}(a:eK g r c=0)(b:eK h r2 c2=0)(d:g.length≠h.length\/di g≠di h):opsV g h r c r2 c2=([],3):=by rw[opsV,if_neg (fun k=>k a),if_neg (fun k=>k b),if_pos d]
def Qf{g h:List (List Ce)}{r c r2 c2:Int}(a:eK g r c=0)(b:eK h r2 c2=0)(d:g.length=h.length)(e:di g=di h):opsV g h r c r2 c2=(tg g h r c r2 c2,0):=by rw[opsV,if_neg (fun k=>k a),if_neg (fun k=>k b),if_neg (fun k=>k.elim (fun k=>k d) (fun k=>k e))]
def JB.err{H X:aa}{g h:List (List Ce)}{r c r2 c2 e:Int}(m:Mod [] H X)(a:opsV g h r c r2 c2=([],e)):JB H g h r c r2 c2 (.ok (.tuple #[lm bi 0 0,jp kw e])) X :=
 ⟨m,lm bi 0 0,by rw[a],by rw[a]; exact jP.nil,fun n b=>by simp[ae]at b⟩
def fq.low{N q:Nat}{F:List Nat}{H U:aa}{p:Nat}{v:go}{l:List Op}{k:Lk}(a:fq N F H p v l k)(m:Mod [q] H U)(c:q<N):fq N F U p v l k:=by have d:=a.lo;exact⟨(m.bk a.lt t6).trans a.cell,a.ops.of m.next fun n b=>m.get n (a.ops.ne n b).2 (by simp only[zA5]; have:=(a.ids n b).1; omega),a.apart,m.lt a.lt,a.lo,a.pF,a.ids,fun n b=>m.lt (a.fl n b)⟩
def VG{x k:Nat}{i:Int}(hi:i=k)(a:k<2):aW Tryz.prog 87 (lm (a9 ⟨x,0,a9 0⟩) 2 2) (jp kw i)=a9 (li (a9 ⟨x,0+k*3,bi⟩)):=by subst hi;rw[gk (e:=41) (sz:=3) m9 m9 lw lw];simp
def SE(H:aa)(u1 u2:go)(g h:List (List Ce))(r c r2 c2:Int)(h1:fP H u1 g)(h2:fP H u2 h)(J:H.base<=H.next)(hg12:g.length<=60)(hgw:∀ l∈g,l.length<=100)(hh12:h.length<=60)(hhw:∀ l∈h,l.length<=100)(hs1:aV H.next u1=bv)(hs2:aV H.next u2=bv) :
  bF Tryz.prog 22 [.agg ⟨[u1,jp kw r,jp kw c]⟩,.agg ⟨[u2,jp kw r2,jp kw c2]⟩] H (JB H g h r c r2 c2):=by
 obtain⟨x,hx⟩:=ac H.next;have hxb:H.base<=x:=hx▸J;obtain⟨a1,b1,e1⟩:=h1.at_.sl;obtain⟨a2,b2,e2⟩:=h2.at_.sl;rw[hx]at hs1 hs2;have hs1':=hs1;have hs2':=hs2;rw[e1]at hs1';rw[e2]at hs2';refine aI mixed Tryz.func22 rfl Tryz.ntmps22 (zA7 rfl) ?_;rw[e1,e2];simp only[hx,hs1',hs2',zW,Nat.reduceLeDiff,Nat.reduceLT,Nat.reduceAdd,Nat.reduceEqDiff];rw[<-e1,<-e2];refine da fun E hE=>?_;have C:E 2=li (a9 ⟨x+0,0,bi⟩):=by rw[hE]; rfl
 have A:E 3=li (a9 ⟨x+1,0,bi⟩):=by rw[hE]; rfl
 have T:E 16=lm (a9 ⟨x+2,0,a9 0⟩) 2 2:=by rw[hE]; rfl
 have P:E 17=jp kw 2:=by rw[hE]; rfl
 have p:E 18=jp kw ((0:Nat):Int):=by rw[hE]; rfl
 clear hE;generalize hX:ext H _=X;have mX:Mod [] H X:=hX▸Mod.ext J;have nX:X.next=x+3:=by rw[<-hX,ai,hx]; rfl
 have bX0:bk X (x+0)=a9 ⟨41,ci,[u1,jp kw r,jp kw c]⟩:=by rw[<-hX,aZ hx nl]; rfl
 have bX1:bk X (x+1)=a9 ⟨41,ci,[u2,jp kw r2,jp kw c2]⟩:=by rw[<-hX,aZ hx nl]; rfl
 have bX2:bk X (x+2)=a9 ⟨41,ci,[u1,jp kw r,jp kw c,u2,jp kw r2,jp kw c2]⟩:=by rw[<-hX,aZ hx nl]; rfl
 clear hX;refine aS (fun j Y=>j 2=li (a9 ⟨x+0,0,bi⟩)/\j 3=li (a9 ⟨x+1,0,bi⟩)/\Mod [] H Y/\x+3<=Y.next/\bk Y (x+0)=a9 ⟨41,ci,[u1,jp kw r,jp kw c]⟩/\bk Y (x+1)=a9 ⟨41,ci,[u2,jp kw r2,jp kw c2]⟩/\eK g r c=0/\eK h r2 c2=0) ?_ ?_
 .refine cp (fun (k:Nat) j Y=>j 2=li (a9 ⟨x+0,0,bi⟩)/\j 3=li (a9 ⟨x+1,0,bi⟩)/\j 16=lm (a9 ⟨x+2,0,a9 0⟩) 2 2/\j 17=jp kw 2/\j 18=jp kw (k:Int)/\k<=2/\Mod [] H Y/\Mod [] X Y/\x+3<=Y.next/\(0<k->eK g r c=0)/\(1<k->eK h r2 c2=0)) (fun k=>2-k) 0
   ⟨C,A,T,P,p,by omega,mX,Mod.refl,by omega,by omega,by omega⟩ ?_
  clear C A T P p E;rintro k E Y ⟨C,A,T,P,p,hk,mY,mXY,yl,u,Q⟩;have okY:=mY.ok J;obtain⟨y,hy⟩:=ac Y.next;have hyb:Y.base<=y:=hy▸okY;have bY0:=(mXY.bk (n:=x+0) lw nl).trans bX0;have R:=(mXY.bk (n:=x+1) lw nl).trans bX1;have bY2:=(mXY.bk (n:=x+2) lw nl).trans bX2;have l2:x+2<y:=by omega
  rw[show Y=ext Y [] from rfl]
  match k,hk,u,Q,p with
  |2,_,u,Q,p =>
   have I:f7 (((2:Nat):Int)<2)=false:=by decide
   simp only[P,p,I,zW,Nat.reduceLT];exact ag ⟨by simp only[C,aF,Nat.reduceEqDiff],by simp only[A,aF,Nat.reduceEqDiff],mY,yl,bY0,R,u lw,Q lw⟩
  |0,_,_,_,p =>
   have I:f7 (((0:Nat):Int)<2)=true:=by decide
   have ia:=VG (x:=x+2) (k:=0) (i:=((0:Nat):Int)) rfl lw;have hsu:aV y (.slice a1 g.length b1)=true:=cU lw _ hs1';have bY2':=bY2;rw[e1]at bY2';simp only[T,P,p,hy,hyb,I,bY2',l2,ia,cm,hsu,zW,Nat.reduceLeDiff,Nat.reduceLT,Nat.reduceAdd,Nat.reduceMul,Nat.reduceEqDiff];rw[<-e1];generalize hV:ext Y _=V;have mV:Mod [] Y V:=hV▸Mod.ext okY;have nV:V.next=y+1:=by rw[<-hV,ai,hy]; rfl
   clear hV;have K:=mY.trans mV;rw[show V=ext V [] from rfl];obtain⟨e,S⟩:=ac (eK g r c);have hck:=vi (ext V []) u1 g r c (h1.at_.df K) (fun l hl=>by have:=hgw l hl; omega) lw;rw[S]at hck;refine hck.to ?_;obtain⟨d,I⟩:=ac (f7 (¬e=0))
   cases d with
   |true =>have cn:=of_decide_eq_true I;simp only[I,cO,Tryz.results22,zW,Nat.reduceLT,Nat.reduceEqDiff];exact JB.err K ((Ut (by rw[S]; exact cn)).trans (by rw[S]))
   |false =>
    have h0:e=0:=by simpa using of_decide_eq_false I
    rw[h0]at S;simp only[p,I,zW,Nat.reduceLT,Nat.reduceEqDiff];refine aG ⟨1,by omega,by simp only[C,aF,Nat.reduceEqDiff],by simp only[A,aF,Nat.reduceEqDiff],by simp only[T,aF,Nat.reduceEqDiff],by simp only[P,aF,Nat.reduceEqDiff],by simp only[aF]<;>rfl,by omega,K,mXY.trans mV,by rw[ai,nV]; simp only[zB4]; omega,fun _=>S,by omega⟩
  |1,_,u,_,p =>
   have I:f7 (((1:Nat):Int)<2)=true:=by decide
   have ia:=VG (x:=x+2) (k:=1) (i:=((1:Nat):Int)) rfl lw;have hsu:aV y (.slice a2 h.length b2)=true:=cU lw _ hs2';have bY2':=bY2;rw[e2]at bY2';simp only[T,P,p,hy,hyb,I,bY2',l2,ia,cm,hsu,zW,Nat.reduceLeDiff,Nat.reduceLT,Nat.reduceAdd,Nat.reduceMul,Nat.reduceEqDiff];rw[<-e2];generalize hV:ext Y _=V;have mV:Mod [] Y V:=hV▸Mod.ext okY;have nV:V.next=y+1:=by rw[<-hV,ai,hy]; rfl
   clear hV;have K:=mY.trans mV;rw[show V=ext V [] from rfl];obtain⟨e,S⟩:=ac (eK h r2 c2);have hck:=vi (ext V []) u2 h r2 c2 (h2.at_.df K) (fun l hl=>by have:=hhw l hl; omega) lw;rw[S]at hck;refine hck.to ?_;obtain⟨d,I⟩:=ac (f7 (¬e=0))
   cases d with
   |true =>have cn:=of_decide_eq_true I;simp only[I,cO,Tryz.results22,zW,Nat.reduceLT,Nat.reduceEqDiff];exact JB.err K ((UG (u lw) (by rw[S]; exact cn)).trans (by rw[S]))
   |false =>
    have h0:e=0:=by simpa using of_decide_eq_false I
    rw[h0]at S;simp only[p,I,zW,Nat.reduceLT,Nat.reduceEqDiff];refine aG ⟨2,by omega,by simp only[C,aF,Nat.reduceEqDiff],by simp only[A,aF,Nat.reduceEqDiff],by simp only[T,aF,Nat.reduceEqDiff],by simp only[P,aF,Nat.reduceEqDiff],by simp only[aF]<;>rfl,by omega,K,mXY.trans mV,by rw[ai,nV]; simp only[zB4]; omega,fun _=>u lw,fun _=>S⟩
 clear C A T P p E bX0 bX1 bX2 mX nX X;rintro E Y ⟨C,A,mY,yl,bY0,R,u,Q⟩;have okY:=mY.ok J;obtain⟨y,hy⟩:=ac Y.next;have l0:x+0<y:=by omega
 have l1:x+1<y:=by omega
 obtain⟨ok1,hne1,hg0⟩:=zj u;obtain⟨ok2,hne2,hh0⟩:=zj Q;have s1Y:=h1.df mY;have s2Y:=h2.df mY;have hgp:0<g.length:=List.length_pos_iff.2 hg0;have hhp:0<h.length:=List.length_pos_iff.2 hh0;obtain⟨n1,o1,sp1,cp1,t1,q1,L1,ev1,k1,n1l,le1,tk1⟩:=s1Y.r hg0;obtain⟨n2,o2,sp2,cp2,t2,q2,L2,ev2,k2,n2l,le2,tk2⟩:=s2Y.r hh0;rw[hy]at n1l n2l
 obtain⟨w1,hw1⟩:∃ r,g[0]?=a9 r:=⟨_,zB0 hgp⟩
 obtain⟨w2,hw2⟩:∃ r,h[0]?=a9 r:=⟨_,zB0 hhp⟩
 obtain⟨rv1,hrv1,rs1⟩:=tk1 0 w1 hw1;obtain⟨rv2,hrv2,rs2⟩:=tk2 0 w2 hw2;obtain⟨ra1,rc1,re1⟩:=rs1.sl;obtain⟨ra2,rc2,re2⟩:=rs2.sl;rw[re1]at hrv1;rw[re2]at hrv2;have hwid1:di g=w1.length:=by rw[di,zC9,hw1]; rfl
 have hwid2:di h=w2.length:=by rw[di,zC9,hw2]; rfl
 have i1:=fD (n:=n1) (off:=o1) (s:=sp1) (cap:=cp1) (i:=0) (k:=0) rfl hgp;have i2:=fD (n:=n2) (off:=o2) (s:=sp2) (cap:=cp2) (i:=0) (k:=0) rfl hhp;have q1':=dG (e:=t1) (o:=q1) hrv1;have q2':=dG (e:=t2) (o:=q2) hrv2;have B:=bY0;have bY1':=R;rw[ev1]at B;rw[ev2]at bY1'
 obtain⟨d1,hd1⟩:∃ d,f7 (¬(g.length:Int)=(h.length:Int))=d:=⟨_,rfl⟩
 obtain⟨d2,hd2⟩:∃ d,f7 (¬(w1.length:Int)=(w2.length:Int))=d:=⟨_,rfl⟩
 rw[show Y=ext Y [] from rfl]
 cases d1 with
 |true =>have cn:=of_decide_eq_true hd1;simp only[gV];refine aQ [] [(7,35)] m9 rfl m9 fun ops anc hA hG=>?_;simp only[aw]at hG;simp only[C,A,hy,l0,l1,B,bY1',hd1,hG,Tryz.results22,bS,zW,Nat.reduceLT,Nat.reduceAdd,Nat.reduceEqDiff];exact JB.err mY (Pr u Q (.inl lw))
 |false =>
 have hgh:g.length=h.length:=by have:=of_decide_eq_false hd1; omega
 cases d2 with
 |true =>have cn:=of_decide_eq_true hd2;simp only[gV];refine aQ [] [(7,35)] m9 rfl m9 fun ops anc hA hG=>?_;simp only[aw]at hG;simp only[C,A,hy,l0,l1,B,bY1',hd1,hd2,i1,i2,k1,k2,n1l,n2l,q1',q2',cm,hG,Tryz.results22,bS,zW,Nat.reduceLT,Nat.reduceAdd,Nat.reduceEqDiff];exact JB.err mY (Pr u Q (.inr lw))
 |false =>
 have hwh:di g=di h:=by have:=of_decide_eq_false hd2; omega
 have hV4:=Qf u Q hgh hwh;simp only[gV];refine aQ [] [(7,35)] m9 rfl m9 fun ops anc hA hG=>?_;simp only[aw]at hG;simp only[C,A,hy,l0,l1,B,bY1',hd1,hd2,i1,i2,k1,k2,n1l,n2l,q1',q2',cm,hG,bS,zW,Nat.reduceLT,Nat.reduceAdd,Nat.reduceEqDiff];rw[<-ev1,<-ev2];generalize hV:ext Y _=V;have mV:Mod [] Y V:=hV▸Mod.ext okY;have nV:V.next=y+1:=by rw[<-hV,ai,hy]; rfl
 have bV:bk V (y+0)=a9 ⟨90,ci,[lm bi 0 0,jp kw 0,jp kw 0,ls ci,ls ci,ls ci]⟩:=by rw[<-hV,aZ hy nl]; rfl
 clear hV;have okV:=mV.ok okY;obtain⟨z,hz⟩:=ac V.next;have hVb:V.base<=z:=hz▸okV;have K:=mY.trans mV;have s1V:=h1.df K;have s2V:=h2.df K;have bV0:=(mV.bk (n:=x+0) lw nl).trans bY0;have bV1:=(mV.bk (n:=x+1) lw nl).trans R
 have wV:fq y [] V (y+0) (lm bi 0 0) [] Dj:=⟨bV,jP.nil,by simp[ae],by omega,by omega,by simp,fun n hn=>by simp[ae]at hn,fun n hn=>by cases hn⟩
 have hsc:=uT (ext V []) u1 u2 g h s1V s2V (fun l hl=>by have:=hgw l hl; omega) (fun l hl=>by have:=hhw l hl; omega) hgh lw;obtain⟨so,hso⟩:=ac (gT g h);rw[hso]at hsc
 obtain⟨ob,hob,hoo⟩:∃ ob:Op,Pure 46 [u1,u2] (ext V []) (.tuple #[ob.val,ls so.isSome])/\∀ o,so=a9 o->ob=o:=by
  cases so with
  |none=>exact⟨_,hsc,fun o h=>by cases h⟩
  |some o=>exact⟨o,hsc,fun o' h=>by cases h; rfl⟩
 rw[show V=ext V [] from rfl];refine hob.to ?_;simp only[hz,hVb,Op.val,Op.cells,zW,Nat.reduceLeDiff,Nat.reduceLT,Nat.reduceAdd,Nat.reduceEqDiff];generalize hU:ext V _=U;have mU:Mod [] V U:=hU▸Mod.ext okV;have nU:U.next=z+1:=by rw[<-hU,ai,hz]; rfl
 have bU:bk U (z+0)=a9 ⟨58,ci,ob.cells⟩:=by rw[<-hU,aZ hz nl]; rfl
 clear hU;have okU:=mU.ok okV;have mHU:=K.trans mU;have wU:=wV.of mU;have bU0:=(mU.bk (n:=x+0) lw nl).trans bV0;have bU1:=(mU.bk (n:=x+1) lw nl).trans bV1;have hHN:H.next<=y:=by rw[<-hy]; exact mY.next
 refine fB (fun j Z=>j 2=li (a9 ⟨x+0,0,bi⟩)/\j 3=li (a9 ⟨x+1,0,bi⟩)/\j 9=li (a9 ⟨y+0,0,bi⟩)/\∃ F v uo rr cc,Mod [] H Z/\y+1<=Z.next/\bk Z (x+0)=a9 ⟨41,ci,[uo,jp kw rr,jp kw cc]⟩/\bk Z (x+1)=a9 ⟨41,ci,[u2,jp kw r2,jp kw c2]⟩/\fq y F Z (y+0) v so.toList Dj/\rS y F Z uo (nA g h r c)) ?_ ?_
 .cases so with
  |none =>
   simp only[Option.isSome_none,gV];have O:nA g h r c=g:=by unfold nA; rw[hso]
   exact ag ⟨by simp only[C,aF,Nat.reduceEqDiff],by simp only[A,aF,Nat.reduceEqDiff],by simp only[aF,Nat.reduceEqDiff],[],_,u1,r,c,mHU,by show y+1<=U.next; omega,bU0,bU1,wU,by rw[O]; exact (((h1.r hg0).f hHN).df mHU)⟩
  |some o =>
   have hoe:=hoo o rfl;subst hoe;have lz0:z+0<z+1:=by omega
   have bU':=bU;simp only[Op.cells]at bU';rw[show U=ext U [] from rfl];simp only[nU,bU',lz0,Option.isSome_some,zW,Nat.reduceLeDiff,Nat.reduceLT,Nat.reduceAdd,Nat.reduceEqDiff];refine (tU y [] (ext U []) (y+0) (lm bi 0 0) [] Dj ob wU okU nl (by show y<=U.next; omega)).mono ?_;rintro _ Z1 ⟨rfl,v1,w1,kZ⟩;replace kZ:iQ y [] U Z1:=kZ;rw[zB6]at w1;have okZ:=kZ.ok okU;have mHZ:Mod [] H Z1:=kZ.mod mHU J hHN;have zn1:=kZ.next
   obtain⟨z1,hz1⟩:∃ n,Z1.next=n:=⟨_,rfl⟩
   have bZ0:=(kZ.bk (n:=x+0) lw (.inl lw)).trans bU0;have bZ1:=(kZ.bk (n:=x+1) lw (.inl lw)).trans bU1;have wc:=w1.cell;have l0z:x+0<z1:=by omega
   have lyz:y+0<z1:=by omega
   obtain⟨F1,hF1,hFG⟩:=(h1.df mHZ).at_.sK hg0
   obtain⟨F,hF⟩:∃ F,F=F1++ae v1:=⟨_,rfl⟩
   have hFF:∀ n∈F,Z1.get n≠bi/\n<Z1.next:=fun n hn=>by
    rw[hF]at hn;rcases zB1.1 hn with hn|hn
    .exact hF1 n hn
    exact w1.ops.ne n hn
   have hrn:=aK Z1 F;have hrg:∀ n∈F,(Z1.restrict F).get n=Z1.get n:=fun n hn=>by rw[aU,if_pos hn]
   obtain⟨gR,_⟩:=hFG (Z1.restrict F) (by rw[hrn.1]; exact zA4 _) (fun n hn=>hrg n (hF▸zF8 _ hn));have oR:iP (Z1.restrict F) v1 [ob]:=w1.ops.at_.of (by rw[hrn.1]; exact zA4 _) fun n hn=>hrg n (hF▸zG6 _ hn);obtain⟨tt,bb,ii,kk,hroll,hk56,-⟩:=oY hso hgh;obtain⟨out,gg,hcs,hap⟩:=Se (Z1.restrict F) u1 v1 g r c [ob] gR oR (by rw[hrn.1,hrn.2.1]; exact zA4 _) (by rw[hrn.1,hz1]; exact cU lw _ hs1) (fun l hl=>by have:=hgw l hl; omega) lw (fun o ho=>by rw[zA5]at ho; subst ho; rw[hroll]; exact hk56) nl;obtain⟨mg,ua,rva,Na,rfl,hNa,own⟩:=hap.val;have O:nA g h r c=(y8 g r c [ob]).1:=by unfold nA; rw[hso]
   obtain⟨⟨ga,ra,ca,ea,ia⟩,hav⟩:∃ q,y8 g r c [ob]=q:=⟨_,rfl⟩
   rw[hav]at hcs own O;simp only at hcs own O;rw[hrn.1,hz1]at hNa;rw[show Z1=ext Z1 [] from rfl];simp only[gV,Nat.reduceLT];refine aQ [(10,0),(10,4),(10,5),(6,5),(7,5)] [] m9 m9 rfl fun ops anc hA hG=>?_;simp only[aw]at hA;simp only[C,hz1,bZ0,wc,l0z,lyz,bS,zW,Nat.reduceLeDiff,Nat.reduceLT,Nat.reduceAdd,Nat.reduceEqDiff];refine mi (H:=ext Z1 []) (W:=[]) F okZ rfl m9 (fun n hn=>(hFF n hn).1) (fun n hn=>(hFF n hn).2) (fun _ h=>by simp at h) (v:=.tuple #[.agg #[ua,jp kw ra,jp kw ca],jp kw ea,jp kw ia]) (g:=gg) (by simp only[aF,Nat.reduceEqDiff]; exact hcs) mg (by simp only[aw,cG,and_true]; simp) ?_;intro Z D mZ hFZ hNZ hnZ hDZ;have hD0:D=[]:=List.eq_nil_iff_forall_not_mem.2 (fun q hq=>by simpa using hDZ q hq);subst hD0;replace mZ:Mod [] Z1 Z:=mZ;have hzn:=mZ.next;have Iv:jO Na Z ua rva ga:=own.of lw (fun n h3 h4 _=>hNZ n (by show Z1.next<=n; omega) h4);obtain⟨aua,cua,eua⟩:=Iv.aj.sl
   obtain⟨zz,hzz⟩:∃ n,Z.next=n:=⟨_,rfl⟩
   have hsua:aV zz ua=true:=by
    rcases Iv.at_ with⟨_,h⟩|⟨m,s,c',o,e,_,_,hm,_⟩
    .rw[h]; rfl
    .rw[e]; exact bd (show m<zz by omega)
   have kz0:=(mZ.bk (n:=x+0) lw nl).trans bZ0;have kz1:=(mZ.bk (n:=x+1) lw nl).trans bZ1;have lzz:x+0<zz:=by omega
   rw[show Z=ext Z [] from rfl,eua];rw[eua]at hsua;simp only[C,hzz,kz0,lzz,hsua,hA,bS,zW,Nat.reduceLeDiff,Nat.reduceLT,Nat.reduceAdd,Nat.reduceEqDiff];rw[<-eua];generalize hW:uw Z (x+0) 0 _=W;have mW:Mod [x+0] Z W:=hW▸Mod.uw nl;have kW0:bk W (x+0)=a9 ⟨41,ci,[ua,jp kw ra,jp kw ca]⟩:=by rw[<-hW,bR,kz0]; rfl
   clear hW
   have hq:∀ q∈ae ua++rva.flatMap ae,Z1.next<=q/\q<Z.next:=fun q hq=>by
    rcases zB1.1 hq with hq|hq
    .have:=Iv.Wi q hq; omega
    .have:=Iv.ids q hq; omega
   have wW:=(w1.TO mZ hq).low mW (show x+0<y by omega);have V8:jO Na W ua rva ga:=Iv.of mW.next fun n h3 h4 _=>mW.get n h4 t6;have hga:ga≠[]:=fun e=>by have h3:=(Bn (h:=h) hgh u).1;rw[O,e,zB4]at h3;omega
   have hWn:=mW.next;exact ag ⟨by simp only[C,aF,Nat.reduceEqDiff],by simp only[A,aF,Nat.reduceEqDiff],by simp only[aF,Nat.reduceEqDiff],_,v1,ua,ra,ca,(mHZ.trans mZ).step mW J fun n hn=>.inr (by simp only[zA5]at hn; omega),by show y+1<=W.next; omega,kW0,(mW.bk lw t6).trans kz1,wW,by rw[O]; exact V8.f hga fun n hn=>zF8 _ hn⟩
 clear C A E;rintro E Z ⟨C,A,g9,F,v,uo,rr,cc,mZ,zl,bZ0,bZ1,w,gf⟩;obtain⟨NR,hNR⟩:=ac (nA g h r c);have hnl:=Bn (h:=h) hgh u;rw[hNR]at gf hnl;have hneN:∀ l∈NR,l≠[]:=fun l hl e=>by have h3:=hnl.2 l hl;rw[e,zB4]at h3;have:=ok1.w1;omega
 have okZ:=mZ.ok J;have gf2:rS y F Z u2 h:=((h2.r hh0).f hHN).df mZ
 obtain⟨zz,hzz⟩:∃ n,Z.next=n:=⟨_,rfl⟩
 have lz1:x+1<zz:=by omega
 have bZ1':=bZ1;rw[e2]at bZ1';rw[show Z=ext Z [] from rfl];simp only[A,hzz,lz1,bZ1',zW,Nat.reduceLT];refine da fun j hE=>?_;have r2':j 2=li (a9 ⟨x+0,0,bi⟩):=by rw[hE]; simp only[C,aF,Nat.reduceEqDiff]
 have r3':j 3=li (a9 ⟨x+1,0,bi⟩):=by rw[hE]; simp only[A,aF,Nat.reduceEqDiff]
 have r9':j 9=li (a9 ⟨y+0,0,bi⟩):=by rw[hE]; simp only[g9,aF,Nat.reduceEqDiff]
 have r73:j 73=u2:=by rw[hE,e2]; simp only[aF,Nat.reduceEqDiff]
 have r74:j 74=jp kw (h.length:Int):=by rw[hE]; rfl
 have r75:j 75=jp kw ((0:Nat):Int):=by rw[hE]; rfl
 clear hE C A g9 E;obtain⟨L,hL⟩:=ac (so.toList++lH 0 NR h Dj);have hsl:so.toList.length<=1:=by cases so<;>simp
 refine aS (fun j Y=>j 3=li (a9 ⟨x+1,0,bi⟩)/\j 9=li (a9 ⟨y+0,0,bi⟩)/\Mod [] H Y/\y+1<=Y.next/\bk Y (x+1)=a9 ⟨41,ci,[u2,jp kw r2,jp kw c2]⟩/\∃ v k,fq y F Y (y+0) v L k/\L.length<=19000) ?_ ?_
 .refine cp (fun (q:Nat × go × List Op × Lk) j Y=>j 2=li (a9 ⟨x+0,0,bi⟩)/\j 3=li (a9 ⟨x+1,0,bi⟩)/\j 9=li (a9 ⟨y+0,0,bi⟩)/\j 73=u2/\j 74=jp kw (h.length:Int)/\j 75=jp kw (q.1:Int)/\iQ y F Z Y/\fq y F Y (y+0) q.2.1 q.2.2.1 q.2.2.2/\q.1<=h.length/\q.2.2.1++lH q.1 (NR.drop q.1) (h.drop q.1) q.2.2.2=L/\q.2.2.1.length<=1+q.1*302) (fun q=>h.length-q.1) (0,v,so.toList,Dj)
   ⟨r2',r3',r9',r73,r74,r75,iQ.refl,w,zB7 _,by simp only[zD0]; exact hL,by simp only; omega⟩ ?_
  clear r2' r3' r9' r73 r74 r75 j;rintro⟨i,v,l,k⟩ E Y ⟨C,A,g9,g73,g74,g75,kY,w,hi,hL',hll⟩;simp only at g75 w hi hL' hll;have okY:=kY.ok okZ;have yn:=kY.next
  obtain⟨yy,hyy⟩:∃ n,Y.next=n:=⟨_,rfl⟩
  have bY0:=(kY.bk (n:=x+0) lw (.inl lw)).trans bZ0;have R:=(kY.bk (n:=x+1) lw (.inl lw)).trans bZ1;rw[show Y=ext Y [] from rfl];by_cases hil:i<h.length
  case neg =>
   have hc0:f7 ((i:Int)<(h.length:Int))=false:=decide_eq_false lw;rw[Oa k lw,zC7]at hL';subst hL';simp only[g74,g75,hc0,zW,Nat.reduceLT];exact ag ⟨by simp only[A,aF,Nat.reduceEqDiff],by simp only[g9,aF,Nat.reduceEqDiff],kY.mod mZ J hHN,by show y+1<=Y.next; omega,R,v,k,w,by omega⟩
  have hc0:f7 ((i:Int)<(h.length:Int))=true:=decide_eq_true lw
  obtain⟨b,hb⟩:∃ b,h[i]?=a9 b:=⟨_,zB0 hil⟩
  obtain⟨a,ha⟩:∃ a,NR[i]?=a9 a:=⟨_,zB0 lw⟩
  have hal:=hnl.2 a (zC5 ha);have hbm:=zC5 hb;have hbl:=ok2.wid b hbm;have hb60:=hhw b hbm;have hbne:=hne2 b hbm;have hane:=hneN a (zC5 ha);rw[I4 k ha hb]at hL';obtain⟨n1,o1,sp1,cp1,t1,q1,L1,ev1,k1,n1l,-,le1,tk1⟩:=gf.kp kY hneN;obtain⟨n2,o2,sp2,cp2,t2,q2,L2,ev2,k2,n2l,-,le2,tk2⟩:=gf2.kp kY hne2;rw[hyy]at n1l n2l;obtain⟨rva,hrva,rsa,hia⟩:=tk1 i a ha;obtain⟨rvb,hrvb,rsb,hib⟩:=tk2 i b hb;have i1:=fD (len:=NR.length) (n:=n1) (off:=o1) (s:=sp1) (cap:=cp1) (i:=(i:Int)) rfl lw;have i2:=fD (len:=h.length) (n:=n2) (off:=o2) (s:=sp2) (cap:=cp2) (i:=(i:Int)) rfl hil;have q1':=dG (e:=t1) (o:=q1) hrva;have q2':=dG (e:=t2) (o:=q2) hrvb;have g73':=g73;rw[ev2]at g73';have B:=bY0;rw[ev1]at B;have ly0:x+0<yy:=by omega
  obtain⟨d,I⟩:=ac (f7 (a=b));simp only[C,g73',g74,g75,hyy,hc0,i1,i2,k1,k2,n1l,n2l,q1',q2',B,ly0,cm,zW,Nat.reduceLT,Nat.reduceEqDiff];refine (nZ (ext Y []) rva rvb a b rsa.at_ rsb.at_ lw).to ?_
  cases d with
  |true =>have S:=of_decide_eq_true I;rw[if_pos S]at hL';simp only[g75,I,zD1,ba (show i<1000000 by omega),zW,Nat.reduceLT,Nat.reduceEqDiff];exact aG ⟨(i+1,v,l,k),by simp only; omega,by simp only[C,aF,Nat.reduceEqDiff],by simp only[A,aF,Nat.reduceEqDiff],by simp only[g9,aF,Nat.reduceEqDiff],by simp only[g73,aF,Nat.reduceEqDiff],by simp only[g74,aF,Nat.reduceEqDiff],by simp only[aF],kY,w,by simp only; omega,hL',by simp only; omega⟩
  |false =>have S:=of_decide_eq_false I;rw[if_neg S]at hL';simp only[C,g9,hyy,I,i1,k1,n1l,q1',B,ly0,cm,zF4,zW,Nat.reduceLT,Nat.reduceEqDiff];refine (Ug y F (ext Y []) (y+0) v rva rvb l k i a b w rsa rsb (hia hane) (hib hbne) lw hbne lw lw (Tr Q b hbm) okY (by show y<=Y.next; omega)).mono ?_;rintro _ Y2 ⟨rfl,v2,w2,k2⟩;have hlr:=Df i a b k;simp only[g75,ba (show i<1000000 by omega),zW,Nat.reduceLT,Nat.reduceEqDiff];exact aG ⟨(i+1,v2,_,_),by simp only; omega,by simp only[C,aF,Nat.reduceEqDiff],by simp only[A,aF,Nat.reduceEqDiff],by simp only[g9,aF,Nat.reduceEqDiff],by simp only[g73,aF,Nat.reduceEqDiff],by simp only[g74,aF,Nat.reduceEqDiff],by simp only[aF],kY.trans k2,w2,by simp only; omega,by simp only; rw[zC8]; exact hL',by simp only[zB3]; omega⟩
 clear r2' r3' r9' r73 r74 r75 j;rintro E Y ⟨A,g9,mY2,yl2,R,v,k,w,hll⟩;have okY2:=mY2.ok J
 obtain⟨yy,hyy⟩:∃ n,Y.next=n:=⟨_,rfl⟩
 have ly1:x+1<yy:=by omega
 have hops:tg g h r c r2 c2=L++FJ r2 c2:=by rw[tg,hso,hNR,hL]
 obtain⟨d,I⟩:=ac (f7 (r2<0));rw[show Y=ext Y [] from rfl];simp only[A,hyy,ly1,R,I,zW,Nat.reduceLT,Nat.reduceAdd];refine fB (fun j X=>j 9=li (a9 ⟨y+0,0,bi⟩)/\Mod [] H X/\y+1<=X.next/\∃ v k,fq y F X (y+0) v (tg g h r c r2 c2) k) ?_ ?_
 .cases d with
  |true =>have S:=of_decide_eq_true I;rw[hops,FJ,if_pos S];simp only[g9,zW,Nat.reduceLT,Nat.reduceEqDiff];refine (tU y F (ext Y []) (y+0) v L k (PO 8) w okY2 lw (by show y<=Y.next; omega)).mono ?_;rintro _ X ⟨rfl,v2,w2,k2⟩;replace k2:iQ y F Y X:=k2;have:=k2.next;simp only[gV,Nat.reduceLT];exact ag ⟨by simp only[g9,aF,Nat.reduceEqDiff],k2.mod mY2 J hHN,by omega,v2,k,w2⟩
  |false =>have S:=of_decide_eq_false I;rw[hops,FJ,if_neg S];simp only[A,g9,hyy,ly1,R,zW,Nat.reduceLT,Nat.reduceAdd,Nat.reduceEqDiff];refine (tU y F (ext Y []) (y+0) v L k (R3 r2 c2) w okY2 lw (by show y<=Y.next; omega)).mono ?_;rintro _ X ⟨rfl,v2,w2,k2⟩;replace k2:iQ y F Y X:=k2;have hxn:=k2.next;have okX:=k2.ok okY2;rw[show X=ext X [] from rfl];simp only[g9,zW,Nat.reduceLT,Nat.reduceEqDiff];refine (tU y F (ext X []) (y+0) v2 _ k (PO 7) w2 okX (by rw[zB3]; simp only[zI0]; omega) (by show y<=X.next; omega)).mono ?_;rintro _ X3 ⟨rfl,v3,w3,k3⟩;replace k3:iQ y F X X3:=k3;have hxn3:=k3.next;rw[zC8]at w3;simp only[gV,Nat.reduceLT];exact ag ⟨by simp only[g9,aF,Nat.reduceEqDiff],(k2.trans k3).mod mY2 J hHN,by omega,v3,k,w3⟩
 clear A g9 E;rintro E X ⟨g9,mX,xl,v,k,w⟩
 obtain⟨xx,hxx⟩:∃ n,X.next=n:=⟨_,rfl⟩
 have lx:y+0<xx:=by omega
 have wc:=w.cell;rw[show X=ext X [] from rfl];simp only[g9,hxx,lx,wc,Tryz.results22,zW,Nat.reduceLT,Nat.reduceEqDiff];exact⟨mX,v,by rw[hV4],by rw[hV4]; exact w.ops,fun n hn=>by have:=(w.ids n hn).1; omega⟩
def iN.gH{H G:aa}{v:go}{l:List Ce}(h:iN H v l)(c:H.next<=G.next)(d:∀ n,n<H.next->H.get n≠bi->G.get n=H.get n):iN G v l :=
 h.imp id fun⟨e,a⟩=>⟨e,a.of c fun n b=>d n (a.ne n b).2 (a.ne n b).1⟩
def fP.gH{H G:aa}{v:go}{g:List (List Ce)}(h:fP H v g)(c:H.next<=G.next)(d:∀ n,n<H.next->H.get n≠bi->G.get n=H.get n):fP G v g :=
 h.imp id fun⟨f,a,i,b,j⟩=>⟨f,a,i,b.of c fun n e=>d n (b.ne n e).2 (b.ne n e).1,fun k row l=>let ⟨rv,m,o⟩:=j k row l; ⟨rv,m,o.gH c d⟩⟩
def sT{W:Nat}:∀(g h:List (List Ce))(i:Nat)(p:Lk),(∀ l∈h,l.length<=W)->(lH i g h p).length<=h.length*(3*W+2)
 |[],h,i,p,_=>by cases h<;>simp[lH]
 |_::_,[],i,p,_=>by simp[lH]
 |a::g,b::h,i,p,c=>by
  have f:=sT g h (i+1) p fun l d=>c l (zB9 _ d);have j:=sT g h (i+1) (oc i a b p).2 fun l d=>c l (zB9 _ d);have k:=Df i a b p;have m:=c b nl;have e:(b::h).length*(3*W+2)=h.length*(3*W+2)+(3*W+2):=by rw[zA9,Nat.succ_mul]
  rw[lH,e];split
  .omega
  .rw[zB3]; omega
def CT{g h:List (List Ce)}{r c r2 c2:Int}{W:Nat}(a:∀ l∈h,l.length<=W):(tg g h r c r2 c2).length<=h.length*(3*W+2)+3:=by
 have b:=sT (nA g h r c) h 0 Dj a;have d:(gT g h).toList.length<=1:=by cases gT g h<;>simp
 have e:(FJ r2 c2).length<=2:=by unfold FJ; split<;>simp
 simp only[tg,zB3];omega
end Go.Proofs.YtpohjcacnkhnkaaGreatDoor
namespace Go.Ax
def sE(H:aa):List Nat:=(List.range H.next).filter fun n=>(H.get n).isSome
def LK{H:aa}:∀ n∈sE H,H.get n≠none:=fun n a=>by have:=(List.mem_filter.1 a).2;intro h;rw[h]at this;cases this
def LZ{H:aa}:∀ n∈sE H,n<H.next:=fun n a=>zF7.1 (List.mem_filter.1 a).1
def Fi{H:aa}{n:Nat}(a:n<H.next):(H.restrict (sE H)).get n=H.get n:=by
 rw[aU];split
 .rfl
 .rename_i h
  cases b:H.get n with
  |none=>rfl
  |some o=>exact absurd (List.mem_filter.2 ⟨zF7.2 a,by rw[b]; rfl⟩) h
def GC{H a Z:aa}(e:Mod [] (H.restrict (sE H)) a)(f:∀ n∈sE H,Z.get n=a.get n)(h:∀ n,H.next<=n->n<a.next->Z.get n=a.get n):∀ n,n<a.next->a.get n≠bi->Z.get n=a.get n:=fun n i cn=>by
 have b:=aK H (sE H);by_cases d:n∈sE H
 .exact f n d
 .rcases zC0 n H.next with c|hge
  .refine absurd ?_ cn;rw[e.get n (by rw[b.1]; exact c) nl,aU,if_neg d]
  .exact h n hge i
end Go.Ax
namespace Go.Proofs.YtpohjcacnkhnkaaGreatDoor.Tq
open Go.Ax
def Live.same{H K:aa}{p:Rp}{x:Tm}(l:Live H p x)(b:K.next=H.next)(c:∀ n,n<H.next->K.get n=H.get n):Live K p x:=by have d:=bg (c 0 l.tb.l0);have e:=bg (c 1 l.tb.l1);exact⟨l.at_.of (zF6 b.symm) fun n h=>c n (l.at_.lt n h),l.sz,⟨fun a j=>by rw[d]; exact l.tb.f a j,fun i hi=>by rw[e]; exact l.tb.a i hi,by rw[b]; exact l.tb.l0,by rw[b]; exact l.tb.l1⟩,l.p0,l.p1,l.pl⟩
def NF{N:Nat}{H:aa}{n w h:Nat}{b:List (Nat × Bool)}{g:List (List Ce)}(o:Nz N H (lm (a9 ⟨n,0,bi⟩) h h) w b g)(B:g.length=h)(m:b.length=h)(D:1<=h)(w1:1<=w)(C:∀ l∈g,l.length=w):fP H (lm (a9 ⟨n,0,bi⟩) h h) (iW g):=by
 have u:bk H n=a9 ⟨56,bv,b.map (bE w)⟩:=by
  rcases o.at_ with⟨e,_⟩|⟨_,E,e,p⟩
  .rw[e]at m; simp at m; omega
  .simp only[Value.slice.injEq,i8,Addr.mk.injEq,and_true]at e;rw[e.1]; exact p
 have q:=o.blk n pm;have a:(iW g).length=h:=by rw[iW,zE1,B]
 refine .inr ⟨fun e=>by rw[e]at a; simp at a; omega,b.map (bE w),by rw[zE1,a,m],⟨n,0,bi,0,56,bv,b.map (bE w),by rw[a,zD5],.inr ⟨rfl,_,u⟩,iq u,q.2.1,by rw[a,zE1]; omega,?_⟩,fun k row z=>?_⟩
 .rw[zD0,zD4 (by rw[a,zE1]; omega)]
 .rw[iW,zG0,zB5]at z;obtain⟨r,j,rfl⟩:=z
  have f:k<b.length:=by
   rcases zC0 k g.length with h'|h'
   .omega
   .rw[zD3 h']at j; cases j
  have A:=zB0 f;have d:=o.row k _ r A j;have s:=C r (zC5 j);have i:=o.zt _ (List.getElem_mem f);have c:(r.map AL).length=w:=by rw[zE1,s]
  refine⟨bE w b[k],by rw[zG0,A]; rfl,.inr ⟨fun e=>by rw[e]at c; simp at c; omega,b[k].1,0,(if b[k].2 then bi else a9 0),0,77,b[k].2,a8 r,by rw[c,zD5]; rfl,?_,iq d,i.2,by rw[c,bx]; omega,?_⟩⟩
  .cases b[k].2
   .exact .inl rfl
   .exact .inr ⟨rfl,_,d⟩
  .rw[c,zD0,zD4 (by rw[bx]; omega),RQ]
def sJ(H:aa)(p:Rp)(x:Tm)(l:Live H p x)(ok:H.base<=H.next) :
  bF Tryz.prog 15 [li (a9 ⟨p.t,0,bi⟩)] H fun out Y=>∃ n,out=.ok (.agg ⟨[lm (a9 ⟨n,0,bi⟩) x.h x.h,jp kw x.dR,jp kw x.dQ]⟩)/\fP Y (lm (a9 ⟨n,0,bi⟩) x.h x.h) (iW x.aj)/\n<Y.next/\Mod [] H Y:=by
 refine (QB H p x l.at_ l.sz ok).mono ?_;rintro _ Y ⟨c,n,rfl,a,b,m⟩;exact⟨n,rfl,NF b rfl a l.sz.h1 l.sz.w1 l.sz.ws,(b.blk n pm).2.1,m⟩
structure Vi (h w:Nat) (t:Tm):Prop where
 chk:eK (iW t.aj) t.dR t.dQ=0
 hh:t.h=h
 len:(iW t.aj).length=h
 wid:di (iW t.aj)=w
 ws:∀ l∈iW t.aj,l.length=w
def CJ{h w:Nat}(b:1<=h)(e:h<=200)(w1:1<=w)(f:w<=300)(a:List UInt8):Vi h w ((Tm.new h w).feed ek a):=by
 have i:(Tm.new h w).Sz:=Dv b e w1 f;have j:(Tm.new h w).params.length<=65:=by simp[Tm.new]
 obtain⟨s,_,_⟩:=rf i j a;obtain⟨c,d⟩:=K3 i j a;rw[G7]at c;rw[L8 w b]at d;obtain⟨k,c2⟩:=Ue s (NK b e w1 f a)
 exact⟨k,c,by rw[iW,zE1]; exact c,c2.trans d,fun l n=>by
  obtain⟨m,o,rfl⟩:=zC1.1 n
  rw[zE1,s.ws m o,d]⟩
def Nj{h w:Nat}(a:1<=h)(b:h<=200)(w1:1<=w)(c:w<=1000):eK (jj h w) (-1) 0=0/\di (jj h w)=w :=
 Fy (by rw[j7]; exact a) (by rw[j7]; exact b) w1 c (fun l d=>by
  rw[zH6 d]
  exact⟨zk w,by simp⟩) (.inr ⟨rfl,rfl⟩)
def OD(H:aa)(e f:go)(g h:List (List Nu))(r c r2 c2:Int)(a b:Nat)(u:fP H e g)(w:fP H f h)(i:H.base<=H.next)(z:eK g r c=0)(j:eK h r2 c2=0)(A:g.length=a)(l2:h.length=a)(w1:di g=b)(B:di h=b)(E:a<=60)(q:b<=100)(C:∀ l∈g,l.length=b)(D:∀ l∈h,l.length=b)(k:aV H.next e=bv)(o:aV H.next f=bv) :
  bF Tryz.prog 22 [.agg ⟨[e,jp kw r,jp kw c]⟩,.agg ⟨[f,jp kw r2,jp kw c2]⟩] H fun out X=>Mod [] H X/\∃ d,out=.ok (.tuple #[d,jp kw 0])/\jP X d (tg g h r c r2 c2)/\∀ n∈ae d,H.next<=n:=by
 refine (SE H e f g h r c r2 c2 u w i lw (fun l p=>by rw[C l p]; exact q) lw (fun l p=>by rw[D l p]; exact q) k o).mono ?_;rintro out X ⟨m,d,rfl,s,hi⟩;rw[Qf z j (A.trans l2.symm) (w1.trans B.symm)]at s ⊢;exact⟨m,d,rfl,s,hi⟩
def RN(H:aa)(h w:Int)(R S:ByteArray)(t:TM H)(L:H.base<=H.next) :
  bF Tryz.prog 5 [jp kw h,jp kw w,.string R,.string S] H (fun out X=>out=.ok (ls bv)/\Mod [] H X):=by
 obtain⟨A,hA0⟩:=ac R.size;obtain⟨B,hB0⟩:=ac S.size
 have hlen:∀(Y:aa)(s:ByteArray)(n:Nat),s.size=n->aE Tryz.prog Y .len ⟨[9]⟩ [.string s]=a9 (jp kw (n:Int),Y):=fun Y s n e=>by
  have h2:Tryz.prog.underlying 9=a9 .string:=by kernel_rfl
  rw[<-e];simp only[aE,Hs,h2,zB2,goInt]
 have lnA:∀(Y:aa),aE Tryz.prog Y .len ⟨[9]⟩ [.string R]=a9 (jp kw (A:Int),Y):=fun Y=>hlen Y R A hA0;have lnB:∀(Y:aa),aE Tryz.prog Y .len ⟨[9]⟩ [.string S]=a9 (jp kw (B:Int),Y):=fun Y=>hlen Y S B hB0
 obtain⟨dA,hdA⟩:∃ d,f7 ((300:Int)<(A:Int))=d:=⟨_,rfl⟩
 obtain⟨dB,hdB⟩:∃ d,f7 ((300:Int)<(B:Int))=d:=⟨_,rfl⟩
 obtain⟨P,E⟩:∃ d,f7 ((30:Int)<h)=d:=⟨_,rfl⟩
 obtain⟨d80,I⟩:∃ d,f7 ((80:Int)<w)=d:=⟨_,rfl⟩
 refine aI mixed Tryz.func5 rfl Tryz.ntmps5 (zA7 rfl) ?_;simp (maxDischargeDepth:=6) only[zW,seval];refine (Sx (ext H []) t.2.1).to ?_
 cases J:(dA||(dB||(P||d80))) with
 |true =>
  cases dA<;>cases dB<;>cases P<;>cases d80<;>first
   |(exfalso; revert J; decide)
   | (simp (maxDischargeDepth := 6) only [lnA, lnB, hdA, hdB, E, I, Tryz.results5, zW, seval]
      exact⟨trivial,Mod.refl⟩)
 |false =>
 have hdA':dA=false:=by cases dA<;>first|rfl|(exfalso; revert J; cases dB<;>cases P<;>cases d80<;>decide)
 have hdB':dB=false:=by cases dB<;>first|rfl|(exfalso; revert J; cases dA<;>cases P<;>cases d80<;>decide)
 have hd3':P=false:=by cases P<;>first|rfl|(exfalso; revert J; cases dA<;>cases dB<;>cases d80<;>decide)
 have hd8':d80=false:=by cases d80<;>first|rfl|(exfalso; revert J; cases dA<;>cases dB<;>cases P<;>decide)
 rw[hdA']at hdA;rw[hdB']at hdB;rw[hd3']at E;rw[hd8']at I;have hA3:A<=300:=by have:=of_decide_eq_false hdA; omega
 have hB3:B<=300:=by have:=of_decide_eq_false hdB; omega
 have hh3:h<=30:=by have:=of_decide_eq_false E; omega
 have hw8:w<=80:=by have:=of_decide_eq_false I; omega
 by_cases hbad:h<1\/w<1
 .simp (maxDischargeDepth:=6) only[lnA,lnB,hdA,hdB,E,I,zW,seval];refine (Tb (ext H []) h w hbad lw).to ?_;simp (maxDischargeDepth:=6) only[seval,ne_eq,not_false_eq_true,decide_true,Tryz.results5,zW];exact⟨trivial,Mod.refl⟩
 obtain⟨h,rfl⟩:∃ n:Nat,h=n:=⟨h.toNat,by omega⟩
 obtain⟨w,rfl⟩:∃ n:Nat,w=n:=⟨w.toNat,by omega⟩
 have hAl:(ru R).length=A:=by rw[<-KI,hA0]
 have hBl:(ru S).length=B:=by rw[<-KI,hB0]
 have cvA:∀ X:aa,bB Tryz.prog (ext X []) 9 25 (.string R)=a9 (lm (a9 ⟨X.next,0,bi⟩) R.data.toList.length R.data.toList.length,ext X [⟨5,bv,ak R.data.toList⟩]):=fun X=>CK X R (by rw[show R.data.toList.length=A from hAl]; omega);have cvB:∀ X:aa,bB Tryz.prog (ext X []) 9 25 (.string S)=a9 (lm (a9 ⟨X.next,0,bi⟩) S.data.toList.length S.data.toList.length,ext X [⟨5,bv,ak S.data.toList⟩]):=fun X=>CK X S (by rw[show S.data.toList.length=B from hBl]; omega);have hr0:(Tm.new h w).rest.length=0:=by simp[Tm.new]
 have tb0:ti H:=R8 t.2.1 (by have:=t.1; omega) (by have:=t.1; omega);simp (maxDischargeDepth:=6) only[lnA,lnB,hdA,hdB,E,I,zW,seval];refine (z7 L tb0 lw lw lw lw).mono ?_;rintro _ X1 ⟨pt,rfl,lt1,m1,n1⟩;have ok1:=m1.ok L;rw[show X1=ext X1 [] from rfl];simp (maxDischargeDepth:=6) only[ne_eq,not_false_eq_true,decide_false,not_true_eq_false,zW,seval];refine (z7 ok1 lt1.tb lw lw lw lw).mono ?_;rintro _ X2 ⟨pu,rfl,lu2,m2,n2⟩;have ok2:=m2.ok ok1;have mH2:=m1.trans m2;have lt2:=lt1.quiet m2;have dut:Pj pu pt:=fun n a hm=>by have:=n2 n a; have:=lt1.at_.lt n hm; omega
 have nu2:∀ n∈pu.aM,H.next<=n:=fun n a=>zC4 m1.next (n2 n a);rw[show X2=ext X2 [] from rfl];simp (maxDischargeDepth:=6) only[bp,cvA,zW,seval];refine (CP X2 pt _ R lt2 ok2 lw).mono ?_;rintro _ X3 ⟨rfl,pt3,st3⟩;have ok3:=st3.ok ok2;have lt3:=lt2.step st3;obtain⟨VD,dut3⟩:=lu2.other st3 lt2.p0 lt2.p1 dut;have mH3:Mod [] H X3:=mH2.step st3.mod L fun n a=>.inr (n1 n a);have et3:pt3.t=pt.t:=st3.same;rw[show X3=ext X3 [] from rfl];simp (maxDischargeDepth:=6) only[bp,cvB,zW,seval];refine (CP X3 pu _ S VD ok3 lw).mono ?_;rintro _ X4 ⟨rfl,pu4,st4⟩;have ok4:=st4.ok ok3;have Wn:=VD.step st4;obtain⟨lt4,dtu4⟩:=lt3.other st4 VD.p0 VD.p1 (fun n a hm=>dut3 n hm a);have mH4:Mod [] H X4:=mH3.step st4.mod L fun n a=>.inr (nu2 n a);have eu4:pu4.t=pu.t:=st4.same;have b:=CJ (h:=h) (w:=w) lw lw lw lw (ru R);have j:=CJ (h:=h) (w:=w) lw lw lw lw (ru S);obtain⟨T,hT⟩:=ac ((Tm.new h w).feed ek (ru R));obtain⟨U,hU⟩:=ac ((Tm.new h w).feed ek (ru S));rw[hT]at b lt4;rw[hU]at j Wn
 -- the plain law
 obtain⟨cb1,cb2⟩:=Nj (h:=h) (w:=w) lw lw lw lw;obtain⟨b1,y1,hb1,sim1,e11,e12,e13,ob1⟩:=C3 (RR (h:=h) (w:=w) lw lw lw lw) rfl (h:=iW T.aj) (r:=-1) (c:=0) cb1 b.chk ((j7 h w).trans b.len.symm) cb2 b.wid lw;obtain⟨k11,k12,k13⟩:=De sim1 e11 e12 e13;have simR:=NZ sim1;obtain⟨b2,y2,hb2,sim2,e21,e22,e23,ob2⟩:=C3 simR rfl (h:=iW U.aj) (r:=T.dR) (c:=T.dQ) (r2:=U.dR) (c2:=U.dQ) (by show eK y1.aj _ _=0; rw[e11]; exact b.chk) j.chk (by show y1.aj.length=_; rw[e11]; exact b.len.trans j.len.symm) (by show di y1.aj=_; rw[e11]; exact b.wid) j.wid lw;obtain⟨k21,k22,k23⟩:=De sim2 e21 e22 e23;have hx0:(⟨List.replicate h (List.replicate w pK),-1,0,⟨0,0,ci,ci,ci⟩,0,0,ci⟩:St).aj=jj h w:=rfl;rw[hx0]at hb1 ob1;have hx1:({y1 with b7:=Dj}:St).aj=iW T.aj:=e11;rw[hx1]at hb2 ob2
 obtain⟨O1,hO1⟩:∃ O,tg (jj h w) (iW T.aj) (-1) 0 T.dR T.dQ=O:=⟨_,rfl⟩
 obtain⟨O2,hO2⟩:∃ O,tg (iW T.aj) (iW U.aj) T.dR T.dQ U.dR U.dQ=O:=⟨_,rfl⟩
 have hn1:O1.length<=7500:=by
  have:=CT (g:=jj h w) (h:=iW T.aj) (r:=-1) (c:=0) (r2:=T.dR) (c2:=T.dQ) (W:=80) fun l hl=>by rw[b.ws l hl]; omega
  rw[hO1,b.len]at this;omega
 have hn2:O2.length<=7500:=by
  have:=CT (g:=iW T.aj) (h:=iW U.aj) (r:=T.dR) (c:=T.dQ) (r2:=U.dR) (c2:=U.dQ) (W:=80) fun l hl=>by rw[j.ws l hl]; omega
  rw[hO2,j.len]at this;omega
 rw[hO1]at hb1 ob1;rw[hO2]at hb2 ob2;have bl1:=vD (fun o ho=>(ob1 o ho).1) hb1;have bl2:=vD (fun o ho=>(ob2 o ho).1) hb2
 -- the blank screen
 rw[show X4=ext X4 [] from rfl];simp (maxDischargeDepth:=6) only[zW,seval];refine (Ib h w lw lw lw lw (ext X4 []) ok4).mono ?_;rintro out X5 ⟨q,rvs,rfl,hq,gr,m5⟩;have ok5:=m5.ok ok4;obtain⟨x,hx⟩:=ac X5.next;have xb:X5.base<=x:=hx▸ok5;have hq':=hq;rw[hx]at hq;rw[show X5=ext X5 [] from rfl];simp (maxDischargeDepth:=6) only[hx,xb,hq,zW,seval]
 obtain⟨X6,hX6⟩:∃ X,ext X5 [⟨41,ci,[lm (a9 ⟨q,0,bi⟩) h h,jp kw (-1),jp kw 0]⟩]=X:=⟨_,rfl⟩
 have m6:Mod [] X5 X6:=hX6▸Mod.ext ok5;have ok6:=m6.ok ok5;have nx6:X6.next=x+1:=by rw[<-hX6,ai,hx]; rfl
 have k6:bk X6 (x+0)=a9 ⟨41,ci,[lm (a9 ⟨q,0,bi⟩) h h,jp kw (-1),jp kw 0]⟩:=by rw[<-hX6,aZ hx nl]; rfl
 have gB6:fP X6 (lm (a9 ⟨q,0,bi⟩) h h) (jj h w):=gr.VO.df m6;have m46:Mod [] X4 X6:=m5.trans m6;have mH6:=mH4.trans m46;have lt6:=lt4.quiet m46;have lu6:=Wn.quiet m46;rw[hX6];refine (z7 ok6 lt6.tb lw lw lw lw).mono ?_;rintro _ X7 ⟨pv,rfl,lv7,m7,n7⟩;have ok7:=m7.ok ok6;have mH7:=mH6.trans m7;have lt7:=lt6.quiet m7;have lu7:=lu6.quiet m7;have dvt:Pj pv pt3:=fun n a hm=>by have:=n7 n a; have:=lt6.at_.lt n hm; omega
 have dvu:Pj pv pu4:=fun n a hm=>by have:=n7 n a; have:=lu6.at_.lt n hm; omega
 have nv7:∀ n∈pv.aM,H.next<=n:=fun n a=>zC4 mH6.next (n7 n a);obtain⟨z,hz7⟩:=ac X7.next;have hmz:=m7.next;have lx:x+0<z:=by omega
 have k7:=(m7.bk (show x+0<X6.next by omega) nl).trans k6;have gB7:=gB6.df m7;rw[show X7=ext X7 [] from rfl];simp (maxDischargeDepth:=6) only[zW,seval];refine aQ [(3,0),(3,1),(3,2),(4,2),(4,3),(5,2),(5,3),(6,2),(6,3),(7,2),(7,3),(8,2),(8,3)] [] m9 m9 rfl fun ops anc hA hG=>?_;simp only[aw]at hA;simp (maxDischargeDepth:=6) only[hz7,lx,k7,bS,zW,seval];have hrn:=aK X7 (sE X7);have hK7:∀ n,n<X7.next->(X7.restrict (sE X7)).get n=X7.get n:=fun n a=>Fi a;obtain⟨_,gg,hc,nt,rfl,gt,lnt,mt⟩:=sJ (X7.restrict (sE X7)) pt3 T (lt7.same hrn.1 hK7) (by rw[hrn.1,hrn.2.1]; exact zA4 _);rw[et3]at hc;refine mi (H:=ext X7 []) (W:=[]) (sE X7) ok7 rfl m9 LK LZ (fun _ h=>by simp at h) (v:=.agg ⟨[lm (a9 ⟨nt,0,bi⟩) T.h T.h,jp kw T.dR,jp kw T.dQ]⟩) (g:=gg) (by simp only[aF]; exact hc) mt (by simp[]) ?_;intro C D mC hFC hNC hnC hD;have hD0:D=[]:=List.eq_nil_iff_forall_not_mem.2 (fun q hq=>by simpa using hD q hq);subst hD0;replace mC:Mod [] X7 C:=mC;have okC:=mC.ok ok7;have mHC:=mH7.trans mC;have gTC:fP C (lm (a9 ⟨nt,0,bi⟩) T.h T.h) (iW T.aj):=gt.gH (zF6 hnC.symm) (GC mt hFC hNC);have lntC:nt<C.next:=by rw[hnC]; exact lnt
 have gBC:=gB7.df mC;obtain⟨c,hc'⟩:=ac (C.next);have hcz:=mC.next;have lqc:q<C.next:=by omega
 rw[show C=ext C [] from rfl];simp (maxDischargeDepth:=6) only[bS,gV,seval];have hrC:=aK C (sE C);have hKC:∀ n,n<C.next->C.get n≠bi->(C.restrict (sE C)).get n=C.get n:=fun n a _=>Fi a;obtain⟨_,g3,hc3,m3,v1,rfl,ow1,hi1⟩:=OD (C.restrict (sE C)) (lm (a9 ⟨q,0,bi⟩) h h) (lm (a9 ⟨nt,0,bi⟩) T.h T.h) (jj h w) (iW T.aj) (-1) 0 T.dR T.dQ h w (gBC.gH (zF6 hrC.1.symm) hKC) (gTC.gH (zF6 hrC.1.symm) hKC) (by rw[hrC.1,hrC.2.1]; exact zA4 _) cb1 b.chk (j7 h w) b.len cb2 b.wid lw lw (fun l hl=>by rw[zH6 hl]; simp) b.ws (by rw[hrC.1]; exact bd lqc) (by rw[hrC.1]; exact bd lntC);rw[hO1]at ow1;refine mi (H:=ext C []) (W:=[]) (sE C) okC rfl m9 LK LZ (fun _ h=>by simp at h) (v:=.tuple #[v1,jp kw 0]) (g:=g3) (by simp only[aF,seval]; exact hc3) m3 (by simp only[aw,cG,hA,true_or,and_true]) ?_;intro Z D mZ hFZ hNZ hnZ hD;have hD0:D=[]:=List.eq_nil_iff_forall_not_mem.2 (fun q hq=>by simpa using hD q hq);subst hD0;replace mZ:Mod [] C Z:=mZ;have okZ:=mZ.ok okC;have mHZ:=mHC.trans mZ;have owZ:jP Z v1 O1:=ow1.of (zF6 hnZ.symm) fun n a=>GC m3 hFZ hNZ n (ow1.ne n a).2 (ow1.ne n a).1;have m7Z:=mC.trans mZ;have ltZ:=lt7.quiet m7Z;have luZ:=lu7.quiet m7Z;have lvZ:=lv7.quiet m7Z;obtain⟨a1,ev1⟩:=owZ.len;rw[show Z=ext Z [] from rfl];simp (maxDischargeDepth:=6) only[hA,bS,zW,seval];have hs1:=sJ Z pt3 T ltZ okZ;rw[et3]at hs1;refine hs1.mono ?_;rintro _ Y1 ⟨s1,rfl,gs1,ls1,ms1⟩;have okY1:=ms1.ok okZ;rw[show Y1=ext Y1 [] from rfl];simp (maxDischargeDepth:=6) only[zW,seval];have hs2:=sJ Y1 pu4 U (luZ.quiet ms1) okY1;rw[eu4]at hs2;refine hs2.mono ?_;rintro _ Y2 ⟨s2,rfl,gs2,ls2,ms2⟩;have okY2:=ms2.ok okY1;have ls1':s1<Y2.next:=zE0 ls1 ms2.next;rw[show Y2=ext Y2 [] from rfl];simp (maxDischargeDepth:=6) only[zW,seval];refine (OD Y2 _ _ (iW T.aj) (iW U.aj) T.dR T.dQ U.dR U.dQ h w (gs1.df ms2) gs2 okY2 b.chk j.chk b.len j.len b.wid j.wid lw lw b.ws j.ws (bd ls1') (bd ls2)).mono ?_;rintro _ Y3 ⟨ms3,v2,rfl,ow2,hi2⟩;rw[hO2]at ow2;have okY3:=ms3.ok okY2;have mZ3:Mod [] Z Y3:=(ms1.trans ms2).trans ms3;have mH3':=mHZ.trans mZ3;rw[show Y3=ext Y3 [] from rfl];simp (maxDischargeDepth:=6) only[zW,seval];refine (Ly Y3 (t.mod mH3' nl) v1 O1 (owZ.df mZ3).at_ hn1 (fun o ho=>(ob1 o ho).1) (fun o ho=>(ob1 o ho).2) (owZ.df mZ3).sc okY3).mono ?_;rintro out Y4 ⟨Q,K⟩;rw[hb1]at K;obtain⟨p1,rfl,vp1,ip1⟩:=K;have okY4:=Q.ok okY3;have mH4':=mH3'.trans Q;rw[show Y4=ext Y4 [] from rfl];simp (maxDischargeDepth:=6) only[zW,seval];refine (Ly Y4 (t.mod mH4' nl) v2 O2 (ow2.df Q).at_ hn2 (fun o ho=>(ob2 o ho).1) (fun o ho=>(ob2 o ho).2) (ow2.df Q).sc okY4).mono ?_;rintro out Y5 ⟨ms5,K⟩;rw[hb2]at K;obtain⟨p2,rfl,vp2,ip2⟩:=K;have okY5:=ms5.ok okY4;have mH5':=mH4'.trans ms5;have mZ5:Mod [] Z Y5:=(mZ3.trans Q).trans ms5;have lt5:=ltZ.quiet mZ5;have lu5:=luZ.quiet mZ5;have i:=lvZ.quiet mZ5;rw[show Y5=ext Y5 [] from rfl];simp (maxDischargeDepth:=6) only[ne_eq,not_false_eq_true,decide_false,not_true_eq_false,zW,seval];have vq1:cz Y5 5 1 p1 (ak b1) b1.length:=vp1.of ms5.next fun n a=>ms5.get n (vp1.ne n a).2 nl;have hlv:∀ n∈pv.aM,n<Y3.next:=fun n a=>zE0 (lvZ.at_.lt n a) mZ3.next;refine (Dr Y5 pv (Tm.new h w) p1 b1 i.at_ i.sz okY5 i.tb i.p0 i.p1 (TV vq1) (fun n a=>(vq1.ne n a).2) (fun n a hp=>by have:=hlv n hp; have:=ip1 n a; omega) (fun k=>zC4 (yE _ i.sz i.pl (by simp[Tm.new])) lw) lw i.pl).mono ?_;rintro _ W1 ⟨rfl,pv1,p⟩;have okW1:=p.ok okY5;have lvW:=i.step p;obtain⟨ltW,dtv⟩:=lt5.other p i.p0 i.p1 (fun n a hm=>dvt n hm a);obtain⟨luW,duv⟩:=lu5.other p i.p0 i.p1 (fun n a hm=>dvu n hm a);have ev1:pv1.t=pv.t:=p.same;have mW1:Mod [] H W1:=mH5'.step p.mod L fun n a=>.inr (nv7 n a);have nvW:∀ n∈pv1.aM,H.next<=n:=fun n a=>(p.new n a).elim (nv7 n) fun h=>zC4 mH5'.next h;have vq2:cz W1 5 1 p2 (ak b2) b2.length:=vp2.of p.mod.next fun n a=>p.mod.get n (vp2.ne n a).2 fun hp=>by have:=hlv n hp; have:=ip2 n a; have:=Q.next; omega
 have hd2:∀ n∈ae p2,n∉pv1.aM:=fun n a hp=>by
  rcases p.new n hp with h1|h1
  .have:=hlv n h1; have:=ip2 n a; have:=Q.next; omega
  .have:=(vp2.ne n a).2; omega
 obtain⟨V1,hV1⟩:∃ V,(Tm.new h w).feed ek b1=V:=⟨_,rfl⟩
 rw[hV1]at lvW sim1 k11 k12 k13 simR sim2 k21 k22 k23;have hW0:∀ l∈iW V1.aj,l.length<1000000:=fun l hl=>by rw[k11]at hl; rw[b.ws l hl]; omega
 have hW0l:(iW V1.aj).length<1000000:=by rw[k11,b.len]; omega
 rw[show W1=ext W1 [] from rfl];simp (maxDischargeDepth:=6) only[zW,seval];have hq1:=sJ W1 pv1 V1 lvW okW1;rw[ev1]at hq1;refine hq1.mono ?_;rintro _ W2 ⟨r1,rfl,gr1,lr1,mr1⟩;have okW2:=mr1.ok okW1;rw[show W2=ext W2 [] from rfl];simp (maxDischargeDepth:=6) only[zW,seval];have hq2:=sJ W2 pt3 T (ltW.quiet mr1) okW2;rw[et3]at hq2;refine hq2.mono ?_;rintro _ W3 ⟨r2,rfl,gr2,lr2,mr2⟩;have okW3:=mr2.ok okW2;have m13:=mr1.trans mr2;have mW3:=mW1.trans m13;have hss:=Go.Proofs.YtpohjcacnkhnkaaGreatDoor.rY W3 _ _ (iW V1.aj) (iW T.aj) V1.dR V1.dQ T.dR T.dQ (gr1.df mr2).at_ gr2.at_ hW0l hW0;rw[decide_eq_true ⟨k11,k12,k13⟩]at hss;rw[show W3=ext W3 [] from rfl];simp (maxDischargeDepth:=6) only[zW,seval];refine (show bD _ _ _ (ext W3 []) _ (ext W3 []) from hss).to ?_;have lv3:=lvW.quiet m13;have lu3':=luW.quiet m13;have vq3:cz W3 5 1 p2 (ak b2) b2.length:=vq2.of m13.next fun n a=>m13.get n (vq2.ne n a).2 nl;obtain⟨e,he⟩:=ac W3.next;have hoc:=MZ W3 [.int .u8 27,.int .u8 91,.int .u8 109] 3 e okW3 he;simp (maxDischargeDepth:=6) only[he,bp,hoc,zW,seval]
 obtain⟨W4,hW4⟩:∃ G,ext W3 [⟨5,bv,[.int .u8 27,.int .u8 91,.int .u8 109]⟩]=G:=⟨_,rfl⟩
 have m4:Mod [] W3 W4:=hW4▸Mod.ext okW3;have okW4:=m4.ok okW3;have m:=lv3.quiet m4;have lu4':=lu3'.quiet m4;have kW4:bk W4 (e+0)=a9 ⟨5,bv,ak [27,91,109]⟩:=by rw[<-hW4,aZ he nl]; rfl
 have nW4:W4.next=e+1:=by rw[<-hW4,ai,he]; rfl
 have hfv:=Dr W4 pv1 V1 (lm (a9 ⟨e+0,0,a9 0⟩) 3 3) [27,91,109] m.at_ m.sz okW4 m.tb m.p0 m.p1 (Ak (sp:=a9 0) kW4) (fun n hn'=>by simp only[ae,zA5]at hn'; omega) (fun n hn' hp=>by simp only[ae,zA5]at hn'; have:=lv3.at_.lt n hp; omega) (fun k=>zC4 (yE _ m.sz m.pl (by rw[sim1.idle.rest]; simp)) lw) nl m.pl;rw[ev1]at hfv;rw[hW4];refine hfv.mono ?_;rintro _ W5 ⟨rfl,pv5,u⟩;have okW5:=u.ok okW4;have f:=m.step u;obtain⟨lu5',duv5⟩:=lu4'.other u m.p0 m.p1 duv;have ev5:pv5.t=pv.t:=u.same.trans ev1;have mW5:Mod [] H W5:=(mW3.trans m4).step u.mod L fun n a=>.inr (nvW n a);have nv5:∀ n∈pv5.aM,H.next<=n:=fun n a=>(u.new n a).elim (nvW n) fun h=>zC4 (mW3.trans m4).next h;have vq4:cz W4 5 1 p2 (ak b2) b2.length:=vq3.of m4.next fun n a=>m4.get n (vq3.ne n a).2 nl;have vq5:cz W5 5 1 p2 (ak b2) b2.length:=vq4.of u.mod.next fun n a=>u.mod.get n (vq4.ne n a).2 (hd2 n a)
 have hd5:∀ n∈ae p2,n∉pv5.aM:=fun n a hp=>by
  rcases u.new n hp with h1|h1
  .exact hd2 n a h1
  .have:=(vq4.ne n a).2; omega
 obtain⟨V2,hV2⟩:∃ V,V1.feed ek [27,91,109]=V:=⟨_,rfl⟩
 rw[hV2]at f simR sim2 k21 k22 k23;rw[show W5=ext W5 [] from rfl];simp (maxDischargeDepth:=6) only[zW,seval];have hf2:=Dr W5 pv5 V2 p2 b2 f.at_ f.sz okW5 f.tb f.p0 f.p1 (TV vq5) (fun n a=>(vq5.ne n a).2) hd5 (fun k=>zC4 (yE _ f.sz f.pl (by rw[simR.idle.rest]; simp)) lw) lw f.pl;rw[ev5]at hf2;refine hf2.mono ?_;rintro _ W6 ⟨rfl,pv6,sv6⟩;have okW6:=sv6.ok okW5;have lv6:=f.step sv6;obtain⟨lu6,duv6⟩:=lu5'.other sv6 f.p0 f.p1 duv5;have ev6:pv6.t=pv.t:=sv6.same.trans ev5;have mW6:Mod [] H W6:=mW5.step sv6.mod L fun n a=>.inr (nv5 n a)
 obtain⟨V3,hV3⟩:∃ V,V2.feed ek b2=V:=⟨_,rfl⟩
 rw[hV3]at lv6 sim2 k21 k22 k23;have hU0:∀ l∈iW V3.aj,l.length<1000000:=fun l hl=>by rw[k21]at hl; rw[j.ws l hl]; omega
 have hU0l:(iW V3.aj).length<1000000:=by rw[k21,j.len]; omega
 rw[show W6=ext W6 [] from rfl];simp (maxDischargeDepth:=6) only[zW,seval];have hq3:=sJ W6 pv6 V3 lv6 okW6;rw[ev6]at hq3;refine hq3.mono ?_;rintro _ W7 ⟨r3,rfl,gr3,lr3,mr3⟩;have okW7:=mr3.ok okW6;rw[show W7=ext W7 [] from rfl];simp (maxDischargeDepth:=6) only[zW,seval];have hq4:=sJ W7 pu4 U (lu6.quiet mr3) okW7;rw[eu4]at hq4;refine hq4.mono ?_;rintro _ W8 ⟨r4,rfl,gr4,lr4,mr4⟩;have hss2:=Go.Proofs.YtpohjcacnkhnkaaGreatDoor.rY W8 _ _ (iW V3.aj) (iW U.aj) V3.dR V3.dQ U.dR U.dQ (gr3.df mr4).at_ gr4.at_ hU0l hU0;rw[decide_eq_true ⟨k21,k22,k23⟩]at hss2;rw[show W8=ext W8 [] from rfl];simp (maxDischargeDepth:=6) only[zW,seval];refine (show bD _ _ _ (ext W8 []) _ (ext W8 []) from hss2).to ?_;simp (maxDischargeDepth:=6) only[Tryz.results5,zW,seval];exact⟨trivial,(mW6.trans mr3).trans mr4⟩
end Go.Proofs.YtpohjcacnkhnkaaGreatDoor.Tq
