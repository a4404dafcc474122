/- Parts of the proof, one behind the other. -/
import Derived.Test.YtaojjfebkldmnaaDoorM6
set_option linter.all false
set_option maxRecDepth 10000
set_option maxHeartbeats 16000000
open And renaming intro → zA0
open Option renaming bind_eq_bind → zA1, bind_eq_some_iff → zA2, bind_some → zA3, map_some → zA7, map_eq_some_iff → zB1
open Bool renaming and_eq_true → zA4, false_eq_true → zC2, not_true → zC8, and_self → zD1, not_false → zD6
open Nat renaming le_refl → zA5, le_of_ble_eq_true → zA9, zero_le → zB0, zero_add → zC1, lt_or_ge → zC4, lt_succ_self → zC6, add_zero → zC7, lt_of_lt_of_le → zC9, le_of_eq → zD2, le_trans → zD9, zero_mul → zE1, sub_self → zE9, eq_of_beq_eq_true → zF4
open List renaming getElem?_eq_getElem → zA6, mem_singleton → zA8, mem_cons → zB2, mem_cons_of_mem → zB3, mem_append → zB4, length_cons → zB5, length_append → zB6, map_cons → zB7, nil_append → zB8, mem_of_getElem? → zB9, all_eq_true → zC0, length_nil → zC3, eq_nil_of_length_eq_zero → zC5, append_nil → zD0, drop_zero → zD3, mem_append_left → zD4, mem_append_right → zD5, mem_cons_self → zD7, length_drop → zD8, getElem?_eq_none → zE0, getElem?_eq_some_iff → zE2, mem_flatMap → zE3, mem_of_mem_take → zE4, mem_of_mem_drop → zE5, take_of_length_le → zE6, drop_eq_nil_of_le → zE7, getD_eq_getElem?_getD → zE8, drop_eq_getElem_cons → zF0, mem_range → zF1, map_nil → zF2, cons_append → zF3, getElem?_cons_zero → zF5, length_take → zF6, take_length → zF7, flatMap_cons → zF8, getElem?_cons_succ → zF9

namespace Go.Proofs.YtaojjfebkldmnaaDoor
open Go.Ax
theorem skipR_ne (a b:List Ce):∀ f i,skipR a b i f<i+f→a[skipR a b i f]?≠b[skipR a b i f]?
 |0,i,h=>by rw[skipR]at h; omega
 |f+1,i,h=>by
  rw[skipR]at h ⊢
  by_cases hc:a[i]?=b[i]?
  ·rw[if_pos hc]at h ⊢
   exact skipR_ne a b f (i+1) (by omega)
  ·rw[if_neg hc]at h ⊢
   exact hc
theorem pieces55_c (H:AHeap) (ua ub:Value) (e:Nat) (hok:H.base≤H.next) (hsa:scb H.next ua=true) (hsb:scb H.next ub=true) (ha:one ua=true) (hb:one ub=true) :
  CallA Tryd.prog 55 [ua,ub,.int .i64 (e:Int)] H (fun out X=>out=.ok (.func (.func 78) ⟨[]⟩ ⟨[.pointer (some ⟨H.next+2,0,none⟩),.pointer (some ⟨H.next+0,0,none⟩),.pointer (some ⟨H.next+1,0,none⟩)]⟩)∧X=ext H [⟨56,false,[ua]⟩,⟨56,false,[ub]⟩,⟨3,false,[.int .i64 (e:Int)]⟩]):=by
 obtain⟨x,hx⟩:∃ x,H.next=x:=⟨_,rfl⟩
 have hxb:H.base≤x:=hx▸hok
 rw[hx]at hsa hsb ⊢
 refine callE_fn mixed Tryd.func55 rfl Tryd.ntmps55 (zA9 rfl) ?_
 simp (maxDischargeDepth:=6) only[hx,hxb,hsa,hsb,cells_sg ha,cells_sg hb,Tryd.results55,xD,ruW,putL,Nat.reduceLeDiff,xF,ruU,entryE,Nat.reduceLT,Nat.reduceAdd,Nat.reduceMul,Nat.reduceEqDiff]
 exact⟨trivial,trivial⟩
section
variable {y pe po pn e : Nat} {ua ub : Value} {a b : List Ce}
structure Rd78 (G:AHeap) (pe po pn e:Nat) (ua ub:Value) (a b:List Ce):Prop where
 ok:G.base≤G.next
 be:bk G pe=some ⟨3,false,[.int .i64 (e:Int)]⟩
 bo:bk G po=some ⟨56,false,[ua]⟩
 bn:bk G pn=some ⟨56,false,[ub]⟩
 le:pe<G.next
 lo:po<G.next
 ln:pn<G.next
 ra:RowAt G ua a
 rb:RowAt G ub b
theorem pieces78_c (H:AHeap) (I:Nat→AHeap→Prop) (hI:I 0 H) (hea:e≤a.length) (heb:e≤b.length) (hl:b.length<100000)
  (rd:∀ i G,I i G→Rd78 G pe po pn e ua ub a b)
  (step:∀ i G,I i G→(pieceR a b i e).1<(pieceR a b i e).2→CallY Tryd.prog y [.int .i64 ((pieceR a b i e).1:Int),.int .i64 ((pieceR a b i e).2:Int)] G (fun out G'=>out=.ok (.bool true)∧I (pieceR a b i e).2 G')) :
  CallA Tryd.prog 78 [.func (.yield y) ⟨[]⟩ ⟨[]⟩,.pointer (some ⟨pe,0,none⟩),.pointer (some ⟨po,0,none⟩),.pointer (some ⟨pn,0,none⟩)] H (fun out X=>out=.ok (.tuple #[])∧∃ i,I i X∧¬(pieceR a b i e).1<(pieceR a b i e).2):=by
 refine callE_fn mixed Tryd.func78 rfl Tryd.ntmps78 (zA9 rfl) ?_
 simp (maxDischargeDepth:=6) only[xD,ruW,putL,Nat.reduceLeDiff,xF,ruU,entryE,Nat.reduceLT,Nat.reduceAdd,Nat.reduceMul,Nat.reduceEqDiff]
 refine w_env fun E hE=>?_
 have g0:E 0=.func (.yield y) ⟨[]⟩ ⟨[]⟩:=by rw[hE]; simp only[ruU,entryE,Nat.reduceLT,Nat.reduceAdd,Nat.reduceMul,Nat.reduceEqDiff]
 have g1:E 1=.pointer (some ⟨pe,0,none⟩):=by rw[hE]; simp only[ruU,entryE,Nat.reduceLT,Nat.reduceAdd,Nat.reduceMul,Nat.reduceEqDiff]
 have g2:E 2=.pointer (some ⟨po,0,none⟩):=by rw[hE]; simp only[ruU,entryE,Nat.reduceLT,Nat.reduceAdd,Nat.reduceMul,Nat.reduceEqDiff]
 have g3:E 3=.pointer (some ⟨pn,0,none⟩):=by rw[hE]; simp only[ruU,entryE,Nat.reduceLT,Nat.reduceAdd,Nat.reduceMul,Nat.reduceEqDiff]
 have g5:E 5=.int .i64 ((0:Nat):Int):=by rw[hE]; (simp only[ruU,entryE,Nat.reduceLT,Nat.reduceAdd,Nat.reduceMul,Nat.reduceEqDiff]<;>rfl)
 clear hE
 refine w_loop (fun (i:Nat) E' G=>I i G∧E' 0=.func (.yield y) ⟨[]⟩ ⟨[]⟩∧E' 1=.pointer (some ⟨pe,0,none⟩)∧E' 2=.pointer (some ⟨po,0,none⟩)∧E' 3=.pointer (some ⟨pn,0,none⟩)∧E' 5=.int .i64 (i:Int)∧i≤e+1) (fun i=>e+2-i) 0
  ⟨hI,g0,g1,g2,g3,g5,zB0 _⟩ ?_
 clear g0 g1 g2 g3 g5 hI E H
 rintro i E H ⟨hI,g0,g1,g2,g3,g5,hie⟩
 obtain⟨hok,be,bo,bn,lpe,lpo,lpn,h0,h1⟩:=rd i H hI
 obtain⟨x,hx⟩:∃ x,H.next=x:=⟨_,rfl⟩
 rw[hx]at lpe lpo lpn
 obtain⟨s,hs⟩:∃ s,skipR a b i (e-i)=s:=⟨_,rfl⟩
 have hsg:=skipR_ge a b (e-i) i
 have hsn:=skipR_ne a b (e-i) i
 rw[hs]at hsg hsn
 obtain⟨t,ht⟩:∃ t,gapR a b s s 0 (e-s)=t:=⟨_,rfl⟩
 have htg:=gapR_le a b (e-s) s s 0 (zA5 _)
 rw[ht]at htg
 have hp:pieceR a b i e=(s,half9 b s t):=by simp only[pieceR,hs,ht]
 have hstep:=step i H hI
 rw[hp]at hstep
 simp only at hstep
 rw[show H=ext H [] from rfl]
 simp (maxDischargeDepth:=6) only[xD,ruW,putL,Nat.reduceLeDiff,xF,ruU,entryE,Nat.reduceLT,Nat.reduceAdd,Nat.reduceMul,Nat.reduceEqDiff]
 refine blockC_meet (fun E' H'=>H'=ext H []∧E' 0=.func (.yield y) ⟨[]⟩ ⟨[]⟩∧E' 1=.pointer (some ⟨pe,0,none⟩)∧E' 2=.pointer (some ⟨po,0,none⟩)∧E' 3=.pointer (some ⟨pn,0,none⟩)∧E' 5=.int .i64 (s:Int)) ?_ ?_
 ·refine w_loop (fun (k:Nat) E' H'=>H'=ext H []∧E' 0=.func (.yield y) ⟨[]⟩ ⟨[]⟩∧E' 1=.pointer (some ⟨pe,0,none⟩)∧E' 2=.pointer (some ⟨po,0,none⟩)∧E' 3=.pointer (some ⟨pn,0,none⟩)∧E' 5=.int .i64 (k:Int)∧k<1000000∧skipR a b k (e-k)=s) (fun k=>e-k) i ⟨rfl,g0,g1,g2,g3,g5,by omega,hs⟩ ?_
  clear g0 g1 g2 g3 g5 hs
  rintro k E H' ⟨hH,g0,g1,g2,g3,g5,hk,hsk⟩
  rw[hH]
  by_cases hke:k<e
  case neg =>
   have hc:decide ((k:Int)<(e:Int))=false:=decide_eq_false (by omega)
   rw[show e-k=0 by omega,skipR]at hsk
   simp (maxDischargeDepth:=6) only[g0,g1,g2,g3,g5,xD,ruW,putL,Nat.reduceLeDiff,xF,ruU,entryE,Nat.reduceLT,Nat.reduceAdd,Nat.reduceMul,Nat.reduceEqDiff]
   refine w_drawB [] [(3,12)] (by kernel_rfl) rfl (by kernel_rfl) fun ops anc hA hG=>?_
   simp only[all2_cons]at hG
   simp (maxDischargeDepth:=6) only[g0,g1,g2,g3,g5,hx,be,lpe,hc,hG,xD,ruD,ruW,putL,Nat.reduceLeDiff,xF,ruU,entryE,Nat.reduceLT,Nat.reduceAdd,Nat.reduceMul,Nat.reduceEqDiff]
   exact joinR_normal ⟨rfl,by simp only[g0,ruU,entryE,Nat.reduceLT,Nat.reduceAdd,Nat.reduceMul,Nat.reduceEqDiff],by simp only[g1,ruU,entryE,Nat.reduceLT,Nat.reduceAdd,Nat.reduceMul,Nat.reduceEqDiff],by simp only[g2,ruU,entryE,Nat.reduceLT,Nat.reduceAdd,Nat.reduceMul,Nat.reduceEqDiff],by simp only[g3,ruU,entryE,Nat.reduceLT,Nat.reduceAdd,Nat.reduceMul,Nat.reduceEqDiff],by simp only[g5,ruU,entryE,Nat.reduceLT,Nat.reduceAdd,Nat.reduceMul,Nat.reduceEqDiff]; rw[hsk]⟩
  have hc:decide ((k:Int)<(e:Int))=true:=decide_eq_true (by omega)
  rw[show e-k=(e-(k+1))+1 by omega,skipR]at hsk
  rcases id h0 with⟨h,_⟩|⟨_,n1,o1,s1,x1,t1,p1,L1,ev0,b1,n1l,le1,tk1⟩
  ·rw[h]at hea; simp at hea; omega
  rcases id h1 with⟨h,_⟩|⟨_,n2,o2,s2,x2,t2,p2,L2,ev1,b2,n2l,le2,tk2⟩
  ·rw[h]at heb; simp at heb; omega
  obtain⟨r1,hr1⟩:∃ r,a[k]?=some r:=⟨_,zA6 (by omega)⟩
  obtain⟨r2,hr2⟩:∃ r,b[k]?=some r:=⟨_,zA6 (by omega)⟩
  have i1:=row_ia (n:=n1) (off:=o1) (s:=s1) (cap:=x1) (len:=a.length) (i:=(k:Int)) rfl (by omega)
  have i2:=row_ia (n:=n2) (off:=o2) (s:=s2) (cap:=x2) (len:=b.length) (i:=(k:Int)) rfl (by omega)
  have q1:=row_load (e:=t1) (o:=p1) hr1 le1 tk1
  have q2:=row_load (e:=t2) (o:=p2) hr2 le2 tk2
  rw[hx]at n1l n2l
  rw[hr1,hr2]at hsk
  have bo':=bo
  have bn':=bn
  rw[ev0]at bo'
  rw[ev1]at bn'
  obtain⟨d,hd⟩:∃ d,decide (r1=r2)=d:=⟨_,rfl⟩
  simp (maxDischargeDepth:=6) only[g0,g1,g2,g3,g5,xD,ruW,putL,Nat.reduceLeDiff,xF,ruU,entryE,Nat.reduceLT,Nat.reduceAdd,Nat.reduceMul,Nat.reduceEqDiff]
  refine w_drawB [] [(3,12)] (by kernel_rfl) rfl (by kernel_rfl) fun ops anc hA hG=>?_
  simp only[all2_cons]at hG
  simp (maxDischargeDepth:=6) only[g0,g1,g2,g3,g5,hx,be,lpe,bo',lpo,bn',lpn,hc,hG,i1,i2,b1,b2,n1l,n2l,q1,q2,qk_old,Ce.val,xD,ruD,ruW,putL,Nat.reduceLeDiff,xF,ruU,entryE,Nat.reduceLT,Nat.reduceAdd,Nat.reduceMul,Nat.reduceEqDiff]
  refine wd_eqS (ts:=[3,3,3,4,4,4]) (xs:=r1.cells) (ys:=r2.cells) (r:=d) fl55 ag55 gd55 (by rw[ce_eqL,hd]; rfl) (by simp only[ruU,entryE,Nat.reduceLT,Nat.reduceAdd,Nat.reduceMul,Nat.reduceEqDiff]) (by simp only[ruU,entryE,Nat.reduceLT,Nat.reduceAdd,Nat.reduceMul,Nat.reduceEqDiff]) (by decide) (by simp only[ruU,entryE,Nat.reduceLT,Nat.reduceAdd,Nat.reduceMul,Nat.reduceEqDiff]; rfl) (by simp only[ruU,entryE,Nat.reduceLT,Nat.reduceAdd,Nat.reduceMul,Nat.reduceEqDiff]; rfl) (ce_fits _) (ce_fits _) ?_
  cases d with
  |true =>
   rw[of_decide_eq_true hd,if_pos rfl]at hsk
   simp (maxDischargeDepth:=6) only[g0,g1,g2,g3,g5,hG,wrap_succ hk,xD,ruD,ruW,putL,Nat.reduceLeDiff,xF,ruU,entryE,Nat.reduceLT,Nat.reduceAdd,Nat.reduceMul,Nat.reduceEqDiff]
   refine loopC_next ⟨k+1,by omega,rfl,?_,?_,?_,?_,?_,by omega,hsk⟩<;>simp only[g0,g1,g2,g3,g5,ruU,entryE,Nat.reduceLT,Nat.reduceAdd,Nat.reduceMul,Nat.reduceEqDiff]
  |false =>
   have hne:=of_decide_eq_false hd
   rw[if_neg (fun e=>hne (Option.some.inj e))]at hsk
   simp (maxDischargeDepth:=6) only[g0,g1,g2,g3,g5,hG,xD,ruD,ruW,putL,Nat.reduceLeDiff,xF,ruU,entryE,Nat.reduceLT,Nat.reduceAdd,Nat.reduceMul,Nat.reduceEqDiff]
   exact joinR_normal ⟨rfl,by simp only[g0,ruU,entryE,Nat.reduceLT,Nat.reduceAdd,Nat.reduceMul,Nat.reduceEqDiff],by simp only[g1,ruU,entryE,Nat.reduceLT,Nat.reduceAdd,Nat.reduceMul,Nat.reduceEqDiff],by simp only[g2,ruU,entryE,Nat.reduceLT,Nat.reduceAdd,Nat.reduceMul,Nat.reduceEqDiff],by simp only[g3,ruU,entryE,Nat.reduceLT,Nat.reduceAdd,Nat.reduceMul,Nat.reduceEqDiff],by simp only[g5,ruU,entryE,Nat.reduceLT,Nat.reduceAdd,Nat.reduceMul,Nat.reduceEqDiff]; rw[hsk]⟩
 clear g0 g1 g2 g3 g5
 rintro E H' ⟨hH,g0,g1,g2,g3,g5⟩
 rw[hH]
 by_cases hse:s<e
 case neg =>
  have hc:decide ((e:Int)≤(s:Int))=true:=decide_eq_true (by omega)
  have hc':decide ((s:Int) ≥ (e:Int))=true:=decide_eq_true (by omega)
  simp (maxDischargeDepth:=6) only[g0,g1,g2,g3,g5,hx,be,lpe,hc,hc',Tryd.results78,xD,ruW,putL,Nat.reduceLeDiff,xF,ruU,entryE,Nat.reduceLT,Nat.reduceAdd,Nat.reduceMul,Nat.reduceEqDiff]
  refine⟨trivial,i,hI,?_⟩
  rw[hp,half9]
  rw[show e-s=0 by omega,gapR]at ht
  subst ht
  rw[if_neg (fun h=>Nat.lt_irrefl _ h.1)]
  exact Nat.lt_irrefl _
 have hc:decide ((e:Int)≤(s:Int))=false:=decide_eq_false (by omega)
 have hc':decide ((s:Int) ≥ (e:Int))=false:=decide_eq_false (by omega)
 have hns:=hsn (by omega)
 rw[show e-s=(e-(s+1))+1 by omega,gapR,if_pos (by omega),if_neg hns]at ht
 have htg2:=gapR_le a b (e-(s+1)) (s+1) (s+1) 0 (zA5 _)
 rw[ht]at htg2
 simp (maxDischargeDepth:=6) only[g0,g1,g2,g3,g5,hx,be,lpe,hc,hc',wrap_succ (show s<1000000 by omega),xD,ruW,putL,Nat.reduceLeDiff,xF,ruU,entryE,Nat.reduceLT,Nat.reduceAdd,Nat.reduceMul,Nat.reduceEqDiff]
 refine w_env fun E' hE=>?_
 have r0:E' 0=.func (.yield y) ⟨[]⟩ ⟨[]⟩:=by rw[hE]; simp only[g0,ruU,entryE,Nat.reduceLT,Nat.reduceAdd,Nat.reduceMul,Nat.reduceEqDiff]
 have r1:E' 1=.pointer (some ⟨pe,0,none⟩):=by rw[hE]; simp only[g1,ruU,entryE,Nat.reduceLT,Nat.reduceAdd,Nat.reduceMul,Nat.reduceEqDiff]
 have r2:E' 2=.pointer (some ⟨po,0,none⟩):=by rw[hE]; simp only[g2,ruU,entryE,Nat.reduceLT,Nat.reduceAdd,Nat.reduceMul,Nat.reduceEqDiff]
 have r3:E' 3=.pointer (some ⟨pn,0,none⟩):=by rw[hE]; simp only[g3,ruU,entryE,Nat.reduceLT,Nat.reduceAdd,Nat.reduceMul,Nat.reduceEqDiff]
 have r5:E' 5=.int .i64 (s:Int):=by rw[hE]; simp only[g5,ruU,entryE,Nat.reduceLT,Nat.reduceAdd,Nat.reduceMul,Nat.reduceEqDiff]
 have r6:E' 6=.int .i64 ((s+1:Nat):Int):=by rw[hE]; simp only[ruU,entryE,Nat.reduceLT,Nat.reduceAdd,Nat.reduceMul,Nat.reduceEqDiff]
 have r7:E' 7=.int .i64 ((0:Nat):Int):=by rw[hE]; (simp only[ruU,entryE,Nat.reduceLT,Nat.reduceAdd,Nat.reduceMul,Nat.reduceEqDiff]<;>rfl)
 have r8:E' 8=.int .i64 ((s+1:Nat):Int):=by rw[hE]; simp only[ruU,entryE,Nat.reduceLT,Nat.reduceAdd,Nat.reduceMul,Nat.reduceEqDiff]
 clear hE g0 g1 g2 g3 g5 E
 refine blockC_meet (fun E' H'=>H'=ext H []∧E' 0=.func (.yield y) ⟨[]⟩ ⟨[]⟩∧E' 1=.pointer (some ⟨pe,0,none⟩)∧E' 2=.pointer (some ⟨po,0,none⟩)∧E' 3=.pointer (some ⟨pn,0,none⟩)∧E' 5=.int .i64 (s:Int)∧E' 6=.int .i64 (t:Int)) ?_ ?_
 ·refine w_loop (fun (q:Nat × Nat × Nat) E' H'=>H'=ext H []∧E' 0=.func (.yield y) ⟨[]⟩ ⟨[]⟩∧E' 1=.pointer (some ⟨pe,0,none⟩)∧E' 2=.pointer (some ⟨po,0,none⟩)∧E' 3=.pointer (some ⟨pn,0,none⟩)∧E' 5=.int .i64 (s:Int)∧E' 8=.int .i64 (q.1:Int)∧E' 6=.int .i64 (q.2.1:Int)∧E' 7=.int .i64 (q.2.2:Int)∧q.1<1000000∧q.2.2≤8∧gapR a b q.1 q.2.1 q.2.2 (e-q.1)=t) (fun q=>e-q.1) (s+1,s+1,0) ⟨rfl,r0,r1,r2,r3,r5,r8,r6,r7,by simp only; omega,by simp,ht⟩ ?_
  clear r0 r1 r2 r3 r5 r6 r7 r8
  rintro⟨k,td,al⟩ E H' ⟨hH,g0,g1,g2,g3,g5,g8,g6,g7,hk,hal,hgk⟩
  simp only at g8 g6 g7 hk hal hgk
  rw[hH]
  by_cases hke:k<e
  case neg =>
   have hc:decide ((k:Int)<(e:Int))=false:=decide_eq_false (by omega)
   rw[show e-k=0 by omega,gapR]at hgk
   simp (maxDischargeDepth:=6) only[g0,g1,g2,g3,g5,g6,g7,g8,hx,be,lpe,hc,xD,ruW,putL,Nat.reduceLeDiff,xF,ruU,entryE,Nat.reduceLT,Nat.reduceAdd,Nat.reduceMul,Nat.reduceEqDiff]
   exact joinR_normal ⟨rfl,by simp only[g0,ruU,entryE,Nat.reduceLT,Nat.reduceAdd,Nat.reduceMul,Nat.reduceEqDiff],by simp only[g1,ruU,entryE,Nat.reduceLT,Nat.reduceAdd,Nat.reduceMul,Nat.reduceEqDiff],by simp only[g2,ruU,entryE,Nat.reduceLT,Nat.reduceAdd,Nat.reduceMul,Nat.reduceEqDiff],by simp only[g3,ruU,entryE,Nat.reduceLT,Nat.reduceAdd,Nat.reduceMul,Nat.reduceEqDiff],by simp only[g5,ruU,entryE,Nat.reduceLT,Nat.reduceAdd,Nat.reduceMul,Nat.reduceEqDiff],by simp only[g6,ruU,entryE,Nat.reduceLT,Nat.reduceAdd,Nat.reduceMul,Nat.reduceEqDiff]; rw[hgk]⟩
  have hc:decide ((k:Int)<(e:Int))=true:=decide_eq_true (by omega)
  rw[show e-k=(e-(k+1))+1 by omega,gapR]at hgk
  by_cases ha8:al<8
  case neg =>
   have hc8:decide ((al:Int)<8)=false:=decide_eq_false (by omega)
   rw[if_neg ha8]at hgk
   simp (maxDischargeDepth:=6) only[g0,g1,g2,g3,g5,g6,g7,g8,hx,be,lpe,hc,hc8,xD,ruW,putL,Nat.reduceLeDiff,xF,ruU,entryE,Nat.reduceLT,Nat.reduceAdd,Nat.reduceMul,Nat.reduceEqDiff]
   exact joinR_normal ⟨rfl,by simp only[g0,ruU,entryE,Nat.reduceLT,Nat.reduceAdd,Nat.reduceMul,Nat.reduceEqDiff],by simp only[g1,ruU,entryE,Nat.reduceLT,Nat.reduceAdd,Nat.reduceMul,Nat.reduceEqDiff],by simp only[g2,ruU,entryE,Nat.reduceLT,Nat.reduceAdd,Nat.reduceMul,Nat.reduceEqDiff],by simp only[g3,ruU,entryE,Nat.reduceLT,Nat.reduceAdd,Nat.reduceMul,Nat.reduceEqDiff],by simp only[g5,ruU,entryE,Nat.reduceLT,Nat.reduceAdd,Nat.reduceMul,Nat.reduceEqDiff],by simp only[g6,ruU,entryE,Nat.reduceLT,Nat.reduceAdd,Nat.reduceMul,Nat.reduceEqDiff]; rw[hgk]⟩
  have hc8:decide ((al:Int)<8)=true:=decide_eq_true (by omega)
  rw[if_pos ha8]at hgk
  rcases id h0 with⟨h,_⟩|⟨_,n1,o1,s1,x1,t1,p1,L1,ev0,b1,n1l,le1,tk1⟩
  ·rw[h]at hea; simp at hea; omega
  rcases id h1 with⟨h,_⟩|⟨_,n2,o2,s2,x2,t2,p2,L2,ev1,b2,n2l,le2,tk2⟩
  ·rw[h]at heb; simp at heb; omega
  obtain⟨r1,hr1⟩:∃ r,a[k]?=some r:=⟨_,zA6 (by omega)⟩
  obtain⟨r2,hr2⟩:∃ r,b[k]?=some r:=⟨_,zA6 (by omega)⟩
  have i1:=row_ia (n:=n1) (off:=o1) (s:=s1) (cap:=x1) (len:=a.length) (i:=(k:Int)) rfl (by omega)
  have i2:=row_ia (n:=n2) (off:=o2) (s:=s2) (cap:=x2) (len:=b.length) (i:=(k:Int)) rfl (by omega)
  have q1:=row_load (e:=t1) (o:=p1) hr1 le1 tk1
  have q2:=row_load (e:=t2) (o:=p2) hr2 le2 tk2
  rw[hx]at n1l n2l
  rw[hr1,hr2]at hgk
  have bo':=bo
  have bn':=bn
  rw[ev0]at bo'
  rw[ev1]at bn'
  obtain⟨d,hd⟩:∃ d,decide (r1=r2)=d:=⟨_,rfl⟩
  simp (maxDischargeDepth:=6) only[g0,g1,g2,g3,g5,g6,g7,g8,hx,be,lpe,hc,hc8,wrap_succ (show al<1000000 by omega),xD,ruW,putL,Nat.reduceLeDiff,xF,ruU,entryE,Nat.reduceLT,Nat.reduceAdd,Nat.reduceMul,Nat.reduceEqDiff]
  refine w_drawB [] [] (by kernel_rfl) rfl rfl fun ops anc hA hG=>?_
  simp (maxDischargeDepth:=6) only[g0,g1,g2,g3,g5,g6,g7,g8,hx,bo',lpo,bn',lpn,i1,i2,b1,b2,n1l,n2l,q1,q2,qk_old,Ce.val,xD,ruD,ruW,putL,Nat.reduceLeDiff,xF,ruU,entryE,Nat.reduceLT,Nat.reduceAdd,Nat.reduceMul,Nat.reduceEqDiff]
  refine wd_eqS (ts:=[3,3,3,4,4,4]) (xs:=r1.cells) (ys:=r2.cells) (r:=!d) fl55 ag55 gd55 (by rw[ce_eqL,hd]; rfl) (by simp only[ruU,entryE,Nat.reduceLT,Nat.reduceAdd,Nat.reduceMul,Nat.reduceEqDiff]) (by simp only[ruU,entryE,Nat.reduceLT,Nat.reduceAdd,Nat.reduceMul,Nat.reduceEqDiff]) (by decide) (by simp only[ruU,entryE,Nat.reduceLT,Nat.reduceAdd,Nat.reduceMul,Nat.reduceEqDiff]; rfl) (by simp only[ruU,entryE,Nat.reduceLT,Nat.reduceAdd,Nat.reduceMul,Nat.reduceEqDiff]; rfl) (ce_fits _) (ce_fits _) ?_
  cases d with
  |true =>
   rw[of_decide_eq_true hd,if_pos rfl]at hgk
   simp (maxDischargeDepth:=6) only[g0,g1,g2,g3,g5,g6,g7,g8,zC8,wrap_succ hk,xD,ruD,ruW,putL,Nat.reduceLeDiff,xF,ruU,entryE,Nat.reduceLT,Nat.reduceAdd,Nat.reduceMul,Nat.reduceEqDiff]
   refine loopC_next ⟨(k+1,td,al+1),by simp only; omega,rfl,?_,?_,?_,?_,?_,?_,?_,?_,by simp only; omega,by simp only; omega,hgk⟩<;>simp only[g0,g1,g2,g3,g5,g6,g7,g8,ruU,entryE,Nat.reduceLT,Nat.reduceAdd,Nat.reduceMul,Nat.reduceEqDiff]
  |false =>
   have hne:=of_decide_eq_false hd
   rw[if_neg (fun e=>hne (Option.some.inj e))]at hgk
   simp (maxDischargeDepth:=6) only[g0,g1,g2,g3,g5,g6,g7,g8,zD6,wrap_succ hk,xD,ruD,ruW,putL,Nat.reduceLeDiff,xF,ruU,entryE,Nat.reduceLT,Nat.reduceAdd,Nat.reduceMul,Nat.reduceEqDiff]
   refine loopC_next ⟨(k+1,k+1,0),by simp only; omega,rfl,?_,?_,?_,?_,?_,?_,?_,?_,by simp only; omega,by simp,hgk⟩<;>(try simp only[g0,g1,g2,g3,g5,g6,g7,g8,ruU,entryE,Nat.reduceLT,Nat.reduceAdd,Nat.reduceMul,Nat.reduceEqDiff])<;>rfl
 clear r0 r1 r2 r3 r5 r6 r7 r8 E'
 rintro E H' ⟨hH,g0,g1,g2,g3,g5,g6⟩
 rw[hH]
 have hst:s<t:=by omega
 have hh2:half9 b s t≤e+1∧s<half9 b s t:=by rw[half9]; split<;>omega
 rw[w_seq]
 refine w_meet (fun E' H'=>H'=ext H []∧E' 0=.func (.yield y) ⟨[]⟩ ⟨[]⟩∧E' 1=.pointer (some ⟨pe,0,none⟩)∧E' 2=.pointer (some ⟨po,0,none⟩)∧E' 3=.pointer (some ⟨pn,0,none⟩)∧E' 5=.int .i64 (s:Int)∧E' 6=.int .i64 (half9 b s t:Int)) ?_ ?_
 ·obtain⟨a1,c1,e1⟩:=h1.sl
  have bns:=bn
  rw[e1]at bns
  by_cases htb:t<b.length
  case neg =>
   have hc2:decide ((t:Int)<(b.length:Int))=false:=decide_eq_false (by omega)
   have hh:half9 b s t=t:=by rw[half9,zE0 (by omega),if_neg (fun c=>by simp at c)]
   simp (maxDischargeDepth:=6) only[g0,g1,g2,g3,g5,g6,hx,bns,lpn,hc2,xD,ruW,putL,Nat.reduceLeDiff,xF,ruU,entryE,Nat.reduceLT,Nat.reduceAdd,Nat.reduceMul,Nat.reduceEqDiff]
   exact joinR_normal ⟨rfl,by simp only[g0,ruU,entryE,Nat.reduceLT,Nat.reduceAdd,Nat.reduceMul,Nat.reduceEqDiff],by simp only[g1,ruU,entryE,Nat.reduceLT,Nat.reduceAdd,Nat.reduceMul,Nat.reduceEqDiff],by simp only[g2,ruU,entryE,Nat.reduceLT,Nat.reduceAdd,Nat.reduceMul,Nat.reduceEqDiff],by simp only[g3,ruU,entryE,Nat.reduceLT,Nat.reduceAdd,Nat.reduceMul,Nat.reduceEqDiff],by simp only[g5,ruU,entryE,Nat.reduceLT,Nat.reduceAdd,Nat.reduceMul,Nat.reduceEqDiff],by simp only[g6,ruU,entryE,Nat.reduceLT,Nat.reduceAdd,Nat.reduceMul,Nat.reduceEqDiff]; rw[hh]⟩
  have hc2:decide ((t:Int)<(b.length:Int))=true:=decide_eq_true (by omega)
  rcases id h1 with⟨h,_⟩|⟨_,n2,o2,s2,x2,t2,p2,L2,ev1,b2,n2l,le2,tk2⟩
  ·rw[h]at htb; simp at htb
  obtain⟨r2,hr2⟩:∃ r,b[t]?=some r:=⟨_,zA6 htb⟩
  have i2:=row_ia (n:=n2) (off:=o2) (s:=s2) (cap:=x2) (len:=b.length) (i:=(t:Int)) rfl htb
  have q2:=run_load (e:=t2) (o:=p2) hr2 le2 tk2
  rw[hx]at n2l
  have bn':=bn
  rw[ev1]at bn'
  obtain⟨d,hd⟩:∃ d,decide (r2.rune=-1)=d:=⟨_,rfl⟩
  have hh:half9 b s t=cond d (t+1) t:=by
   rw[half9,hr2]
   cases d with
   |true=>rw[if_pos ⟨hst,by simp[of_decide_eq_true hd]⟩]; rfl
   |false=>rw[if_neg (fun c=>of_decide_eq_false hd (by simpa using c.2))]; rfl
  rw[hh]
  cases d<;>(simp (maxDischargeDepth:=6) only[g0,g1,g2,g3,g5,g6,hx,bn',lpn,hc2,i2,b2,n2l,q2,qk_old,hd,wrap_succ (show t<1000000 by omega),xD,ruW,putL,Nat.reduceLeDiff,xF,ruU,entryE,Nat.reduceLT,Nat.reduceAdd,Nat.reduceMul,Nat.reduceEqDiff]; exact joinR_normal ⟨rfl,by simp (maxDischargeDepth:=6) only[g0,ruU,entryE,Nat.reduceLT,Nat.reduceAdd,Nat.reduceMul,Nat.reduceEqDiff],by simp (maxDischargeDepth:=6) only[g1,ruU,entryE,Nat.reduceLT,Nat.reduceAdd,Nat.reduceMul,Nat.reduceEqDiff],by simp (maxDischargeDepth:=6) only[g2,ruU,entryE,Nat.reduceLT,Nat.reduceAdd,Nat.reduceMul,Nat.reduceEqDiff],by simp (maxDischargeDepth:=6) only[g3,ruU,entryE,Nat.reduceLT,Nat.reduceAdd,Nat.reduceMul,Nat.reduceEqDiff],by simp (maxDischargeDepth:=6) only[g5,ruU,entryE,Nat.reduceLT,Nat.reduceAdd,Nat.reduceMul,Nat.reduceEqDiff],by simp (maxDischargeDepth:=6) only[g6,cond_true,cond_false,ruU,entryE,Nat.reduceLT,Nat.reduceAdd,Nat.reduceMul,Nat.reduceEqDiff]⟩)
 clear g0 g1 g2 g3 g5 g6 E
 rintro E H' ⟨hH,g0,g1,g2,g3,g5,g6⟩
 rw[hH]
 simp (maxDischargeDepth:=6) only[g0,g1,g2,g3,g5,g6,xD,ruW,putL,Nat.reduceLeDiff,xF,ruU,entryE,Nat.reduceLT,Nat.reduceAdd,Nat.reduceMul,Nat.reduceEqDiff]
 refine w_callY (l:=y) (by simp only[ruU,entryE,Nat.reduceLT,Nat.reduceAdd,Nat.reduceMul,Nat.reduceEqDiff]) (by simp only[g0,ruU,entryE,Nat.reduceLT,Nat.reduceAdd,Nat.reduceMul,Nat.reduceEqDiff]) (by simp only[ruU,entryE,Nat.reduceLT,Nat.reduceAdd,Nat.reduceMul,Nat.reduceEqDiff]) ?_
 simp only[g5,g6,ruU,entryE,Nat.reduceLT,Nat.reduceAdd,Nat.reduceMul,Nat.reduceEqDiff]
 refine (hstep hh2.2).mono ?_
 rintro _ G' ⟨rfl,hI'⟩
 rw[show G'=ext G' [] from rfl]
 simp (maxDischargeDepth:=6) only[g0,g1,g2,g3,g5,g6,zC8,xD,ruW,putL,Nat.reduceLeDiff,xF,ruU,entryE,Nat.reduceLT,Nat.reduceAdd,Nat.reduceMul,Nat.reduceEqDiff]
 refine loopC_next ⟨half9 b s t,by omega,hI',?_,?_,?_,?_,?_,hh2.1⟩<;>simp only[g0,g1,g2,g3,g5,g6,ruU,entryE,Nat.reduceLT,Nat.reduceAdd,Nat.reduceMul,Nat.reduceEqDiff]
end
section
variable {N q p : Nat} {F F' : List Nat} {H X U : AHeap} {v : Value} {l : List Op} {k : Lk}
theorem WrAt.sub (a:WrAt N F H p v l k) (h:∀ n∈F',n∈F):WrAt N F' H p v l k :=
 ⟨a.cell,a.ops,a.apart,a.lt,a.lo,fun e=>a.pF (h p e),fun n hn=>⟨(a.ids n hn).1,fun e=>(a.ids n hn).2 (h n e)⟩,fun n hn=>a.fl n (h n hn)⟩
theorem KpN.sub (m:KpN N F H X) (h:∀ n∈F',n∈F):KpN N F' H X:=let ⟨W,h1,m⟩:=m; ⟨W,fun n hn=>⟨(h1 n hn).1,fun hf=>(h1 n hn).2 (h n hf)⟩,m⟩
theorem WrAt.mores {Q:List Nat} (a:WrAt N F H p v l k) (m:Mod [] H X) (h:∀ q∈Q,H.next≤q∧q<X.next):WrAt N (Q++F) X p v l k:=by
 have a':=a.of m
 refine⟨a'.cell,a'.ops,a'.apart,a'.lt,a'.lo,fun e=>?_,fun n hn=>⟨(a.ids n hn).1,fun e=>?_⟩,fun n hn=>?_⟩
 ·rcases zB4.1 e with e|e
  ·have:=(h p e).1; have:=a.lt; omega
  ·exact a.pF e
 ·rcases zB4.1 e with e|e
  ·have:=(h n e).1; have:=(a.ops.ne n hn).2; omega
  ·exact (a.ids n hn).2 e
 ·rcases zB4.1 hn with e|e
  ·exact (h n e).2
  ·exact a'.fl n e
theorem WrAt.loop (a:WrAt N F H p v l k) (m:Mod [q] H U) (hq:q∈F):WrAt N F U p v l k :=
 ⟨(m.bk a.lt (fun e=>a.pF (by rw[zA8]at e; exact e▸hq))).trans a.cell,a.ops.of m.next fun n hn=>m.get n (a.ops.ne n hn).2 (fun e=>(a.ids n hn).2 (by rw[zA8]at e; exact e▸hq)),a.apart,m.lt a.lt,a.lo,a.pF,a.ids,fun n hn=>m.lt (a.fl n hn)⟩
theorem KpN.one (m:Mod [q] H U) (h1:N≤q) (h2:q∉F):KpN N F H U:=⟨[q],fun n hn=>by rw[zA8]at hn; subst hn; exact⟨h1,h2⟩,m⟩
theorem KpN.bk (m:KpN N F H X) {n:Nat} (hl:n<H.next) (h:n<N∨n∈F):Go.Ax.bk X n=Go.Ax.bk H n:=bk_get (m.get hl h)
end
theorem writeR_len:∀ (f:Nat) (l:List Ce) (p:Lk),(writeR f l p).1.length≤2*l.length
 |0,_,_=>by simp[writeR]
 |_+1,[],_=>by simp[writeR]
 |f+1,c::l,p=>by
  have h1:=writeR_len f ((c::l).drop (spanR c.look (c::l))) c.look
  have h2:=spanR_pos c l
  have h3:=spanR_le c.look (c::l)
  rw[zD8]at h1
  rw[writeR,zB6,zB5]
  split<;>simp only[zC3,List.length_singleton]<;>omega
theorem runsR_len (row i:Nat) (l:List Ce) (p:Lk):(runsR row i l p).1.length≤2*l.length+1:=by
 have:=writeR_len l.length l p
 simp only[runsR,zB5]
 omega
def lpR (asg bod:Code) (d:Nat):Loop:={state:=.ready,pending:=none,fn:=0,tmps:=#[],params:=⟨[30,31]⟩,assign:=asg,body:=bod,defers:=d}
theorem row_step {asg bod:Code} (hab:some (asg,bod)=Tryd.f39.body.bind rangeOf) {N:Nat} {F1:List Nat} {lp d p x0 x1 x2:Nat} {row s t:Nat} {v ub:Value} {l:List Op} {k:Lk} {b:List Ce} {E:Env} {G:AHeap}
  (g4:E 4=.pointer (some ⟨x0,0,none⟩)) (g5:E 5=.pointer (some ⟨x1,0,none⟩)) (g7:E 7=.pointer (some ⟨x2,0,none⟩))
  (hl:LoopAt G lp (lpR asg bod d) (rvOf 56 E)) (a:WrAt N (lp::F1) G p v l k) (hlF:lp∉F1) (hNlp:N≤lp)
  (b0:bk G x0=some ⟨62,false,[.pointer (some ⟨p,0,none⟩)]⟩) (b1:bk G x1=some ⟨3,false,[.int .i64 (row:Int)]⟩) (b2:bk G x2=some ⟨56,false,[ub]⟩) (hx0:x0∈F1) (hx1:x1∈F1) (hx2:x2∈F1)
  (hr:RowS G ub b) (hi:∀ n∈idsV ub,n<N∨n∈F1) (hok:G.base≤G.next) (hN:N≤G.next) (hst:s<t) (htb:t≤b.length) (hll:l.length+2*(t-s)≤80000) (hbl:b.length≤10000) (hc:∀ c∈b,c.rune≠-1→isR c.rune=true) :
  CallY Tryd.prog lp [.int .i64 (s:Int),.int .i64 (t:Int)] G (fun out G'=>out=.ok (.bool true)∧LoopAt G' lp (lpR asg bod d) (rvOf 56 E)∧∃ v',WrAt N (lp::F1) G' p v' (l++(runsR row s ((b.take t).drop s) k).1) (runsR row s ((b.take t).drop s) k).2∧KpN N F1 G G'):=by
 obtain⟨x,hx⟩:∃ x,G.next=x:=⟨_,rfl⟩
 have hlp:=a.fl lp (by simp)
 refine callY_of (H:=ext G []) (N:=56) (E:=E) mixed hl rfl (zip_two (by decide) (by decide)) ?_
 have h2:Tryd.f39.body.bind rangeOf=some (_,_):=rfl
 cases hab.trans h2
 simp (maxDischargeDepth:=6) only[ruW,putL,Nat.reduceLeDiff,xF,ruU,entryE,Nat.reduceLT,Nat.reduceAdd,Nat.reduceMul,Nat.reduceEqDiff]
 rw[asgC_normal]
 refine⟨_,_,(hl.of (ext_get_old hlp)).get,rfl,?_⟩
 rw[ext_setLoop hlp]
 generalize hG1:setLoop G lp _ _=G1
 have mG1:Mod [lp] G G1:=hG1▸Mod.upd (by simp)
 have n1:G1.next=x:=by rw[←hG1,setLoop_next,hx]
 have hl1:LoopAt G1 lp _ (rvOf 56 E):=hG1▸LoopAt.set lp _ _
 have k1:KpN N F1 G G1:=KpN.one mG1 hNlp hlF
 have a1:=a.loop mG1 (by simp)
 have lx0:=a.fl x0 (by simp[hx0])
 have lx1:=a.fl x1 (by simp[hx1])
 have lx2:=a.fl x2 (by simp[hx2])
 have b0':=(k1.bk lx0 (.inr hx0)).trans b0
 have b1':=(k1.bk lx1 (.inr hx1)).trans b1
 have b2':=(k1.bk lx2 (.inr hx2)).trans b2
 have r1:=hr.kp k1 hi
 have ok1:=k1.ok hok
 rw[hx]at lx0 lx1 lx2
 have hne:b≠[]:=fun e=>by rw[e,zC3]at htb; omega
 have hfv:∀ n∈idsV ub,(ext G1 []).get n≠none:=fun n hn=>by
  rcases r1 with⟨h,_⟩|⟨_,h⟩
  ·exact absurd h hne
  ·exact (h.ne n hn).1
 obtain⟨u1,sl1,rs1,id1,sc1⟩:=r1.slice hne (x:=some (.int .i64 (s:Int))) (y:=some (.int .i64 (t:Int))) (lo:=s) (hi:=t) (by simp[bound]) (by simp[bound]) (by omega) htb
 simp (maxDischargeDepth:=6) only[ruW,putL,Nat.reduceLeDiff,xF,ruU,entryE,Nat.reduceLT,Nat.reduceAdd,Nat.reduceMul,Nat.reduceEqDiff]
 refine w_drawP [] [] (by kernel_rfl) (by kernel_rfl) rfl rfl (fun ops anc hA hG=>?_) (by simp) ⟨rfl,rfl⟩
 simp (maxDischargeDepth:=6) only[dropLast_more,dropLast_one,g4,g5,g7,n1,b0',b1',b2',lx0,lx1,lx2,wd_slice,xD,ruD,ruW,putL,Nat.reduceLeDiff,xF,ruU,entryE,Nat.reduceLT,Nat.reduceAdd,Nat.reduceMul,Nat.reduceEqDiff]
 refine genV_sl (v:=u1) (idsV ub) rfl rfl rfl rfl (zA9 rfl) hfv (fun G hG=>by simp only[g4,g5,g7,bnds_none,bnds_some,ruU,entryE,Nat.reduceLT,Nat.reduceAdd,Nat.reduceMul,Nat.reduceEqDiff]; exact sl1 G hG) (by simp[Meets]) ?_
 simp (maxDischargeDepth:=6) only[dropLast_more,dropLast_one,g4,g5,g7,wd_slice,xD,ruD,ruW,putL,Nat.reduceLeDiff,xF,ruU,entryE,Nat.reduceLT,Nat.reduceAdd,Nat.reduceMul,Nat.reduceEqDiff]
 simp (maxDischargeDepth:=6) only[lastO_cons,lastO_one,isDef_call,ff_eq,true_and,xD,ruW,putL,Nat.reduceLeDiff,xF,ruU,entryE,Nat.reduceLT,Nat.reduceAdd,Nat.reduceMul,Nat.reduceEqDiff]
 have hcs:((b.take t).drop s).length=t-s:=by simp; omega
 refine (piece56_c N (lp::F1) (ext G1 []) p v u1 l k ((b.take t).drop s) row s a1 rs1 (fun n hn=>(hi n (id1 n hn)).imp id fun h=>zB3 _ h) ok1 (by rw[ext_next,n1,←hx]; exact hN) (by omega) (by omega) (fun c hcc=>hc c (zE4 (zE5 hcc)))).mono ?_
 rintro _ H3 ⟨rfl,v',a3,k3⟩
 replace k3:KpN N (lp::F1) G1 H3:=k3
 rw[show H3=ext H3 [] from rfl]
 simp (maxDischargeDepth:=6) only[ruW,putL,Nat.reduceLeDiff,xF,ruU,entryE,Nat.reduceLT,Nat.reduceAdd,Nat.reduceMul,Nat.reduceEqDiff]
 rw[rndC_normal]
 have hlp1:lp<G1.next:=by omega
 have hl3:=hl1.of (k3.get hlp1 (.inr (by simp)))
 have hlp3:lp<H3.next:=by have:=k3.next; omega
 refine⟨_,_,(hl3.of (G:=ext H3 []) rfl).get,rfl,LoopAt.set _ _ _,v',?_,?_⟩
 ·rw[ext_setLoop hlp3]
  exact a3.loop (q:=lp) (Mod.upd (zA8.2 rfl)) (zD7 ..)
 ·rw[ext_setLoop hlp3]
  exact (k1.trans (k3.sub fun n hn=>zB3 _ hn)).trans (KpN.one (q:=lp) (Mod.upd (zA8.2 rfl)) hNlp hlF)
theorem piecesR_none {row i e:Nat} {a b:List Ce} (h:¬(pieceR a b i e).1<(pieceR a b i e).2):∀ (f:Nat) (p:Lk),piecesR row a b e f i p=([],p)
 |0,_=>rfl
 |f+1,p=>by rw[piecesR,if_neg h]
theorem RowS.scv {H:AHeap} {v:Value} {l:List Ce} (h:RowS H v l) (hne:l≠[]):scb H.next v=true:=by
 rcases h with⟨h,_⟩|⟨_,h⟩
 ·exact absurd h hne
 ·exact h.sc
theorem RowS.one {H:AHeap} {v:Value} {l:List Ce} (h:RowS H v l):one v=true:=by
 obtain⟨a,c,rfl⟩:=h.sl
 rfl
theorem RowS.get {H:AHeap} {v:Value} {l:List Ce} (h:RowS H v l) (hne:l≠[]):∀ n∈idsV v,H.get n≠none:=fun n hn=>by
 rcases h with⟨h,_⟩|⟨_,h⟩
 ·exact absurd h hne
 ·exact (h.ne n hn).1
theorem rowW_c (N:Nat) (F:List Nat) (H:AHeap) (p:Nat) (v ua ub:Value) (l:List Op) (k:Lk) (row:Nat) (a b:List Ce) (w:WrAt N F H p v l k) (h0:RowS H ua a) (h1:RowS H ub b) (hi0:∀ n∈idsV ua,n<N∨n∈F) (hi1:∀ n∈idsV ub,n<N∨n∈F)
  (hab:a.length=b.length) (hne:b≠[]) (hbl:b.length≤10000) (hll:l.length+3*b.length≤70000) (hc:∀ c∈b,c.rune≠-1→isR c.rune=true) (hok:H.base≤H.next) (hN:N≤H.next) :
  CallA Tryd.prog 39 [.pointer (some ⟨p,0,none⟩),.int .i64 (row:Int),ua,ub] H (fun out X=>out=.ok (.tuple #[])∧∃ v',WrAt N F X p v' (l++(lineR row a b k).1) (lineR row a b k).2∧KpN N F H X):=by
 obtain⟨x,hx⟩:∃ x,H.next=x:=⟨_,rfl⟩
 have hxb:H.base≤x:=hx▸hok
 have hnea:a≠[]:=fun e=>hne (zC5 (by rw[←hab,e]; rfl))
 have hpl:=w.lt
 rw[hx]at hpl
 have hsb:=h1.scv hne
 have hsa:=h0.scv hnea
 have hob:=h1.one
 have hoa:=h0.one
 rw[hx]at hsb hsa
 have hsb':=hsb
 obtain⟨a1,c1,e1⟩:=h1.sl
 rw[e1]at hsb'
 refine callE_fn mixed Tryd.func39 rfl Tryd.ntmps39 (zA9 rfl) ?_
 rw[e1]
 simp (maxDischargeDepth:=6) only[hx,hxb,hpl,hsb',xD,ruW,putL,Nat.reduceLeDiff,xF,ruU,entryE,Nat.reduceLT,Nat.reduceAdd,Nat.reduceMul,Nat.reduceEqDiff]
 rw[←e1]
 refine w_env fun E hE=>?_
 have g2:E 2=ua:=by rw[hE]; simp only[ruU,entryE,Nat.reduceLT,Nat.reduceAdd,Nat.reduceMul,Nat.reduceEqDiff]
 have g4:E 4=.pointer (some ⟨x+0,0,none⟩):=by rw[hE]; simp only[ruU,entryE,Nat.reduceLT,Nat.reduceAdd,Nat.reduceMul,Nat.reduceEqDiff]
 have g5:E 5=.pointer (some ⟨x+1,0,none⟩):=by rw[hE]; simp only[ruU,entryE,Nat.reduceLT,Nat.reduceAdd,Nat.reduceMul,Nat.reduceEqDiff]
 have g7:E 7=.pointer (some ⟨x+2,0,none⟩):=by rw[hE]; simp only[ruU,entryE,Nat.reduceLT,Nat.reduceAdd,Nat.reduceMul,Nat.reduceEqDiff]
 have g8:E 8=.int .i64 (b.length:Int):=by rw[hE]; simp only[ruU,entryE,Nat.reduceLT,Nat.reduceAdd,Nat.reduceMul,Nat.reduceEqDiff]
 clear hE
 generalize hX:ext H _=X
 have mX:Mod [] H X:=hX▸Mod.ext hok
 have nX:X.next=x+3:=by rw[←hX,ext_next,hx]; rfl
 have okX:=mX.ok hok
 have hXb:X.base≤x+3:=nX▸okX
 have bX0:bk X (x+0)=some ⟨62,false,[.pointer (some ⟨p,0,none⟩)]⟩:=by rw[←hX,bk_at hx (by simp)]; rfl
 have bX1:bk X (x+1)=some ⟨3,false,[.int .i64 (row:Int)]⟩:=by rw[←hX,bk_at hx (by simp)]; rfl
 have bX2:bk X (x+2)=some ⟨56,false,[ub]⟩:=by rw[←hX,bk_at hx (by simp)]; rfl
 clear hX
 have lx2:x+2<x+3:=by omega
 obtain⟨T,hT⟩:∃ T,tailR b b.length=T:=⟨_,rfl⟩
 have hTl:=tailR_le b b.length
 rw[hT]at hTl
 have h1X:=h1.mod0 mX
 have h0X:=h0.mod0 mX
 refine blockC_meet (fun E' H'=>H'=ext X []∧E' 2=ua∧E' 4=.pointer (some ⟨x+0,0,none⟩)∧E' 5=.pointer (some ⟨x+1,0,none⟩)∧E' 7=.pointer (some ⟨x+2,0,none⟩)∧E' 8=.int .i64 (T:Int)) ?_ ?_
 ·refine w_loop (fun (j:Nat) E' H'=>H'=ext X []∧E' 2=ua∧E' 4=.pointer (some ⟨x+0,0,none⟩)∧E' 5=.pointer (some ⟨x+1,0,none⟩)∧E' 7=.pointer (some ⟨x+2,0,none⟩)∧E' 8=.int .i64 (j:Int)∧j≤b.length∧tailR b j=T) (fun j=>j) b.length ⟨rfl,g2,g4,g5,g7,g8,zA5 _,hT⟩ ?_
  clear g2 g4 g5 g7 g8
  rintro j E H' ⟨hH,g2,g4,g5,g7,g8,hj,ht⟩
  rw[hH]
  cases j with
  |zero =>
   have hc0:decide ((0:Int)<((0:Nat):Int))=false:=by decide
   rw[tailR]at ht
   simp (maxDischargeDepth:=6) only[g2,g4,g5,g7,g8,hc0,xD,ruW,putL,Nat.reduceLeDiff,xF,ruU,entryE,Nat.reduceLT,Nat.reduceAdd,Nat.reduceMul,Nat.reduceEqDiff]
   exact joinR_normal ⟨rfl,by simp only[g2,ruU,entryE,Nat.reduceLT,Nat.reduceAdd,Nat.reduceMul,Nat.reduceEqDiff],by simp only[g4,ruU,entryE,Nat.reduceLT,Nat.reduceAdd,Nat.reduceMul,Nat.reduceEqDiff],by simp only[g5,ruU,entryE,Nat.reduceLT,Nat.reduceAdd,Nat.reduceMul,Nat.reduceEqDiff],by simp only[g7,ruU,entryE,Nat.reduceLT,Nat.reduceAdd,Nat.reduceMul,Nat.reduceEqDiff],by simp only[g8,ruU,entryE,Nat.reduceLT,Nat.reduceAdd,Nat.reduceMul,Nat.reduceEqDiff]; rw[←ht]⟩
  |succ j =>
   have hc0:decide ((0:Int)<((j+1:Nat):Int))=true:=decide_eq_true (by omega)
   have wk:IntKind.i64.wrap (((j+1:Nat):Int)-1)=(j:Int):=(wrap_sm (by omega) (by omega)).trans (by omega)
   rcases id h1X.at_ with⟨h,_⟩|⟨_,n1,o1,s1,x1,t1,p1,L1,ev1,b1,n1l,le1,tk1⟩
   ·exact absurd h hne
   obtain⟨r1,hr1⟩:∃ r,b[j]?=some r:=⟨_,zA6 (by omega)⟩
   have i1:=row_ia (n:=n1) (off:=o1) (s:=s1) (cap:=x1) (len:=b.length) (i:=(j:Int)) rfl (by omega)
   have q1:=row_load (e:=t1) (o:=p1) hr1 le1 tk1
   rw[nX]at n1l
   rw[tailR,hr1]at ht
   have bX2':=bX2
   rw[ev1]at bX2'
   obtain⟨d,hd⟩:∃ d,decide (r1=Ce.sp)=d:=⟨_,rfl⟩
   simp (maxDischargeDepth:=6) only[g2,g4,g5,g7,g8,nX,bX2',lx2,hc0,wk,i1,b1,n1l,q1,qk_old,Ce.val,xD,ruW,putL,Nat.reduceLeDiff,xF,ruU,entryE,Nat.reduceLT,Nat.reduceAdd,Nat.reduceMul,Nat.reduceEqDiff]
   refine w_eqS (ts:=[3,3,3,4,4,4]) (xs:=r1.cells) (ys:=Ce.sp.cells) (r:=d) fl55 ag55 gd55 (by rw[ce_eqL,hd]; rfl) (by simp only[ruU,entryE,Nat.reduceLT,Nat.reduceAdd,Nat.reduceMul,Nat.reduceEqDiff]) (by simp only[ruU,entryE,Nat.reduceLT,Nat.reduceAdd,Nat.reduceMul,Nat.reduceEqDiff]) (by decide) (by simp only[ruU,entryE,Nat.reduceLT,Nat.reduceAdd,Nat.reduceMul,Nat.reduceEqDiff]; rfl) (by simp only[ruU,entryE,Nat.reduceLT,Nat.reduceAdd,Nat.reduceMul,Nat.reduceEqDiff]; rfl) (ce_fits _) (ce_fits _) ?_
   cases d with
   |true =>
    rw[of_decide_eq_true hd,if_pos rfl]at ht
    simp (maxDischargeDepth:=6) only[g2,g4,g5,g7,g8,wk,xD,ruW,putL,Nat.reduceLeDiff,xF,ruU,entryE,Nat.reduceLT,Nat.reduceAdd,Nat.reduceMul,Nat.reduceEqDiff]
    refine loopC_next ⟨j,by omega,rfl,?_,?_,?_,?_,?_,by omega,ht⟩<;>simp only[g2,g4,g5,g7,g8,wk,ruU,entryE,Nat.reduceLT,Nat.reduceAdd,Nat.reduceMul,Nat.reduceEqDiff]
   |false =>
    have hne2:=of_decide_eq_false hd
    rw[if_neg (fun e=>hne2 (Option.some.inj e))]at ht
    simp (maxDischargeDepth:=6) only[g2,g4,g5,g7,g8,wk,xD,ruW,putL,Nat.reduceLeDiff,xF,ruU,entryE,Nat.reduceLT,Nat.reduceAdd,Nat.reduceMul,Nat.reduceEqDiff]
    exact joinR_normal ⟨rfl,by simp only[g2,ruU,entryE,Nat.reduceLT,Nat.reduceAdd,Nat.reduceMul,Nat.reduceEqDiff],by simp only[g4,ruU,entryE,Nat.reduceLT,Nat.reduceAdd,Nat.reduceMul,Nat.reduceEqDiff],by simp only[g5,ruU,entryE,Nat.reduceLT,Nat.reduceAdd,Nat.reduceMul,Nat.reduceEqDiff],by simp only[g7,ruU,entryE,Nat.reduceLT,Nat.reduceAdd,Nat.reduceMul,Nat.reduceEqDiff],by simp only[g8,ruU,entryE,Nat.reduceLT,Nat.reduceAdd,Nat.reduceMul,Nat.reduceEqDiff]; rw[←ht]⟩
 clear g2 g4 g5 g7 g8 E
 rintro E H' ⟨hH,g2,g4,g5,g7,g8⟩
 rw[hH]
 clear hH H'
 simp (maxDischargeDepth:=6) only[g2,g4,g5,g7,g8,nX,bX2,lx2,xD,ruW,putL,Nat.reduceLeDiff,xF,ruU,entryE,Nat.reduceLT,Nat.reduceAdd,Nat.reduceMul,Nat.reduceEqDiff]
 have hp55:=pieces55_c (ext X []) ua ub T okX (by rw[show (ext X []).next=x+3 from nX]; exact sc_add hsa) (by rw[show (ext X []).next=x+3 from nX]; exact sc_add hsb) hoa hob
 rw[show (ext X []).next=x+3 from nX]at hp55
 refine hp55.mono ?_
 rintro _ Y ⟨rfl,hY⟩
 have mY:Mod [] X Y:=by rw[hY]; exact Mod.ext okX
 have nY:Y.next=x+6:=by rw[hY,ext_next,show (ext X []).next=x+3 from nX]; rfl
 have bY0:bk Y (x+3+0)=some ⟨56,false,[ua]⟩:=by rw[hY,bk_at (show (ext X []).next=x+3 from nX) (by simp)]; rfl
 have bY1:bk Y (x+3+1)=some ⟨56,false,[ub]⟩:=by rw[hY,bk_at (show (ext X []).next=x+3 from nX) (by simp)]; rfl
 have bY2:bk Y (x+3+2)=some ⟨3,false,[.int .i64 (T:Int)]⟩:=by rw[hY,bk_at (show (ext X []).next=x+3 from nX) (by simp)]; rfl
 clear hY hp55
 have okY:=mY.ok okX
 rw[show Y=ext Y [] from rfl]
 simp (maxDischargeDepth:=6) only[g2,g4,g5,g7,g8,xD,ruW,putL,Nat.reduceLeDiff,xF,ruU,entryE,Nat.reduceLT,Nat.reduceAdd,Nat.reduceMul,Nat.reduceEqDiff]
 refine w_env fun E' hE=>?_
 have r2:E' 2=ua:=by rw[hE]; simp only[g2,ruU,entryE,Nat.reduceLT,Nat.reduceAdd,Nat.reduceMul,Nat.reduceEqDiff]
 have r4:E' 4=.pointer (some ⟨x+0,0,none⟩):=by rw[hE]; simp only[g4,ruU,entryE,Nat.reduceLT,Nat.reduceAdd,Nat.reduceMul,Nat.reduceEqDiff]
 have r5:E' 5=.pointer (some ⟨x+1,0,none⟩):=by rw[hE]; simp only[g5,ruU,entryE,Nat.reduceLT,Nat.reduceAdd,Nat.reduceMul,Nat.reduceEqDiff]
 have r7:E' 7=.pointer (some ⟨x+2,0,none⟩):=by rw[hE]; simp only[g7,ruU,entryE,Nat.reduceLT,Nat.reduceAdd,Nat.reduceMul,Nat.reduceEqDiff]
 have r8:E' 8=.int .i64 (T:Int):=by rw[hE]; simp only[g8,ruU,entryE,Nat.reduceLT,Nat.reduceAdd,Nat.reduceMul,Nat.reduceEqDiff]
 have r29:E' 29=.func (.func 78) ⟨[]⟩ ⟨[.pointer (some ⟨x+3+2,0,none⟩),.pointer (some ⟨x+3+0,0,none⟩),.pointer (some ⟨x+3+1,0,none⟩)]⟩:=by rw[hE]; simp only[ruU,entryE,Nat.reduceLT,Nat.reduceAdd,Nat.reduceMul,Nat.reduceEqDiff]
 clear hE g2 g4 g5 g7 g8 E
 refine w_rangeK (f:=78) (ca:=[.pointer (some ⟨x+3+2,0,none⟩),.pointer (some ⟨x+3+0,0,none⟩),.pointer (some ⟨x+3+1,0,none⟩)]) okY (by decide) r29 (by kernel_rfl) fun K hlp hdf mK nK=>?_
 replace mK:Mod [] Y K:=mK []
 rw[show (ext Y []).next=x+6 from nY]at hlp hdf nK ⊢
 have hlp':∃ asg bod,LoopAt K (x+6+1) (lpR asg bod (x+6)) (rvOf 56 E')∧some (asg,bod)=Tryd.f39.body.bind rangeOf:=⟨_,_,hlp,rfl⟩
 obtain⟨asg,bod,hlp,hasg⟩:=hlp'
 have mHK:=(mX.trans mY).trans mK
 have mXK:=mY.trans mK
 have okK:=mHK.ok hok
 obtain⟨F1,hF1⟩:∃ F1,F1=[x+0,x+1,x+2,x+3+0,x+3+1,x+3+2,x+6]++F:=⟨_,rfl⟩
 have hFF:∀ n∈F,n∈F1:=fun n hn=>by rw[hF1]; exact zD5 _ hn
 have hFl:∀ n∈F1,n<x+7:=fun n hn=>by
  rw[hF1]at hn
  rcases zB4.1 hn with h|h
  ·simp only[zB2,List.not_mem_nil,or_false]at h; omega
  ·have:=w.fl n h; omega
 have hlpF:x+6+1∉F1:=fun h=>by have:=hFl _ h; omega
 have wK:WrAt N ((x+6+1)::F1) K p v l k:=by
  rw[hF1]
  refine w.mores (Q:=[x+6+1,x+0,x+1,x+2,x+3+0,x+3+1,x+3+2,x+6]) mHK fun q hq=>?_
  simp only[zB2,List.not_mem_nil,or_false]at hq
  omega
 have hm:∀ q,q=x+0∨q=x+1∨q=x+2∨q=x+3+0∨q=x+3+1∨q=x+3+2∨q=x+6→q∈F1:=fun q hq=>by
  rw[hF1]
  refine zD4 _ ?_
  simp only[zB2,List.not_mem_nil,or_false]
  exact hq
 have bK0:=(mXK.bk (n:=x+0) (by omega) (by simp)).trans bX0
 have bK1:=(mXK.bk (n:=x+1) (by omega) (by simp)).trans bX1
 have bK2:=(mXK.bk (n:=x+2) (by omega) (by simp)).trans bX2
 have bK3:=(mK.bk (n:=x+3+0) (by omega) (by simp)).trans bY0
 have bK4:=(mK.bk (n:=x+3+1) (by omega) (by simp)).trans bY1
 have bK5:=(mK.bk (n:=x+3+2) (by omega) (by simp)).trans bY2
 have h0K:=h0.mod0 mHK
 have h1K:=h1.mod0 mHK
 have hi0K:∀ n∈idsV ua,n<N∨n∈F1:=fun n hn=>(hi0 n hn).imp id (hFF n)
 have hi1K:∀ n∈idsV ub,n<N∨n∈F1:=fun n hn=>(hi1 n hn).imp id (hFF n)
 obtain⟨L,hL⟩:∃ L,l++(piecesR row a b T (b.length+1) 0 k).1=L:=⟨_,rfl⟩
 obtain⟨Kk,hKk⟩:∃ Kk,(piecesR row a b T (b.length+1) 0 k).2=Kk:=⟨_,rfl⟩
 have hline:lineR row a b k=((piecesR row a b T (b.length+1) 0 k).1++endR row a b T,Kk):=by rw[←hKk,←hT]; rfl
 rw[hline]
 simp only
 rw[←List.append_assoc,hL]
 have hrd:∀ G,KpN N F1 K G→Rd78 G (x+3+2) (x+3+0) (x+3+1) T ua ub a b:=fun G kG=>by
  have:=kG.next
  exact⟨kG.ok okK,(kG.bk (by omega) (.inr (hm _ (by omega)))).trans bK5,(kG.bk (by omega) (.inr (hm _ (by omega)))).trans bK3,(kG.bk (by omega) (.inr (hm _ (by omega)))).trans bK4,by omega,by omega,by omega,(h0K.kp kG hi0K).at_,(h1K.kp kG hi1K).at_⟩
 refine (pieces78_c K (fun i G=>LoopAt G (x+6+1) (lpR asg bod (x+6)) (rvOf 56 E')∧KpN N F1 K G∧∃ v' l' k' f,WrAt N ((x+6+1)::F1) G p v' l' k'∧l'++(piecesR row a b T f i k').1=L∧(piecesR row a b T f i k').2=Kk∧b.length+1≤f+i∧i≤b.length∧l'.length≤l.length+3*i)
  ⟨hlp,KpN.refl,v,l,k,_,wK,hL,hKk,zA5 _,zB0 _,by omega⟩ (by omega) (by omega) (by omega) (fun i G hI=>hrd G hI.2.1) (fun i G hI hlt=>?_)).mono ?_
 ·obtain⟨hlG,kG,v',l',k',f,wG,hL',hK',hf,hi,hll'⟩:=hI
  have hpl2:=pieceR_le a b i T hTl hi
  have hpg:=pieceR_ge a b i T
  obtain⟨s,hs⟩:∃ s,(pieceR a b i T).1=s:=⟨_,rfl⟩
  obtain⟨t,ht⟩:∃ t,(pieceR a b i T).2=t:=⟨_,rfl⟩
  obtain⟨f',rfl⟩:∃ f',f=f'+1:=⟨f-1,by omega⟩
  rw[piecesR,if_pos hlt]at hL' hK'
  rw[ht]at hpl2
  rw[hs,ht]at hlt hpg hL' hK' ⊢
  simp only at hL' hK'
  have hcsl:((b.take t).drop s).length=t-s:=by simp; omega
  have hrl:=runsR_len row s ((b.take t).drop s) k'
  have hkn:=kG.next
  refine (row_step hasg r4 r5 r7 hlG wG hlpF (by omega) ((kG.bk (by omega) (.inr (hm _ (by omega)))).trans bK0) ((kG.bk (by omega) (.inr (hm _ (by omega)))).trans bK1) ((kG.bk (by omega) (.inr (hm _ (by omega)))).trans bK2) (hm _ (by omega)) (hm _ (by omega)) (hm _ (by omega)) (h1K.kp kG hi1K) hi1K (kG.ok okK) (by omega) hlt hpl2 (by omega) hbl hc).mono ?_
  rintro out G' ⟨rfl,hl2,v2,w2,k2⟩
  refine⟨rfl,hl2,kG.trans k2,v2,_,_,f',w2,?_,hK',by omega,hpl2,?_⟩
  ·rw[List.append_assoc]; exact hL'
  ·rw[zB6]; omega
 rintro _ X2 ⟨rfl,i,⟨hl2,k2,v2,l2,kk,f,w2,hL2,hK2,-,hi2,hll2⟩,hni⟩
 rw[piecesR_none hni]at hL2 hK2
 simp only[zD0]at hL2 hK2
 subst hL2 hK2
 refine⟨_,_,_,hl2.get,by simp[lpR],rfl,?_⟩
 generalize hZ:setLoop X2 (x+6+1) _ _=Z
 have mZ:Mod [x+6+1] X2 Z:=hZ▸Mod.upd (by simp)
 have wZ:=w2.loop mZ (by simp)
 have kZ:KpN N F1 K Z:=k2.trans (KpN.one mZ (by omega) hlpF)
 clear hZ
 have okZ:=kZ.ok okK
 have hzn:=kZ.next
 obtain⟨z,hz⟩:∃ z,Z.next=z:=⟨_,rfl⟩
 have hzb:Z.base≤z:=hz▸okZ
 have bZ0:=(kZ.bk (by omega) (.inr (hm _ (by omega)))).trans bK0
 have bZ1:=(kZ.bk (by omega) (.inr (hm _ (by omega)))).trans bK1
 have bZ2:=(kZ.bk (by omega) (.inr (hm _ (by omega)))).trans bK2
 have lz0:x+0<z:=by omega
 have lz1:x+1<z:=by omega
 have lz2:x+2<z:=by omega
 have hdZ:Z.get (x+6)=some ⟨.deferred (some []),false,⟨[],0⟩⟩:=(kZ.get (by omega) (.inr (hm _ (by omega)))).trans hdf
 have h0Z:=h0K.kp kZ hi0K
 have h1Z:=h1K.kp kZ hi1K
 obtain⟨u0,sl0,rs0,-,-⟩:=h0Z.slice hnea (x:=some (.int .i64 (T:Int))) (y:=none) (lo:=T) (hi:=a.length) (by simp[bound]) rfl (by omega) (zA5 _)
 obtain⟨u1,sl1,rs1,-,-⟩:=h1Z.slice hne (x:=some (.int .i64 (T:Int))) (y:=none) (lo:=T) (hi:=b.length) (by simp[bound]) rfl (by omega) (zA5 _)
 rw[zF7]at rs0 rs1
 obtain⟨d,hd⟩:∃ d,decide (a.drop T=b.drop T)=d:=⟨_,rfl⟩
 rw[show Z=ext Z [] from rfl]
 simp (maxDischargeDepth:=6) only[r2,r4,r5,r7,r8,hz,bZ0,bZ1,bZ2,lz0,lz1,lz2,xD,ruW,putL,Nat.reduceLeDiff,xF,ruU,entryE,Nat.reduceLT,Nat.reduceAdd,Nat.reduceMul,Nat.reduceEqDiff]
 refine w_drawB [] [] (by kernel_rfl) rfl rfl fun ops anc hA hG=>?_
 simp (maxDischargeDepth:=6) only[r2,r4,r5,r7,r8,hz,bZ0,bZ1,bZ2,lz0,lz1,lz2,wd_slice,xD,ruD,ruW,putL,Nat.reduceLeDiff,xF,ruU,entryE,Nat.reduceLT,Nat.reduceAdd,Nat.reduceMul,Nat.reduceEqDiff]
 refine genV_sl (v:=u0) (idsV ua) rfl rfl rfl rfl (zA9 rfl) (h0Z.get hnea) (fun G hG=>by simp only[r2,r8,bnds_none,bnds_some,ruU,entryE,Nat.reduceLT,Nat.reduceAdd,Nat.reduceMul,Nat.reduceEqDiff]; exact sl0 G hG) (by simp[Meets]) ?_
 simp (maxDischargeDepth:=6) only[r2,r4,r5,r7,r8,hz,bZ0,bZ1,bZ2,lz0,lz1,lz2,wd_slice,xD,ruD,ruW,putL,Nat.reduceLeDiff,xF,ruU,entryE,Nat.reduceLT,Nat.reduceAdd,Nat.reduceMul,Nat.reduceEqDiff]
 refine genV_sl (v:=u1) (idsV ub) rfl rfl rfl rfl (zA9 rfl) (h1Z.get hne) (fun G hG=>by simp only[r7,r8,bnds_none,bnds_some,ruU,entryE,Nat.reduceLT,Nat.reduceAdd,Nat.reduceMul,Nat.reduceEqDiff]; exact sl1 G hG) (by simp[Meets]) ?_
 simp (maxDischargeDepth:=6) only[r2,r4,r5,r7,r8,wd_slice,xD,ruD,ruW,putL,Nat.reduceLeDiff,xF,ruU,entryE,Nat.reduceLT,Nat.reduceAdd,Nat.reduceMul,Nat.reduceEqDiff]
 refine genV_quiet (v:=.bool (decide (a.drop T=b.drop T))) (rowF (a.drop T) u0++rowF (b.drop T) u1) (by simp only[ruU,entryE,Nat.reduceLT,Nat.reduceAdd,Nat.reduceMul,Nat.reduceEqDiff]) (by kernel_rfl) (by decide) (fun m hm=>?_) (fun G hn hg=>?_) (by simp[Meets]) ?_
 ·rcases zB4.1 hm with hm|hm
  ·exact rs0.at_.f m hm
  ·exact rs1.at_.f m hm
 ·simp only[ruU,entryE,Nat.reduceLT,Nat.reduceAdd,Nat.reduceMul,Nat.reduceEqDiff]
  exact eqCells_c G u0 u1 _ _ (rs0.at_.ofF (zD2 hn.symm) fun m hm=>hg m (zD4 _ hm)) (rs1.at_.ofF (zD2 hn.symm) fun m hm=>hg m (zD5 _ hm)) (by rw[zD8]; omega)
 have hfin:∀ (Z':AHeap) (v':Value) (l':List Op) (kk':Lk),WrAt N ((x+6+1)::F1) Z' p v' l' kk'→KpN N F1 Z Z'→WrAt N F (Z'.upd (x+6) (some ⟨.deferred none,false,⟨[],0⟩⟩)) p v' l' kk'∧KpN N F H (Z'.upd (x+6) (some ⟨.deferred none,false,⟨[],0⟩⟩)):=fun Z' v' l' kk' hw hk=>by
  have m5:Mod [x+6] Z' (Z'.upd (x+6) (some ⟨.deferred none,false,⟨[],0⟩⟩)):=Mod.upd (by simp)
  refine⟨(hw.loop m5 (zB3 _ (hm _ (by omega)))).sub fun n hn=>zB3 _ (hFF n hn),?_⟩
  exact (((KpN.of0 mHK).trans (kZ.sub hFF)).trans (hk.sub hFF)).trans (KpN.one m5 (by omega) fun h=>by have:=w.fl _ h; omega)
 simp (maxDischargeDepth:=6) only[r2,r4,r5,r7,r8,hd,xD,ruD,ruW,putL,Nat.reduceLeDiff,xF,ruU,entryE,Nat.reduceLT,Nat.reduceAdd,Nat.reduceMul,Nat.reduceEqDiff]
 cases d with
 |true =>
  have he:=of_decide_eq_true hd
  simp (maxDischargeDepth:=6) only[zC8,xD,ruW,putL,Nat.reduceLeDiff,xF,ruU,entryE,Nat.reduceLT,Nat.reduceAdd,Nat.reduceMul,Nat.reduceEqDiff]
  refine lv_mark ⟨_,_,hdZ⟩ ?_
  simp (maxDischargeDepth:=6) only[Tryd.results39,xD,ruW,putL,Nat.reduceLeDiff,xF,ruU,entryE,Nat.reduceLT,Nat.reduceAdd,Nat.reduceMul,Nat.reduceEqDiff]
  refine⟨trivial,v2,?_⟩
  rw[endR,if_pos he,zD0]
  exact hfin Z v2 _ _ wZ KpN.refl
 |false =>
  have he:=of_decide_eq_false hd
  simp (maxDischargeDepth:=6) only[r2,r4,r5,r7,r8,hz,bZ0,bZ1,bZ2,lz0,lz1,lz2,zD6,xD,ruW,putL,Nat.reduceLeDiff,xF,ruU,entryE,Nat.reduceLT,Nat.reduceAdd,Nat.reduceMul,Nat.reduceEqDiff]
  refine (put_c N ((x+6+1)::F1) (ext Z []) p v2 _ _ (opM row T) wZ okZ (by omega) (by rw[ext_next,hz]; simp only[zC3]; omega)).mono ?_
  rintro _ Z2 ⟨rfl,v3,w3,k3⟩
  replace k3:KpN N ((x+6+1)::F1) Z Z2:=k3
  have bZ0':=(k3.bk (by omega) (.inr (zB3 _ (hm _ (by omega))))).trans bZ0
  have hz2:=k3.next
  have lz0':x+0<Z2.next:=by omega
  have ok2:=k3.ok okZ
  rw[show Z2=ext Z2 [] from rfl]
  simp (maxDischargeDepth:=6) only[r2,r4,r5,r7,r8,bZ0',lz0',xD,ruW,putL,Nat.reduceLeDiff,xF,ruU,entryE,Nat.reduceLT,Nat.reduceAdd,Nat.reduceMul,Nat.reduceEqDiff]
  refine (put_c N ((x+6+1)::F1) (ext Z2 []) p v3 _ _ (opK 4) w3 ok2 (by rw[zB6]; simp only[List.length_singleton]; omega) (by rw[ext_next]; simp only[zC3]; omega)).mono ?_
  rintro _ Z3 ⟨rfl,v4,w4,k4⟩
  replace k4:KpN N ((x+6+1)::F1) Z2 Z3:=k4
  have hd3:=(k4.get (n:=x+6) (by omega) (.inr (zB3 _ (hm _ (by omega))))).trans ((k3.get (n:=x+6) (by omega) (.inr (zB3 _ (hm _ (by omega))))).trans hdZ)
  rw[show Z3=ext Z3 [] from rfl]
  simp (maxDischargeDepth:=6) only[xD,ruW,putL,Nat.reduceLeDiff,xF,ruU,entryE,Nat.reduceLT,Nat.reduceAdd,Nat.reduceMul,Nat.reduceEqDiff]
  refine lv_mark ⟨_,_,hd3⟩ ?_
  simp (maxDischargeDepth:=6) only[Tryd.results39,xD,ruW,putL,Nat.reduceLeDiff,xF,ruU,entryE,Nat.reduceLT,Nat.reduceAdd,Nat.reduceMul,Nat.reduceEqDiff]
  refine⟨trivial,v4,?_⟩
  have:=hfin Z3 v4 _ _ w4 ((k3.trans k4).sub fun n hn=>zB3 _ hn)
  rw[endR,if_neg he]
  rw[List.append_assoc]at this
  exact this
theorem GridS.ne {H:AHeap} {v:Value} {g:List (List Ce)} (h:GridS H v g) (hg:g≠[]):∀ n∈idsV v,H.get n≠none∧n<H.next:=by
 rcases h with⟨h,_⟩|⟨_,rvs,_,h,_⟩
 ·exact absurd h hg
 ·exact h.ne
theorem scroll_c (H:AHeap) (v0 v1:Value) (g h:List (List Ce)) (h0s:GridS H v0 g) (h1s:GridS H v1 h) (hw:∀ l∈g,l.length<1000000) (hwh:∀ l∈h,l.length<1000000) (hgh:g.length=h.length) (hl:h.length<1000000) :
  Pure 36 [v0,v1] H (.tuple #[match shiftR g h with|some o=>o.val|none=>Op.val ⟨0,0,0,0,⟨0,0,false,false,false⟩,.empty⟩,.bool (shiftR g h).isSome]):=by
 have h0:=h0s.at_
 have h1:=h1s.at_
 obtain⟨b,hb⟩:∃ b,H.next=b:=⟨_,rfl⟩
 refine callS_fn mixed Tryd.func36 rfl Tryd.ntmps36 (zA9 rfl) fun wf hsc=>?_
 have hok:=wf.base
 have hbase:H.base≤b:=hb▸hok
 obtain⟨a1,c1,e1⟩:=h1.sl
 rw[e1]
 simp (maxDischargeDepth:=6) only[hb,hbase,ruW,putL,Nat.reduceLeDiff,xF,ruU,entryE,Nat.reduceLT,Nat.reduceAdd,Nat.reduceMul,Nat.reduceEqDiff]
 rw[←e1]
 obtain⟨X0,hX0⟩:∃ X0,ext H [⟨47,false,[.int .i64 0,.int .i64 0,.int .i64 0,.int .i64 0,.int .i64 0,.int .i64 0,.bool false,.bool false,.bool false,.string .empty]⟩]=X0:=⟨_,rfl⟩
 have kz:bk X0 (b+0)=some ⟨47,false,[.int .i64 0,.int .i64 0,.int .i64 0,.int .i64 0,.int .i64 0,.int .i64 0,.bool false,.bool false,.bool false,.string .empty]⟩:=by rw[←hX0,bk_at hb (by simp)]; rfl
 rw[hX0]
 have m0:Mod [] H X0:=hX0▸Mod.ext hok
 have n0:X0.next=b+1:=by rw[←hX0,ext_next,hb]; rfl
 have ok0:=m0.ok hok
 refine w_env fun E hE=>?_
 have q0:E 0=v0:=by rw[hE]; simp only[ruU,entryE,Nat.reduceLT,Nat.reduceAdd,Nat.reduceMul,Nat.reduceEqDiff]
 have q1:E 1=v1:=by rw[hE]; simp only[ruU,entryE,Nat.reduceLT,Nat.reduceAdd,Nat.reduceMul,Nat.reduceEqDiff]
 have q4:E 4=.pointer (some ⟨b+0,0,none⟩):=by rw[hE]; (simp only[ruU,entryE,Nat.reduceLT,Nat.reduceAdd,Nat.reduceMul,Nat.reduceEqDiff]<;>rfl)
 have q6:E 6=.int .i64 ((0:Nat):Int):=by rw[hE]; (simp only[ruU,entryE,Nat.reduceLT,Nat.reduceAdd,Nat.reduceMul,Nat.reduceEqDiff]<;>rfl)
 have q7:E 7=.int .i64 (h.length:Int):=by rw[hE]; simp only[ruU,entryE,Nat.reduceLT,Nat.reduceAdd,Nat.reduceMul,Nat.reduceEqDiff]
 clear hE
 obtain⟨top,htop⟩:∃ t,preR g h=t:=⟨_,rfl⟩
 have hple:=preR_le g h
 rw[htop]at hple
 refine blockC_meet (fun E' H'=>H'=ext X0 []∧E' 0=v0∧E' 1=v1∧E' 4=.pointer (some ⟨b+0,0,none⟩)∧E' 6=.int .i64 (top:Int)∧E' 7=.int .i64 (h.length:Int)) ?_ ?_
 ·refine w_loop (fun (k:Nat) E' H'=>H'=ext X0 []∧E' 0=v0∧E' 1=v1∧E' 4=.pointer (some ⟨b+0,0,none⟩)∧E' 6=.int .i64 (k:Int)∧E' 7=.int .i64 (h.length:Int)∧k≤h.length∧g.take k=h.take k) (fun k=>h.length-k) 0
   ⟨rfl,q0,q1,q4,q6,q7,zB0 _,rfl⟩ ?_
  clear q0 q1 q4 q6 q7
  rintro k E H' ⟨hH,q0,q1,q4,q6,q7,hk,hpre⟩
  rw[hH]
  have hpd:=preR_drop g h k hpre (by omega) hk
  rw[htop]at hpd
  obtain⟨a0,c0,e0⟩:=h0.sl
  obtain⟨a1,c1,e1⟩:=h1.sl
  by_cases hkl:k=h.length
  ·have hc:decide ((k:Int)<(h.length:Int))=false:=by simp[hkl]
   simp (maxDischargeDepth:=6) only[q0,q1,q4,q6,q7,ruW,putL,Nat.reduceLeDiff,xF,ruU,entryE,Nat.reduceLT,Nat.reduceAdd,Nat.reduceMul,Nat.reduceEqDiff]
   refine w_drawB [] [(3,16)] (by kernel_rfl) rfl (by kernel_rfl) fun ops anc hA hG=>?_
   simp only[all2_cons]at hG
   simp (maxDischargeDepth:=6) only[q0,q1,q4,q6,q7,hc,hG,ruD,ruW,putL,Nat.reduceLeDiff,xF,ruU,entryE,Nat.reduceLT,Nat.reduceAdd,Nat.reduceMul,Nat.reduceEqDiff]
   refine joinR_normal ⟨rfl,?_⟩
   refine⟨by simp only[q0,ruU,entryE,Nat.reduceLT,Nat.reduceAdd,Nat.reduceMul,Nat.reduceEqDiff],by simp only[q1,ruU,entryE,Nat.reduceLT,Nat.reduceAdd,Nat.reduceMul,Nat.reduceEqDiff],by simp only[q4,ruU,entryE,Nat.reduceLT,Nat.reduceAdd,Nat.reduceMul,Nat.reduceEqDiff],?_,by simp only[q7,ruU,entryE,Nat.reduceLT,Nat.reduceAdd,Nat.reduceMul,Nat.reduceEqDiff]⟩
   simp only[q6,ruU,entryE,Nat.reduceLT,Nat.reduceAdd,Nat.reduceMul,Nat.reduceEqDiff]
   rw[hpd,zE7 (show h.length≤k by omega)]
   cases g.drop k<;>simp[preR]
  ·have hlt:k<h.length:=by omega
   have hc:decide ((k:Int)<(h.length:Int))=true:=decide_eq_true (by omega)
   obtain⟨w1,hr1⟩:∃ r,g[k]?=some r:=⟨_,zA6 (by omega)⟩
   obtain⟨w2,hr2⟩:∃ r,h[k]?=some r:=⟨_,zA6 (by omega)⟩
   have hd1:g.drop k=w1::g.drop (k+1):=by
    rw[zF0 (by omega)]
    rw[zA6 (by omega)]at hr1
    rw[Option.some.inj hr1]
   have hd2:h.drop k=w2::h.drop (k+1):=by
    rw[zF0 (by omega)]
    rw[zA6 (by omega)]at hr2
    rw[Option.some.inj hr2]
   rw[hd1,hd2,preR]at hpd
   have hg0:=h0.mod0 m0
   have hg1:=h1.mod0 m0
   rcases hg0 with⟨hh,_⟩|⟨_,n1,o1,s1,x1,t1,p1,L1,ev0,b1,n1l,le1,tk1⟩
   ·rw[hh]at hgh; simp at hgh; omega
   rcases hg1 with⟨hh,_⟩|⟨_,n2,o2,s2,x2,t2,p2,L2,ev1,b2,n2l,le2,tk2⟩
   ·rw[hh]at hlt; simp at hlt
   obtain⟨u1,hu1,ra1⟩:=tk1 k w1 hr1
   obtain⟨u2,hu2,ra2⟩:=tk2 k w2 hr2
   have i1:=grid_ia (n:=n1) (off:=o1) (s:=s1) (cap:=x1) (len:=g.length) (i:=(k:Int)) rfl (by omega)
   have i2:=grid_ia (n:=n2) (off:=o2) (s:=s2) (cap:=x2) (len:=h.length) (i:=(k:Int)) rfl (by omega)
   have y1:=grid_load (e:=t1) (o:=p1) hu1
   have y2:=grid_load (e:=t2) (o:=p2) hu2
   rw[n0]at n1l n2l
   have q0':=q0
   have q1':=q1
   rw[ev0]at q0'
   rw[ev1]at q1'
   simp (maxDischargeDepth:=6) only[q0',q1',q4,q6,q7,hc,ruW,putL,Nat.reduceLeDiff,xF,ruU,entryE,Nat.reduceLT,Nat.reduceAdd,Nat.reduceMul,Nat.reduceEqDiff]
   refine w_drawB [] [(3,16)] (by kernel_rfl) rfl (by kernel_rfl) fun ops anc hA hG=>?_
   simp only[all2_cons]at hG
   simp (maxDischargeDepth:=6) only[q0',q1',q4,q6,q7,n0,hc,hG,i1,i2,b1,b2,n1l,n2l,y1,y2,qk_old,ruD,ruW,putL,Nat.reduceLeDiff,xF,ruU,entryE,Nat.reduceLT,Nat.reduceAdd,Nat.reduceMul,Nat.reduceEqDiff]
   refine genV_quiet (v:=.bool (decide (w1=w2))) (rowF w1 u1++rowF w2 u2) (by simp only[ruU,entryE,Nat.reduceLT,Nat.reduceAdd,Nat.reduceMul,Nat.reduceEqDiff]) (by kernel_rfl) (by decide) (fun m hm=>?_) (fun G hn hg=>?_) (by simp[Meets]) ?_
   ·rcases zB4.1 hm with hm|hm
    ·exact ra1.ext.f m hm
    ·exact ra2.ext.f m hm
   ·simp only[ruU,entryE,Nat.reduceLT,Nat.reduceAdd,Nat.reduceMul,Nat.reduceEqDiff]
    exact eqCells_c G u1 u2 w1 w2 (ra1.ext.ofF (zD2 hn.symm) fun m hm=>hg m (zD4 _ hm)) (ra2.ext.ofF (zD2 hn.symm) fun m hm=>hg m (zD5 _ hm)) (hw w1 (zB9 hr1))
   by_cases hr:w1=w2
   ·have hs:decide (w1=w2)=true:=decide_eq_true hr
    simp (maxDischargeDepth:=6) only[q0',q1',q4,q6,q7,hs,hG,wrap_succ (show k<1000000 by omega),ruD,ruW,putL,Nat.reduceLeDiff,xF,ruU,entryE,Nat.reduceLT,Nat.reduceAdd,Nat.reduceMul,Nat.reduceEqDiff]
    refine loopC_next ⟨k+1,by omega,rfl,?_,?_,?_,?_,?_,by omega,?_⟩
    ·simp only[q0,ruU,entryE,Nat.reduceLT,Nat.reduceAdd,Nat.reduceMul,Nat.reduceEqDiff]
    ·simp only[q1,ruU,entryE,Nat.reduceLT,Nat.reduceAdd,Nat.reduceMul,Nat.reduceEqDiff]
    ·simp only[q4,ruU,entryE,Nat.reduceLT,Nat.reduceAdd,Nat.reduceMul,Nat.reduceEqDiff]
    ·simp only[q6,ruU,entryE,Nat.reduceLT,Nat.reduceAdd,Nat.reduceMul,Nat.reduceEqDiff]
    ·simp only[q7,ruU,entryE,Nat.reduceLT,Nat.reduceAdd,Nat.reduceMul,Nat.reduceEqDiff]
    ·rw[List.take_add_one,List.take_add_one,hr1,hr2,hpre,hr]
   ·have hs:decide (w1=w2)=false:=decide_eq_false hr
    rw[if_neg hr]at hpd
    simp (maxDischargeDepth:=6) only[q0',q1',q4,q6,q7,hs,hG,ruD,ruW,putL,Nat.reduceLeDiff,xF,ruU,entryE,Nat.reduceLT,Nat.reduceAdd,Nat.reduceMul,Nat.reduceEqDiff]
    refine joinR_normal ⟨rfl,by simp only[q0,ruU,entryE,Nat.reduceLT,Nat.reduceAdd,Nat.reduceMul,Nat.reduceEqDiff],by simp only[q1,ruU,entryE,Nat.reduceLT,Nat.reduceAdd,Nat.reduceMul,Nat.reduceEqDiff],by simp only[q4,ruU,entryE,Nat.reduceLT,Nat.reduceAdd,Nat.reduceMul,Nat.reduceEqDiff],?_,by simp only[q7,ruU,entryE,Nat.reduceLT,Nat.reduceAdd,Nat.reduceMul,Nat.reduceEqDiff]⟩
    simp only[q6,ruU,entryE,Nat.reduceLT,Nat.reduceAdd,Nat.reduceMul,Nat.reduceEqDiff]
    rw[hpd,zC1]
 rintro E H' ⟨hH,q0,q1,q4,q6,q7⟩
 rw[hH]
 simp (maxDischargeDepth:=6) only[q0,q1,q4,q6,q7,ruW,putL,Nat.reduceLeDiff,xF,ruU,entryE,Nat.reduceLT,Nat.reduceAdd,Nat.reduceMul,Nat.reduceEqDiff]
 obtain⟨bot,hbot⟩:∃ t,sufR g h top h.length=t:=⟨_,rfl⟩
 have hble:=sufR_le g h top h.length
 have hbge:=sufR_ge g h top h.length hple.1
 rw[hbot]at hble hbge
 refine w_env fun E' hE=>?_
 have r0:E' 0=v0:=by rw[hE]; simp only[q0,ruU,entryE,Nat.reduceLT,Nat.reduceAdd,Nat.reduceMul,Nat.reduceEqDiff]
 have r1:E' 1=v1:=by rw[hE]; simp only[q1,ruU,entryE,Nat.reduceLT,Nat.reduceAdd,Nat.reduceMul,Nat.reduceEqDiff]
 have r4:E' 4=.pointer (some ⟨b+0,0,none⟩):=by rw[hE]; simp only[q4,ruU,entryE,Nat.reduceLT,Nat.reduceAdd,Nat.reduceMul,Nat.reduceEqDiff]
 have r6:E' 6=.int .i64 (top:Int):=by rw[hE]; simp only[q6,ruU,entryE,Nat.reduceLT,Nat.reduceAdd,Nat.reduceMul,Nat.reduceEqDiff]
 have r7:E' 7=.int .i64 (h.length:Int):=by rw[hE]; simp only[q7,ruU,entryE,Nat.reduceLT,Nat.reduceAdd,Nat.reduceMul,Nat.reduceEqDiff]
 clear hE q0 q1 q4 q6 q7
 clear E
 refine blockC_meet (fun E' H'=>H'=ext X0 []∧E' 0=v0∧E' 1=v1∧E' 4=.pointer (some ⟨b+0,0,none⟩)∧E' 6=.int .i64 (top:Int)∧E' 7=.int .i64 (bot:Int)) ?_ ?_
 ·refine w_loop (fun (k:Nat) E' H'=>H'=ext X0 []∧E' 0=v0∧E' 1=v1∧E' 4=.pointer (some ⟨b+0,0,none⟩)∧E' 6=.int .i64 (top:Int)∧E' 7=.int .i64 (k:Int)∧k≤h.length∧top≤k∧sufR g h top k=bot) (fun k=>k) h.length
   ⟨rfl,r0,r1,r4,r6,r7,zA5 _,hple.1,hbot⟩ ?_
  clear r0 r1 r4 r6 r7
  rintro k E H' ⟨hH,q0,q1,q4,q6,q7,hk,hkt,hs⟩
  rw[hH]
  by_cases hkl:k=top
  ·have hc:decide ((top:Int)<(k:Int))=false:=by simp[hkl]
   simp (maxDischargeDepth:=6) only[q0,q1,q4,q6,q7,ruW,putL,Nat.reduceLeDiff,xF,ruU,entryE,Nat.reduceLT,Nat.reduceAdd,Nat.reduceMul,Nat.reduceEqDiff]
   refine w_drawB [] [(3,32)] (by kernel_rfl) rfl (by kernel_rfl) fun ops anc hA hG=>?_
   simp only[all2_cons]at hG
   simp (maxDischargeDepth:=6) only[q0,q1,q4,q6,q7,hc,hG,ruD,ruW,putL,Nat.reduceLeDiff,xF,ruU,entryE,Nat.reduceLT,Nat.reduceAdd,Nat.reduceMul,Nat.reduceEqDiff]
   refine joinR_normal ⟨rfl,by simp only[q0,ruU,entryE,Nat.reduceLT,Nat.reduceAdd,Nat.reduceMul,Nat.reduceEqDiff],by simp only[q1,ruU,entryE,Nat.reduceLT,Nat.reduceAdd,Nat.reduceMul,Nat.reduceEqDiff],by simp only[q4,ruU,entryE,Nat.reduceLT,Nat.reduceAdd,Nat.reduceMul,Nat.reduceEqDiff],by simp only[q6,ruU,entryE,Nat.reduceLT,Nat.reduceAdd,Nat.reduceMul,Nat.reduceEqDiff],?_⟩
   simp only[q7,ruU,entryE,Nat.reduceLT,Nat.reduceAdd,Nat.reduceMul,Nat.reduceEqDiff]
   have:sufR g h top k=k:=by
    cases k with
    |zero=>rfl
    |succ k=>rw[sufR,if_neg (fun c=>by omega)]
   rw[←hs,this]
  ·obtain⟨j,rfl⟩:∃ j,k=j+1:=⟨k-1,by omega⟩
   have hc:decide ((top:Int)<((j+1:Nat):Int))=true:=decide_eq_true (by omega)
   have wj:IntKind.i64.wrap (((j+1:Nat):Int)-1)=(j:Int):=(wrap_sm (by omega) (by omega)).trans (by omega)
   obtain⟨w1,hr1⟩:∃ r,g[j]?=some r:=⟨_,zA6 (by omega)⟩
   obtain⟨w2,hr2⟩:∃ r,h[j]?=some r:=⟨_,zA6 (by omega)⟩
   have hd1:g.getD j []=w1:=by rw[zE8,hr1]; rfl
   have hd2:h.getD j []=w2:=by rw[zE8,hr2]; rfl
   rw[sufR,hd1,hd2]at hs
   have hg0:=h0.mod0 m0
   have hg1:=h1.mod0 m0
   rcases hg0 with⟨hh,_⟩|⟨_,n1,o1,s1,x1,t1,p1,L1,ev0,b1,n1l,le1,tk1⟩
   ·rw[hh]at hgh; simp at hgh; omega
   rcases hg1 with⟨hh,_⟩|⟨_,n2,o2,s2,x2,t2,p2,L2,ev1,b2,n2l,le2,tk2⟩
   ·rw[hh]at hk; simp at hk
   obtain⟨u1,hu1,ra1⟩:=tk1 j w1 hr1
   obtain⟨u2,hu2,ra2⟩:=tk2 j w2 hr2
   have i1:=grid_ia (n:=n1) (off:=o1) (s:=s1) (cap:=x1) (len:=g.length) (i:=(j:Int)) rfl (by omega)
   have i2:=grid_ia (n:=n2) (off:=o2) (s:=s2) (cap:=x2) (len:=h.length) (i:=(j:Int)) rfl (by omega)
   have y1:=grid_load (e:=t1) (o:=p1) hu1
   have y2:=grid_load (e:=t2) (o:=p2) hu2
   rw[n0]at n1l n2l
   have q0':=q0
   have q1':=q1
   rw[ev0]at q0'
   rw[ev1]at q1'
   simp (maxDischargeDepth:=6) only[q0',q1',q4,q6,q7,ruW,putL,Nat.reduceLeDiff,xF,ruU,entryE,Nat.reduceLT,Nat.reduceAdd,Nat.reduceMul,Nat.reduceEqDiff]
   refine w_drawB [] [(3,32)] (by kernel_rfl) rfl (by kernel_rfl) fun ops anc hA hG=>?_
   simp only[all2_cons]at hG
   simp (maxDischargeDepth:=6) only[q0',q1',q4,q6,q7,n0,hc,hG,wj,i1,i2,b1,b2,n1l,n2l,y1,y2,qk_old,ruD,ruW,putL,Nat.reduceLeDiff,xF,ruU,entryE,Nat.reduceLT,Nat.reduceAdd,Nat.reduceMul,Nat.reduceEqDiff]
   refine genV_quiet (v:=.bool (decide (w1=w2))) (rowF w1 u1++rowF w2 u2) (by simp only[ruU,entryE,Nat.reduceLT,Nat.reduceAdd,Nat.reduceMul,Nat.reduceEqDiff]) (by kernel_rfl) (by decide) (fun m hm=>?_) (fun G hn hg=>?_) (by simp[Meets]) ?_
   ·rcases zB4.1 hm with hm|hm
    ·exact ra1.ext.f m hm
    ·exact ra2.ext.f m hm
   ·simp only[ruU,entryE,Nat.reduceLT,Nat.reduceAdd,Nat.reduceMul,Nat.reduceEqDiff]
    exact eqCells_c G u1 u2 w1 w2 (ra1.ext.ofF (zD2 hn.symm) fun m hm=>hg m (zD4 _ hm)) (ra2.ext.ofF (zD2 hn.symm) fun m hm=>hg m (zD5 _ hm)) (hw w1 (zB9 hr1))
   by_cases hr:w1=w2
   ·have hsd:decide (w1=w2)=true:=decide_eq_true hr
    rw[if_pos ⟨by omega,hr⟩]at hs
    simp (maxDischargeDepth:=6) only[q0',q1',q4,q6,q7,hsd,hG,wj,ruD,ruW,putL,Nat.reduceLeDiff,xF,ruU,entryE,Nat.reduceLT,Nat.reduceAdd,Nat.reduceMul,Nat.reduceEqDiff]
    refine loopC_next ⟨j,by omega,rfl,?_,?_,?_,?_,?_,by omega,by omega,hs⟩
    ·simp only[q0,ruU,entryE,Nat.reduceLT,Nat.reduceAdd,Nat.reduceMul,Nat.reduceEqDiff]
    ·simp only[q1,ruU,entryE,Nat.reduceLT,Nat.reduceAdd,Nat.reduceMul,Nat.reduceEqDiff]
    ·simp only[q4,ruU,entryE,Nat.reduceLT,Nat.reduceAdd,Nat.reduceMul,Nat.reduceEqDiff]
    ·simp only[q6,ruU,entryE,Nat.reduceLT,Nat.reduceAdd,Nat.reduceMul,Nat.reduceEqDiff]
    ·simp only[q7,wj,ruU,entryE,Nat.reduceLT,Nat.reduceAdd,Nat.reduceMul,Nat.reduceEqDiff]
   ·have hsd:decide (w1=w2)=false:=decide_eq_false hr
    rw[if_neg (fun c=>hr c.2)]at hs
    simp (maxDischargeDepth:=6) only[q0',q1',q4,q6,q7,hsd,hG,ruD,ruW,putL,Nat.reduceLeDiff,xF,ruU,entryE,Nat.reduceLT,Nat.reduceAdd,Nat.reduceMul,Nat.reduceEqDiff]
    refine joinR_normal ⟨rfl,by simp only[q0,ruU,entryE,Nat.reduceLT,Nat.reduceAdd,Nat.reduceMul,Nat.reduceEqDiff],by simp only[q1,ruU,entryE,Nat.reduceLT,Nat.reduceAdd,Nat.reduceMul,Nat.reduceEqDiff],by simp only[q4,ruU,entryE,Nat.reduceLT,Nat.reduceAdd,Nat.reduceMul,Nat.reduceEqDiff],by simp only[q6,ruU,entryE,Nat.reduceLT,Nat.reduceAdd,Nat.reduceMul,Nat.reduceEqDiff],?_⟩
    simp only[q7,ruU,entryE,Nat.reduceLT,Nat.reduceAdd,Nat.reduceMul,Nat.reduceEqDiff]
    rw[←hs]
 rintro E H' ⟨hH,q0,q1,q4,q6,q7⟩
 rw[hH]
 obtain⟨n,hn⟩:∃ n,bot-top=n:=⟨_,rfl⟩
 have wn:IntKind.i64.wrap ((bot:Int)-(top:Int))=(n:Int):=(wrap_sm (by omega) (by omega)).trans (by omega)
 have hsh:shiftR g h=match firstI (upR g h top n) 1 (n-1) with|some i=>some (rollOp 5 top bot i)|none=>(firstI (dnR g h top n) 1 (n-1)).map (rollOp 6 top bot):=by
  unfold shiftR
  simp only[htop,hbot,hn]<;>(cases firstI (upR g h top n) 1 (n-1)<;>rfl)
 simp (maxDischargeDepth:=6) only[q0,q1,q4,q6,q7,wn,ruW,putL,Nat.reduceLeDiff,xF,ruU,entryE,Nat.reduceLT,Nat.reduceAdd,Nat.reduceMul,Nat.reduceEqDiff]
 refine w_env fun E' hE=>?_
 have r0:E' 0=v0:=by rw[hE]; simp only[q0,ruU,entryE,Nat.reduceLT,Nat.reduceAdd,Nat.reduceMul,Nat.reduceEqDiff]
 have r1:E' 1=v1:=by rw[hE]; simp only[q1,ruU,entryE,Nat.reduceLT,Nat.reduceAdd,Nat.reduceMul,Nat.reduceEqDiff]
 have r4:E' 4=.pointer (some ⟨b+0,0,none⟩):=by rw[hE]; simp only[q4,ruU,entryE,Nat.reduceLT,Nat.reduceAdd,Nat.reduceMul,Nat.reduceEqDiff]
 have r6:E' 6=.int .i64 (top:Int):=by rw[hE]; simp only[q6,ruU,entryE,Nat.reduceLT,Nat.reduceAdd,Nat.reduceMul,Nat.reduceEqDiff]
 have r7:E' 7=.int .i64 (bot:Int):=by rw[hE]; simp only[q7,ruU,entryE,Nat.reduceLT,Nat.reduceAdd,Nat.reduceMul,Nat.reduceEqDiff]
 have r8:E' 8=.int .i64 (n:Int):=by rw[hE]; simp only[ruU,entryE,Nat.reduceLT,Nat.reduceAdd,Nat.reduceMul,Nat.reduceEqDiff]
 have r9:E' 9=.int .i64 ((1:Nat):Int):=by rw[hE]; (simp only[ruU,entryE,Nat.reduceLT,Nat.reduceAdd,Nat.reduceMul,Nat.reduceEqDiff]<;>rfl)
 clear hE q0 q1 q4 q6 q7
 clear E
 have lz:b+0<b+1:=by omega
 have hfin:∀ vs,Mod [] H (uw X0 (b+0) 0 vs):=fun vs=>m0.step (Mod.uw (W:=[b+0]) (by simp)) hok (fun n hn=>.inr (by simp only[zA8]at hn; omega))
 refine blockC_meet (fun E' H'=>H'=ext X0 []∧E' 0=v0∧E' 1=v1∧E' 4=.pointer (some ⟨b+0,0,none⟩)∧E' 6=.int .i64 (top:Int)∧E' 7=.int .i64 (bot:Int)∧E' 8=.int .i64 (n:Int)∧firstI (upR g h top n) 1 (n-1)=none) ?_ ?_
 ·refine w_loop (fun (i:Nat) E' H'=>H'=ext X0 []∧E' 0=v0∧E' 1=v1∧E' 4=.pointer (some ⟨b+0,0,none⟩)∧E' 6=.int .i64 (top:Int)∧E' 7=.int .i64 (bot:Int)∧E' 8=.int .i64 (n:Int)∧E' 9=.int .i64 (i:Int)∧1≤i∧firstI (upR g h top n) 1 (n-1)=firstI (upR g h top n) i (n-i)) (fun i=>n-i) 1
   ⟨rfl,r0,r1,r4,r6,r7,r8,r9,zA5 _,rfl⟩ ?_
  clear r0 r1 r4 r6 r7 r8 r9
  rintro i E H' ⟨hH,q0,q1,q4,q6,q7,q8,q9,hi1,hs⟩
  rw[hH]
  by_cases hin:i<n
  case neg =>
   have hc:decide ((i:Int)<(n:Int))=false:=decide_eq_false (by omega)
   simp (maxDischargeDepth:=6) only[q0,q1,q4,q6,q7,q8,q9,hc,ruW,putL,Nat.reduceLeDiff,xF,ruU,entryE,Nat.reduceLT,Nat.reduceAdd,Nat.reduceMul,Nat.reduceEqDiff]
   rw[show n-i=0 by omega,firstI]at hs
   exact joinR_normal ⟨rfl,by simp only[q0,ruU,entryE,Nat.reduceLT,Nat.reduceAdd,Nat.reduceMul,Nat.reduceEqDiff],by simp only[q1,ruU,entryE,Nat.reduceLT,Nat.reduceAdd,Nat.reduceMul,Nat.reduceEqDiff],by simp only[q4,ruU,entryE,Nat.reduceLT,Nat.reduceAdd,Nat.reduceMul,Nat.reduceEqDiff],by simp only[q6,ruU,entryE,Nat.reduceLT,Nat.reduceAdd,Nat.reduceMul,Nat.reduceEqDiff],by simp only[q7,ruU,entryE,Nat.reduceLT,Nat.reduceAdd,Nat.reduceMul,Nat.reduceEqDiff],by simp only[q8,ruU,entryE,Nat.reduceLT,Nat.reduceAdd,Nat.reduceMul,Nat.reduceEqDiff],hs⟩
  have hc:decide ((i:Int)<(n:Int))=true:=decide_eq_true (by omega)
  have w1:IntKind.i64.wrap ((top:Int)+(i:Int))=((top+i:Nat):Int):=(wrap_sm (by omega) (by omega)).trans (by omega)
  have w3:IntKind.i64.wrap ((bot:Int)-(i:Int))=((bot-i:Nat):Int):=(wrap_sm (by omega) (by omega)).trans (by omega)
  have hne1:h≠[]:=fun e=>by rw[e,zC3]at hble; omega
  have hne0:g≠[]:=fun e=>by rw[e,zC3]at hgh; omega
  have hfv1:∀ n∈idsV v1,(ext X0 []).get n≠none:=fun n hn=>((h1s.mod0 m0).ne hne1 n hn).1
  have hfv0:∀ n∈idsV v0,(ext X0 []).get n≠none:=fun n hn=>((h0s.mod0 m0).ne hne0 n hn).1
  rw[show n-i=(n-(i+1))+1 by omega,firstI]at hs
  obtain⟨u1,sl1,gs1,-,-⟩:=(h1s.mod0 m0).slice hne1 (x:=some (.int .i64 (top:Int))) (y:=some (.int .i64 ((bot-i:Nat):Int))) (lo:=top) (hi:=bot-i) (by simp[bound]) (by simp only[bound]; rw[if_pos (by omega),Int.toNat_natCast]) (by omega) (by omega)
  obtain⟨u0,sl0,gs0,-,-⟩:=(h0s.mod0 m0).slice hne0 (x:=some (.int .i64 ((top+i:Nat):Int))) (y:=some (.int .i64 (bot:Int))) (lo:=top+i) (hi:=bot) (by simp only[bound]; rw[if_pos (by omega),Int.toNat_natCast]) (by simp[bound]) (by omega) (by omega)
  obtain⟨F1,hF1,hG1⟩:=gs1.at_.foot (fun e=>by have:=congrArg List.length e; simp at this; omega)
  obtain⟨F0,hF0,hG0⟩:=gs0.at_.foot (fun e=>by have:=congrArg List.length e; simp at this; omega)
  have hdu:decide ((h.take (bot-i)).drop top=(g.take bot).drop (top+i))=upR g h top n i:=by
   unfold upR
   rw[List.drop_take,List.drop_take,show bot-i-top=n-i by omega,show bot-(top+i)=n-i by omega]
  simp (maxDischargeDepth:=6) only[q0,q1,q4,q6,q7,q8,q9,hc,w1,w3,wd_slice,ruW,putL,Nat.reduceLeDiff,xF,ruU,entryE,Nat.reduceLT,Nat.reduceAdd,Nat.reduceMul,Nat.reduceEqDiff]
  refine w_drawB [] [] (by kernel_rfl) rfl rfl fun ops anc hA hG=>?_
  simp (maxDischargeDepth:=6) only[q0,q1,q4,q6,q7,q8,q9,w1,w3,wd_slice,ruD,ruW,putL,Nat.reduceLeDiff,xF,ruU,entryE,Nat.reduceLT,Nat.reduceAdd,Nat.reduceMul,Nat.reduceEqDiff]
  refine genV_sl (v:=u1) (idsV v1) rfl rfl rfl rfl (zA9 rfl) hfv1 (fun G hG=>by simp only[q1,q6,bnds_none,bnds_some,ruU,entryE,Nat.reduceLT,Nat.reduceAdd,Nat.reduceMul,Nat.reduceEqDiff]; exact sl1 G hG) (by simp[Meets]) ?_
  simp (maxDischargeDepth:=6) only[q0,q1,q4,q6,q7,q8,q9,w1,w3,wd_slice,ruD,ruW,putL,Nat.reduceLeDiff,xF,ruU,entryE,Nat.reduceLT,Nat.reduceAdd,Nat.reduceMul,Nat.reduceEqDiff]
  refine genV_sl (v:=u0) (idsV v0) rfl rfl rfl rfl (zA9 rfl) hfv0 (fun G hG=>by simp only[q0,q7,bnds_none,bnds_some,ruU,entryE,Nat.reduceLT,Nat.reduceAdd,Nat.reduceMul,Nat.reduceEqDiff]; exact sl0 G hG) (by simp[Meets]) ?_
  simp (maxDischargeDepth:=6) only[q0,q1,q4,q6,q7,q8,q9,w1,w3,wd_slice,ruD,ruW,putL,Nat.reduceLeDiff,xF,ruU,entryE,Nat.reduceLT,Nat.reduceAdd,Nat.reduceMul,Nat.reduceEqDiff]
  refine genV_quiet (v:=.bool (upR g h top n i)) (F1++F0) (by simp only[ruU,entryE,Nat.reduceLT,Nat.reduceAdd,Nat.reduceMul,Nat.reduceEqDiff]) (by kernel_rfl) (by decide) (fun m hm=>?_) (fun G hn hg=>?_) (by simp[Meets]) ?_
  ·rcases zB4.1 hm with hm|hm
   ·exact (hF1 m hm).1
   ·exact (hF0 m hm).1
  ·simp only[ruU,entryE,Nat.reduceLT,Nat.reduceAdd,Nat.reduceMul,Nat.reduceEqDiff]
   rw[←hdu]
   exact same54_c G u1 u0 _ _ (hG1 G (zD2 hn.symm) fun m hm=>hg m (zD4 _ hm)).1 (hG0 G (zD2 hn.symm) fun m hm=>hg m (zD5 _ hm)).1 (fun l hl=>hwh l (zE4 (zE5 hl))) (by simp; omega)
  cases hu:upR g h top n i with
  |false =>
   rw[hu]at hs
   simp only[zC2,if_false]at hs
   simp (maxDischargeDepth:=6) only[q0,q1,q4,q6,q7,q8,q9,hu,wrap_succ (show i<1000000 by omega),ruD,ruW,putL,Nat.reduceLeDiff,xF,ruU,entryE,Nat.reduceLT,Nat.reduceAdd,Nat.reduceMul,Nat.reduceEqDiff]
   refine loopC_next ⟨i+1,by omega,rfl,?_,?_,?_,?_,?_,?_,?_,by omega,hs⟩<;>simp only[q0,q1,q4,q6,q7,q8,q9,ruU,entryE,Nat.reduceLT,Nat.reduceAdd,Nat.reduceMul,Nat.reduceEqDiff]
  |true =>
   rw[hu,if_pos rfl]at hs
   have wb:IntKind.i64.wrap ((bot:Int)-1)=(bot:Int)-1:=wrap_sm (by omega) (by omega)
   rw[hsh,hs]
   simp (maxDischargeDepth:=6) only[q0,q1,q4,q6,q7,q8,q9,hu,n0,kz,lz,wb,joinR_ret,Tryd.results36,ruD,ruW,putL,Nat.reduceLeDiff,xF,ruU,entryE,Nat.reduceLT,Nat.reduceAdd,Nat.reduceMul,Nat.reduceEqDiff]
   exact Ax.Fin.mod rfl (hfin _) rfl
 rintro E H' ⟨hH,q0,q1,q4,q6,q7,q8,hup⟩
 rw[hH]
 rw[hup]at hsh
 simp only at hsh
 simp (maxDischargeDepth:=6) only[q0,q1,q4,q6,q7,q8,ruW,putL,Nat.reduceLeDiff,xF,ruU,entryE,Nat.reduceLT,Nat.reduceAdd,Nat.reduceMul,Nat.reduceEqDiff]
 refine w_env fun E' hE=>?_
 have r0:E' 0=v0:=by rw[hE]; simp only[q0,ruU,entryE,Nat.reduceLT,Nat.reduceAdd,Nat.reduceMul,Nat.reduceEqDiff]
 have r1:E' 1=v1:=by rw[hE]; simp only[q1,ruU,entryE,Nat.reduceLT,Nat.reduceAdd,Nat.reduceMul,Nat.reduceEqDiff]
 have r4:E' 4=.pointer (some ⟨b+0,0,none⟩):=by rw[hE]; simp only[q4,ruU,entryE,Nat.reduceLT,Nat.reduceAdd,Nat.reduceMul,Nat.reduceEqDiff]
 have r6:E' 6=.int .i64 (top:Int):=by rw[hE]; simp only[q6,ruU,entryE,Nat.reduceLT,Nat.reduceAdd,Nat.reduceMul,Nat.reduceEqDiff]
 have r7:E' 7=.int .i64 (bot:Int):=by rw[hE]; simp only[q7,ruU,entryE,Nat.reduceLT,Nat.reduceAdd,Nat.reduceMul,Nat.reduceEqDiff]
 have r8:E' 8=.int .i64 (n:Int):=by rw[hE]; simp only[q8,ruU,entryE,Nat.reduceLT,Nat.reduceAdd,Nat.reduceMul,Nat.reduceEqDiff]
 have r10:E' 10=.int .i64 ((1:Nat):Int):=by rw[hE]; (simp only[ruU,entryE,Nat.reduceLT,Nat.reduceAdd,Nat.reduceMul,Nat.reduceEqDiff]<;>rfl)
 clear hE q0 q1 q4 q6 q7 q8
 clear E
 refine blockC_meet (fun E' H'=>H'=ext X0 []∧E' 4=.pointer (some ⟨b+0,0,none⟩)∧firstI (dnR g h top n) 1 (n-1)=none) ?_ ?_
 ·refine w_loop (fun (i:Nat) E' H'=>H'=ext X0 []∧E' 0=v0∧E' 1=v1∧E' 4=.pointer (some ⟨b+0,0,none⟩)∧E' 6=.int .i64 (top:Int)∧E' 7=.int .i64 (bot:Int)∧E' 8=.int .i64 (n:Int)∧E' 10=.int .i64 (i:Int)∧1≤i∧firstI (dnR g h top n) 1 (n-1)=firstI (dnR g h top n) i (n-i)) (fun i=>n-i) 1
   ⟨rfl,r0,r1,r4,r6,r7,r8,r10,zA5 _,rfl⟩ ?_
  clear r0 r1 r4 r6 r7 r8 r10
  rintro i E H' ⟨hH,q0,q1,q4,q6,q7,q8,q10,hi1,hs⟩
  rw[hH]
  by_cases hin:i<n
  case neg =>
   have hc:decide ((i:Int)<(n:Int))=false:=decide_eq_false (by omega)
   simp (maxDischargeDepth:=6) only[q0,q1,q4,q6,q7,q8,q10,hc,ruW,putL,Nat.reduceLeDiff,xF,ruU,entryE,Nat.reduceLT,Nat.reduceAdd,Nat.reduceMul,Nat.reduceEqDiff]
   rw[show n-i=0 by omega,firstI]at hs
   exact joinR_normal ⟨rfl,by simp only[q4,ruU,entryE,Nat.reduceLT,Nat.reduceAdd,Nat.reduceMul,Nat.reduceEqDiff],hs⟩
  have hc:decide ((i:Int)<(n:Int))=true:=decide_eq_true (by omega)
  have w1:IntKind.i64.wrap ((top:Int)+(i:Int))=((top+i:Nat):Int):=(wrap_sm (by omega) (by omega)).trans (by omega)
  have w3:IntKind.i64.wrap ((bot:Int)-(i:Int))=((bot-i:Nat):Int):=(wrap_sm (by omega) (by omega)).trans (by omega)
  have hne1:h≠[]:=fun e=>by rw[e,zC3]at hble; omega
  have hne0:g≠[]:=fun e=>by rw[e,zC3]at hgh; omega
  have hfv1:∀ n∈idsV v1,(ext X0 []).get n≠none:=fun n hn=>((h1s.mod0 m0).ne hne1 n hn).1
  have hfv0:∀ n∈idsV v0,(ext X0 []).get n≠none:=fun n hn=>((h0s.mod0 m0).ne hne0 n hn).1
  rw[show n-i=(n-(i+1))+1 by omega,firstI]at hs
  obtain⟨u1,sl1,gs1,-,-⟩:=(h1s.mod0 m0).slice hne1 (x:=some (.int .i64 ((top+i:Nat):Int))) (y:=some (.int .i64 (bot:Int))) (lo:=top+i) (hi:=bot) (by simp only[bound]; rw[if_pos (by omega),Int.toNat_natCast]) (by simp[bound]) (by omega) (by omega)
  obtain⟨u0,sl0,gs0,-,-⟩:=(h0s.mod0 m0).slice hne0 (x:=some (.int .i64 (top:Int))) (y:=some (.int .i64 ((bot-i:Nat):Int))) (lo:=top) (hi:=bot-i) (by simp[bound]) (by simp only[bound]; rw[if_pos (by omega),Int.toNat_natCast]) (by omega) (by omega)
  obtain⟨F1,hF1,hG1⟩:=gs1.at_.foot (fun e=>by have:=congrArg List.length e; simp at this; omega)
  obtain⟨F0,hF0,hG0⟩:=gs0.at_.foot (fun e=>by have:=congrArg List.length e; simp at this; omega)
  have hdu:decide ((h.take bot).drop (top+i)=(g.take (bot-i)).drop top)=dnR g h top n i:=by
   unfold dnR
   rw[List.drop_take,List.drop_take,show bot-i-top=n-i by omega,show bot-(top+i)=n-i by omega]
  simp (maxDischargeDepth:=6) only[q0,q1,q4,q6,q7,q8,q10,hc,w1,w3,wd_slice,ruW,putL,Nat.reduceLeDiff,xF,ruU,entryE,Nat.reduceLT,Nat.reduceAdd,Nat.reduceMul,Nat.reduceEqDiff]
  refine w_drawB [] [] (by kernel_rfl) rfl rfl fun ops anc hA hG=>?_
  simp (maxDischargeDepth:=6) only[q0,q1,q4,q6,q7,q8,q10,w1,w3,wd_slice,ruD,ruW,putL,Nat.reduceLeDiff,xF,ruU,entryE,Nat.reduceLT,Nat.reduceAdd,Nat.reduceMul,Nat.reduceEqDiff]
  refine genV_sl (v:=u1) (idsV v1) rfl rfl rfl rfl (zA9 rfl) hfv1 (fun G hG=>by simp only[q1,q7,bnds_none,bnds_some,ruU,entryE,Nat.reduceLT,Nat.reduceAdd,Nat.reduceMul,Nat.reduceEqDiff]; exact sl1 G hG) (by simp[Meets]) ?_
  simp (maxDischargeDepth:=6) only[q0,q1,q4,q6,q7,q8,q10,w1,w3,wd_slice,ruD,ruW,putL,Nat.reduceLeDiff,xF,ruU,entryE,Nat.reduceLT,Nat.reduceAdd,Nat.reduceMul,Nat.reduceEqDiff]
  refine genV_sl (v:=u0) (idsV v0) rfl rfl rfl rfl (zA9 rfl) hfv0 (fun G hG=>by simp only[q0,q6,bnds_none,bnds_some,ruU,entryE,Nat.reduceLT,Nat.reduceAdd,Nat.reduceMul,Nat.reduceEqDiff]; exact sl0 G hG) (by simp[Meets]) ?_
  simp (maxDischargeDepth:=6) only[q0,q1,q4,q6,q7,q8,q10,w1,w3,wd_slice,ruD,ruW,putL,Nat.reduceLeDiff,xF,ruU,entryE,Nat.reduceLT,Nat.reduceAdd,Nat.reduceMul,Nat.reduceEqDiff]
  refine genV_quiet (v:=.bool (dnR g h top n i)) (F1++F0) (by simp only[ruU,entryE,Nat.reduceLT,Nat.reduceAdd,Nat.reduceMul,Nat.reduceEqDiff]) (by kernel_rfl) (by decide) (fun m hm=>?_) (fun G hn hg=>?_) (by simp[Meets]) ?_
  ·rcases zB4.1 hm with hm|hm
   ·exact (hF1 m hm).1
   ·exact (hF0 m hm).1
  ·simp only[ruU,entryE,Nat.reduceLT,Nat.reduceAdd,Nat.reduceMul,Nat.reduceEqDiff]
   rw[←hdu]
   exact same54_c G u1 u0 _ _ (hG1 G (zD2 hn.symm) fun m hm=>hg m (zD4 _ hm)).1 (hG0 G (zD2 hn.symm) fun m hm=>hg m (zD5 _ hm)).1 (fun l hl=>hwh l (zE4 (zE5 hl))) (by simp; omega)
  cases hu:dnR g h top n i with
  |false =>
   rw[hu]at hs
   simp only[zC2,if_false]at hs
   simp (maxDischargeDepth:=6) only[q0,q1,q4,q6,q7,q8,q10,hu,wrap_succ (show i<1000000 by omega),ruD,ruW,putL,Nat.reduceLeDiff,xF,ruU,entryE,Nat.reduceLT,Nat.reduceAdd,Nat.reduceMul,Nat.reduceEqDiff]
   refine loopC_next ⟨i+1,by omega,rfl,?_,?_,?_,?_,?_,?_,?_,by omega,hs⟩<;>simp only[q0,q1,q4,q6,q7,q8,q10,ruU,entryE,Nat.reduceLT,Nat.reduceAdd,Nat.reduceMul,Nat.reduceEqDiff]
  |true =>
   rw[hu,if_pos rfl]at hs
   have wb:IntKind.i64.wrap ((bot:Int)-1)=(bot:Int)-1:=wrap_sm (by omega) (by omega)
   rw[hsh,hs]
   simp (maxDischargeDepth:=6) only[q0,q1,q4,q6,q7,q8,q10,hu,n0,kz,lz,wb,joinR_ret,Tryd.results36,ruD,ruW,putL,Nat.reduceLeDiff,xF,ruU,entryE,Nat.reduceLT,Nat.reduceAdd,Nat.reduceMul,Nat.reduceEqDiff]
   exact Ax.Fin.mod rfl (hfin _) rfl
 rintro E H' ⟨hH,q4,hdn⟩
 rw[hH]
 rw[hdn]at hsh
 replace hsh:shiftR g h=none:=hsh
 rw[hsh]
 have hbz:aBuild Tryd.prog 47 []=some (.agg #[.int .i64 0,.int .i64 0,.int .i64 0,.int .i64 0,.int .i64 0,.int .i64 0,.bool false,.bool false,.bool false,.string .empty]):=by kernel_rfl
 simp (maxDischargeDepth:=6) only[q4,hbz,n0,kz,lz,Tryd.results36,ruW,putL,Nat.reduceLeDiff,xF,ruU,entryE,Nat.reduceLT,Nat.reduceAdd,Nat.reduceMul,Nat.reduceEqDiff]
 exact Ax.Fin.mod rfl (hfin _) rfl
theorem wholeB_isR:∀ (n:Nat) (l:List Ce),l.length≤n→wholeB l=true→∀ c∈l,c.rune≠-1→isR c.rune=true
 |_,[],_,_,c,hc,_=>by cases hc
 |0,_::_,hn,_,_,_,_=>by simp at hn
 |n+1,x::l,hn,h,c,hc,hr=>by
  rw[wholeB_cons]at h
  split at h
  ·cases h
  rename_i h0
  simp only[Bool.or_eq_true,decide_eq_true_eq,not_or]at h0
  have hx:isR x.rune=true:=by
   have h1:=h0.1
   unfold cellsR at h1
   split at h1
   ·exact absurd rfl h1
   ·rename_i h2
    simp only[Bool.or_eq_true,Bool.not_eq_true',not_or]at h2
    simpa using h2.2
  simp only[zB5]at hn
  rcases zB2.1 hc with rfl|hc
  ·exact hx
  split at h
  ·cases l with
   |nil=>cases hc
   |cons d l' =>
    simp only[zA4,decide_eq_true_eq]at h
    rcases zB2.1 hc with rfl|hc
    ·exact absurd (by rw[h.1]; rfl) hr
    ·exact wholeB_isR n l' (by simp at hn; omega) h.2 c hc hr
  ·exact wholeB_isR n l (by omega) h c hc hr
theorem chk_isR {g:List (List Ce)} {r c:Int} (h:chkR g r c=0):∀ l∈g,∀ q∈l,q.rune≠-1→isR q.rune=true:=by
 unfold chkR at h
 intro l hl
 have h3:okGrid (widG g) g=true:=by
  revert h
  cases (decide ((g.length:Int)<1)||decide (200<(g.length:Int))) with
  |true=>intro h; rw[cond_true]at h; omega
  |false =>
   rw[cond_false]
   generalize (decide ((widG g:Int)<1)||decide (1000<(widG g:Int))||_)=d
   cases d with
   |true=>intro h; rw[cond_true]at h; omega
   |false =>
    rw[cond_false]
    cases okGrid (widG g) g with
    |false=>intro h; rw[cond_false]at h; omega
    |true=>intro _; rfl
 have:=zC0.1 h3 l hl
 unfold okRow at this
 simp only[zA4]at this
 exact wholeB_isR _ l (zA5 _) this.2
theorem shift_some {g h:List (List Ce)} {x:Op} (e:shiftR g h=some x) (hl:g.length=h.length):∃ (t b i:Nat) (k:Int),x=rollOp k t b i∧(k=5∨k=6)∧1≤i∧t+i<b∧b≤g.length:=by
 have h1:=preR_le g h
 have h2:=sufR_le g h (preR g h) h.length
 unfold shiftR at e
 simp only at e
 split at e
 ·rename_i i hi
  have:=firstI_some _ _ _ hi
  cases e
  exact⟨_,_,i,5,rfl,.inl rfl,this.1,by omega,by omega⟩
 ·cases hf:firstI (dnR g h (preR g h) (sufR g h (preR g h) h.length-preR g h)) 1 (sufR g h (preR g h) h.length-preR g h-1) with
  |none=>rw[hf]at e; cases e
  |some i =>
   rw[hf]at e
   have:=firstI_some _ _ _ hf
   cases e
   exact⟨_,_,i,6,rfl,.inr rfl,this.1,by omega,by omega⟩
theorem shift_does {g h:List (List Ce)} {x:Op} {r c:Int} (e:shiftR g h=some x) (hl:g.length=h.length) (hc:chkR g r c=0) :
  ∃ y:St,St.all (widG g) ptsR [x] 0 (St.start g r c)=.inl y∧(appV g r c [x]).1=y.grid∧y.grid.length=g.length∧∀ l∈y.grid,l.length=widG g:=by
 obtain⟨ok,_⟩:=chk_ok hc
 obtain⟨t,b,i,k,rfl,hk,hi,hti,hb⟩:=shift_some e hl
 have hd:∃ y:St,(St.start g r c).does (widG g) ptsR (rollOp k t b i)=some y∧y.grid.length=g.length:=by
  have h1:(rollOp k t b i).kind=k:=rfl
  have hcond:(decide (0≤(rollOp k t b i).row)&&decide ((rollOp k t b i).row≤(rollOp k t b i).col)&&decide ((rollOp k t b i).col<(St.start g r c).grid.length)&&decide (1≤(rollOp k t b i).n)&&decide ((rollOp k t b i).n≤(rollOp k t b i).col-(rollOp k t b i).row+1))=true:=by
   simp only[rollOp,St.start,zA4,decide_eq_true_eq]
   have:(b:Int)≤(g.length:Int):=by omega
   refine⟨⟨⟨⟨?_,?_⟩,?_⟩,?_⟩,?_⟩
   all_goals (apply decide_eq_true; omega)
  refine⟨{St.start g r c with grid:=rollR (widG g) g t (b-1) i (decide (k=5))},?_,?_⟩
  ·unfold St.does
   rw[h1,if_neg (by omega),if_neg (by omega),if_neg (by omega),if_neg (by omega),if_pos hk,if_pos hcond]
   simp only[rollOp,St.start,Int.toNat_natCast]
   rw[show ((b:Int)-1).toNat=b-1 by omega]
  ·show (rollR _ _ _ _ _ _).length=_
   unfold rollR
   simp only[zB6,zF6,zD8]
   split<;>simp only[zB6,zF6,zD8,List.length_replicate]<;>omega
 obtain⟨y,hy,hgl⟩:=hd
 have hall:St.all (widG g) ptsR [rollOp k t b i] 0 (St.start g r c)=.inl y:=by simp only[St.all,hy]
 have oky:=all_ok _ 0 _ y ok hall
 refine⟨y,hall,?_,hgl,oky.wid⟩
 unfold appV
 rw[if_pos hc,hall]
theorem nowR_len {g h:List (List Ce)} {r c:Int} (hl:g.length=h.length) (hc:chkR g r c=0):(nowR g h r c).length=g.length∧∀ l∈nowR g h r c,l.length=widG g:=by
 unfold nowR
 split
 ·rename_i x hx
  obtain⟨y,_,e,h1,h2⟩:=shift_does hx hl hc
  rw[e]
  exact⟨h1,h2⟩
 ·obtain⟨ok,_⟩:=chk_ok hc
  exact⟨rfl,ok.wid⟩
def GridR (H:AHeap) (v:Value) (g:List (List Ce)):Prop :=
 ∃ n off s c e o L,v=.slice (some ⟨n,off,s⟩) g.length c∧rk H n=some ⟨e,o,L⟩∧n<H.next∧off+g.length≤L.length∧∀ (k:Nat) (row:List Ce),g[k]?=some row→∃ rv,L[off+k]?=some rv∧RowS H rv row
section
variable {H G : AHeap} {v : Value} {g : List (List Ce)}
theorem GridR.mod0 (h:GridR H v g) (m:Mod [] H G):GridR G v g:=by
 obtain⟨n,off,s,c,e,o,L,rfl,hb,hn,hle,hr⟩:=h
 refine⟨n,off,s,c,e,o,L,rfl,(rk_get (m.get n hn (by simp))).trans hb,m.lt hn,hle,fun k row hk=>?_⟩
 obtain⟨rv,h1,h2⟩:=hr k row hk
 exact⟨rv,h1,h2.mod0 m⟩
theorem GridS.r (h:GridS H v g) (hne:g≠[]):GridR H v g:=by
 rcases h with h|⟨h0,rvs,hl,⟨n,off,s,c,e,o,M,rfl,h1,h2,h3,h4,h5⟩,hr⟩
 ·exact absurd h.1 hne
 ·refine⟨n,off,s,_,e,o,M,rfl,h2,h3,by omega,fun k row hk=>?_⟩
  obtain⟨rv,h6,h7⟩:=hr k row hk
  refine⟨rv,?_,h7⟩
  rw[←h5,List.getElem?_take,if_pos (by have:=(zE2.1 hk).1; omega),List.getElem?_drop]at h6
  exact h6
theorem OwnG.r {N:Nat} {rvs:List Value} (o:OwnG N H v rvs g) (hne:g≠[]):GridR H v g:=by
 rcases o.at_ with⟨h,_⟩|⟨m,s,c,q,rfl,hb,h1,h2,h3⟩
 ·exact absurd h hne
 have hlen:=o.len
 refine⟨m,0,s,c,_,q,rvs,rfl,rk_of hb,h2,by omega,fun k row hk=>?_⟩
 have hlt:=(zE2.1 hk).1
 refine⟨rvs[k]'(by omega),?_,(o.row k _ row (zA6 (by omega)) hk).rowS⟩
 rw[zC1]
 exact zA6 (by omega)
end
def GridF (N:Nat) (F:List Nat) (H:AHeap) (v:Value) (g:List (List Ce)):Prop :=
 ∃ n off s c e o L,v=.slice (some ⟨n,off,s⟩) g.length c∧rk H n=some ⟨e,o,L⟩∧n<H.next∧(n<N∨n∈F)∧off+g.length≤L.length∧∀ (k:Nat) (row:List Ce),g[k]?=some row→∃ rv,L[off+k]?=some rv∧RowS H rv row∧(row≠[]→∀ q∈idsV rv,q<N∨q∈F)
section
variable {N M : Nat} {F F' : List Nat} {H X : AHeap} {v : Value} {g : List (List Ce)}
theorem GridF.mod0 (h:GridF N F H v g) (m:Mod [] H X):GridF N F X v g:=by
 obtain⟨n,off,s,c,e,o,L,rfl,hb,hn,hi,hle,hr⟩:=h
 exact⟨n,off,s,c,e,o,L,rfl,(rk_get (m.get n hn (by simp))).trans hb,m.lt hn,hi,hle,fun k row hk=>let ⟨rv,h1,h2,h3⟩:=hr k row hk; ⟨rv,h1,h2.mod0 m,h3⟩⟩
theorem GridF.kp (h:GridF N F H v g) (m:KpN N F H X) (hne:∀ l∈g,l≠[]):GridF N F X v g:=by
 obtain⟨n,off,s,c,e,o,L,rfl,hb,hn,hi,hle,hr⟩:=h
 have:=m.next
 refine⟨n,off,s,c,e,o,L,rfl,(rk_get (m.get hn hi)).trans hb,by omega,hi,hle,fun k row hk=>?_⟩
 obtain⟨rv,h1,h2,h3⟩:=hr k row hk
 have h0:=hne row (zB9 hk)
 exact⟨rv,h1,h2.kp m (h3 h0),h3⟩
theorem GridR.f (h:GridR H v g) (hN:H.next≤N):GridF N F H v g:=by
 obtain⟨n,off,s,c,e,o,L,rfl,hb,hn,hle,hr⟩:=h
 refine⟨n,off,s,c,e,o,L,rfl,hb,hn,.inl (by omega),hle,fun k row hk=>?_⟩
 obtain⟨rv,h1,h2⟩:=hr k row hk
 refine⟨rv,h1,h2,fun h0 q hq=>.inl ?_⟩
 rcases h2 with⟨h,_⟩|⟨_,h⟩
 ·exact absurd h h0
 ·have:=(h.ne q hq).2; omega
theorem OwnG.f {rvs:List Value} (o:OwnG M H v rvs g) (hne:g≠[]) (hF:∀ n∈idsV v++rvs.flatMap idsV,n∈F):GridF N F H v g:=by
 rcases o.at_ with⟨h,_⟩|⟨m,s,c,q,rfl,hb,h1,h2,h3⟩
 ·exact absurd h hne
 have hlen:=o.len
 refine⟨m,0,s,c,_,q,rvs,rfl,rk_of hb,h2,.inr (hF m (zD4 _ (by simp[idsV]))),by omega,fun k row hk=>?_⟩
 have hlt:=(zE2.1 hk).1
 refine⟨rvs[k]'(by omega),?_,(o.row k _ row (zA6 (by omega)) hk).rowS,fun _ q hq=>.inr (hF q (zD5 _ (zE3.2 ⟨_,List.getElem_mem (by omega),hq⟩)))⟩
 rw[zC1]
 exact zA6 (by omega)
end
theorem piecesR_len (row:Nat) (a b:List Ce) (e:Nat) (he:e≤b.length):∀ (f i:Nat) (p:Lk),i≤b.length→(piecesR row a b e f i p).1.length≤3*(b.length-i)
 |0,i,p,_=>zB0 _
 |f+1,i,p,hi=>by
  have h1:=pieceR_ge a b i e
  have h2:=pieceR_le a b i e he hi
  rw[piecesR]
  split
  ·rename_i hst
   have h3:=runsR_len row (pieceR a b i e).1 ((b.take (pieceR a b i e).2).drop (pieceR a b i e).1) p
   have h4:((b.take (pieceR a b i e).2).drop (pieceR a b i e).1).length=(pieceR a b i e).2-(pieceR a b i e).1:=by simp; omega
   have h5:=piecesR_len row a b e he f (pieceR a b i e).2 (runsR row (pieceR a b i e).1 ((b.take (pieceR a b i e).2).drop (pieceR a b i e).1) p).2 h2
   simp only[zB6]
   omega
  ·exact zB0 _
theorem lineR_len (row:Nat) (a b:List Ce) (p:Lk):(lineR row a b p).1.length≤3*b.length+2:=by
 have h:=piecesR_len row a b (tailR b b.length) (tailR_le b b.length) (b.length+1) 0 p (zB0 _)
 simp only[lineR,zB6,endR]
 split<;>simp only[zC3,zB5]<;>omega
def opsV (g h:List (List Ce)) (r c r2 c2:Int):List Op × Int :=
 if chkR g r c≠0 then ([],chkR g r c) else if chkR h r2 c2≠0 then ([],chkR h r2 c2) else if g.length≠h.length∨widG g≠widG h then ([],3) else (opsR g h r c r2 c2,0)
theorem rowsR_step {i:Nat} {g h:List (List Ce)} {a b:List Ce} (p:Lk) (ha:g[i]?=some a) (hb:h[i]?=some b) :
  rowsR i (g.drop i) (h.drop i) p=if a=b then rowsR (i+1) (g.drop (i+1)) (h.drop (i+1)) p else (lineR i a b p).1++rowsR (i+1) (g.drop (i+1)) (h.drop (i+1)) (lineR i a b p).2:=by
 have h1:=(zE2.1 ha)
 have h2:=(zE2.1 hb)
 obtain⟨l1,e1⟩:=h1
 obtain⟨l2,e2⟩:=h2
 rw[zF0 l1,zF0 l2,e1,e2,rowsR]
theorem rowsR_end {i:Nat} {g h:List (List Ce)} (p:Lk) (hi:h.length≤i):rowsR i (g.drop i) (h.drop i) p=[]:=by
 rw[zE7 hi]
 cases g.drop i<;>rfl
theorem kind_s (N:Nat) (H:AHeap) (p W:Nat) (v:Value) (rvs:List Value) (x:St) (o:Op) (k f:Nat) (hk:o.kind=(k:Int)) (hf:kindF[k]?=some f) (a:StAt 76 N H p v rvs x) (sl:Slc v) (hok:H.base≤H.next) (ok:x.Ok W) (h56:o.kind=5∨o.kind=6) :
  CallA Tryd.prog f [.pointer (some ⟨p,0,none⟩),o.val] H (StepR 76 N p (x.does W ptsR o) H):=by
 rw[does_eq,hk]
 rw[hk]at h56
 match k,hf,h56 with
 |5,hf,_=>obtain rfl:=Option.some.inj hf; rw[if_neg (by decide),if_neg (by decide),if_neg (by decide),if_neg (by decide),if_pos (by decide)]; exact remove_c N H p W v rvs x o a sl hok ok
 |6,hf,_=>obtain rfl:=Option.some.inj hf; rw[if_neg (by decide),if_neg (by decide),if_neg (by decide),if_neg (by decide),if_neg (by decide),if_pos (by decide)]; exact insert_c N H p W v rvs x o a sl hok ok
 |0,_,h=>exact absurd h (by omega)
 |1,_,h=>exact absurd h (by omega)
 |2,_,h=>exact absurd h (by omega)
 |3,_,h=>exact absurd h (by omega)
 |4,_,h=>exact absurd h (by omega)
 |7,_,h=>exact absurd h (by omega)
 |8,_,h=>exact absurd h (by omega)
 |k+9,_,h=>exact absurd h (by omega)
theorem executed_s (N:Nat) (H:AHeap) (p W:Nat) (v ov:Value) (rvs:List Value) (x:St) (l:List Op) (hl:OpsAt H ov l) (hov:l≠[]→∀ n∈idsV ov,n<N) (a:StAt 76 N H p v rvs x) (sl:Slc v) (hNH:N≤H.next) (hok:H.base≤H.next) (ok:x.Ok W) (h56:∀ o∈l,o.kind=5∨o.kind=6) (hll:l.length≤10000) :
  CallA Tryd.prog 49 [.pointer (some ⟨p,0,none⟩),ov] H (AllR N p (St.all W ptsR l 0 x) H):=by
 obtain⟨b,hb⟩:∃ b,H.next=b:=⟨_,rfl⟩
 have hbb:H.base≤b:=hb▸hok
 obtain⟨ao,co,eo⟩:=hl.sl
 have hst:∀ (M:Nat) (l:List Value),l.length=9→stB Tryd.prog 102 M 0 (.agg ⟨kindsV⟩) (some ⟨102,false,l⟩)=some ⟨102,false,kindsV⟩:=fun M l h=>by
  have hv:(Value.agg ⟨kindsV⟩).cells.toList=kindsV:=rfl
  rw[stB_ok (by rw[hv]; kernel_rfl) (by rw[hv,h]; decide) (by rw[hv]; rfl) (by rw[hv]; rfl),hv,putL_head _ _ (by rw[h]; decide),zE7 (by rw[h]; decide),zD0]
 have hcl:(Value.agg ⟨kindsV⟩).cells.toList=kindsV:=rfl
 have hps:putL ([.nilFunc,.nilFunc,.nilFunc,.nilFunc,.nilFunc,.nilFunc,.nilFunc,.nilFunc,.nilFunc]:List Value) 0 kindsV=kindsV:=rfl
 refine callE_fn mixed Tryd.func49 rfl Tryd.ntmps49 (zA9 rfl) ?_
 rw[eo]
 simp (maxDischargeDepth:=6) only[w_defer,ruW,putL,Nat.reduceLeDiff,xF,ruU,entryE,Nat.reduceLT,Nat.reduceAdd,Nat.reduceMul,Nat.reduceEqDiff]
 refine (kinds_c (ext H [])).to ?_
 simp (maxDischargeDepth:=6) only[hb,hbb,hst,hcl,hps,ruW,putL,Nat.reduceLeDiff,xF,ruU,entryE,Nat.reduceLT,Nat.reduceAdd,Nat.reduceMul,Nat.reduceEqDiff]
 rw[←eo]
 refine w_env fun E hE=>?_
 have g0:E 0=.pointer (some ⟨p,0,none⟩):=by rw[hE]; simp only[ruU,entryE,Nat.reduceLT,Nat.reduceAdd,Nat.reduceMul,Nat.reduceEqDiff]
 have g4:E 4=.int .i64 ((0:Nat):Int):=by rw[hE]; (simp only[ruU,entryE,Nat.reduceLT,Nat.reduceAdd,Nat.reduceMul,Nat.reduceEqDiff]<;>rfl)
 have g5:E 5=.pointer (some ⟨b+0,0,none⟩):=by rw[hE]; simp only[ruU,entryE,Nat.reduceLT,Nat.reduceAdd,Nat.reduceMul,Nat.reduceEqDiff]
 have g9:E 9=ov:=by rw[hE,eo]; simp only[ruU,entryE,Nat.reduceLT,Nat.reduceAdd,Nat.reduceMul,Nat.reduceEqDiff]
 have g10:E 10=.int .i64 (l.length:Int):=by rw[hE]; simp only[ruU,entryE,Nat.reduceLT,Nat.reduceAdd,Nat.reduceMul,Nat.reduceEqDiff]
 have g11:E 11=.int .i64 ((0:Nat):Int):=by rw[hE]; (simp only[ruU,entryE,Nat.reduceLT,Nat.reduceAdd,Nat.reduceMul,Nat.reduceEqDiff]<;>rfl)
 clear hE
 obtain⟨X,hX⟩:∃ X,ext H [⟨102,false,kindsV⟩]=X:=⟨_,rfl⟩
 have mX:Mod [] H X:=hX▸Mod.ext hok
 have kX:bk X (b+0)=some ⟨102,false,kindsV⟩:=by rw[←hX,bk_at hb (by simp)]; rfl
 have nX:X.next=b+1:=by rw[←hX,ext_next,hb]; rfl
 have okX:=mX.ok hok
 have aX:=a.mod0 mX
 rw[hX]
 rw[show X=ext X [] from rfl]
 have mXN:ModN N H X:=ModN.of (Ws:=[]) mX (by simp)
 have fin:∀ (Y:AHeap) (E:Env) (i:Nat),ModN N X Y→E 4=.int .i64 (i:Int)→St.all W ptsR l 0 x=.inr i→leaveA Tryd.prog Tryd.f49 (mkA 34 E [⟨.fn (.func 68) #[],⟨[]⟩⟩]) [⟨.fn (.func 68) #[],⟨[]⟩⟩] (.panicking [refusedP]) Y (AllR N p (St.all W ptsR l 0 x) H):=fun Y E i mY e4 hr=>by
  refine leave_pan (mY.ok okX) (fun j hj=>?_) (by decide)
  rw[e4]at hj
  subst hj
  rw[hr]
  exact⟨(mXN.trans mY).trans (ModN.of (Ws:=[]) (Mod.ext (mY.ok okX)) (by simp)),rfl⟩
 refine blockC_meet (fun E' Y=>ModN N X Y∧∃ y v rvs,St.all W ptsR l 0 x=.inl y∧Slc v∧StAt 76 N Y p v rvs y) ?_ ?_
 ·refine w_loop (fun (q:Nat × St × Value × List Value) E' Y=>ModN N X Y∧E' 0=.pointer (some ⟨p,0,none⟩)∧E' 5=.pointer (some ⟨b+0,0,none⟩)∧E' 9=ov∧E' 10=.int .i64 (l.length:Int)∧E' 11=.int .i64 (q.1:Int)∧q.1≤l.length∧St.all W ptsR (l.drop q.1) q.1 q.2.1=St.all W ptsR l 0 x∧q.2.1.Ok W∧Slc q.2.2.1∧StAt 76 N Y p q.2.2.1 q.2.2.2 q.2.1) (fun q=>l.length-q.1) (0,x,v,rvs)
   ⟨ModN.refl,g0,g5,g9,g10,g11,zB0 _,rfl,ok,sl,aX⟩ ?_
  clear g0 g4 g5 g9 g10 g11
  rintro⟨k,y,u,us⟩ E Y ⟨mY,g0,g5,g9,g10,g11,hk,hall,oky,slu,aY⟩
  simp only at g11 hk hall oky slu aY
  rw[show Y=ext Y [] from rfl]
  by_cases hkl:k=l.length
  ·have hc:decide ((k:Int)<(l.length:Int))=false:=by simp[hkl]
   simp (maxDischargeDepth:=6) only[g10,g11,hc,ruW,putL,Nat.reduceLeDiff,xF,ruU,entryE,Nat.reduceLT,Nat.reduceAdd,Nat.reduceMul,Nat.reduceEqDiff]
   rw[zE7 (by omega),St.all]at hall
   exact joinR_normal ⟨mY,y,u,us,hall.symm,slu,aY⟩
  ·have hlt:k<l.length:=by omega
   have hc:decide ((k:Int)<(l.length:Int))=true:=decide_eq_true (by omega)
   obtain⟨o,ho⟩:∃ o,l[k]?=some o:=⟨_,zA6 hlt⟩
   have okY:=mY.ok okX
   obtain⟨yn,hyn⟩:∃ n,Y.next=n:=⟨_,rfl⟩
   have hyb:Y.base≤yn:=hyn▸okY
   have hby:b+0<yn:=by have:=mY.next; omega
   have kY:bk Y (b+0)=some ⟨102,false,kindsV⟩:=mY.kinds (by omega) kX
   rcases hl with⟨h,_⟩|⟨hne,no,off,so,co',eo1,oo,L,eov,hrk,hno,hle,hop⟩
   ·rw[h]at hlt; simp at hlt
   have hnoN:no<N:=hov hne no (by rw[eov]; simp[idsV])
   have hnoY:rk Y no=some ⟨eo1,oo,L⟩:=by
    obtain⟨Ws,h1,m1⟩:=mXN.trans mY
    exact (rk_get (m1.get no hno fun h=>by have:=(h1 no h).1; omega)).trans hrk
   have hnoy:no<yn:=by have:=(mXN.trans mY).next; omega
   have ia:=op_ia (len:=l.length) (cap:=co') (n:=no) (off:=off) (s:=so) (i:=(k:Int)) rfl hlt
   have ld:=op_load (e:=eo1) (o:=oo) ho hle hop
   rw[eov]at g9
   simp (maxDischargeDepth:=6) only[g0,g5,g9,g10,g11,hc,hyn,hyb,hnoy,ia,hnoY,ld,qk_old,Op.val,Op.cells,ruW,putL,Nat.reduceLeDiff,xF,ruU,entryE,Nat.reduceLT,Nat.reduceAdd,Nat.reduceMul,Nat.reduceEqDiff]
   obtain⟨d1,h1⟩:∃ d,decide (0≤o.kind)=d:=⟨_,rfl⟩
   obtain⟨d2,h2⟩:∃ d,decide (o.kind<9)=d:=⟨_,rfl⟩
   have mB:Mod [] Y (ext Y [⟨47,false,o.cells⟩]):=Mod.ext okY
   have mBN:ModN N X (ext Y [⟨47,false,o.cells⟩]):=mY.trans (ModN.of (Ws:=[]) mB (by simp))
   by_cases hv:(d1&&d2)=true
   ·simp only[zA4]at hv
    obtain⟨rfl,rfl⟩:=hv
    have q1:=of_decide_eq_true h1
    have q2:=of_decide_eq_true h2
    obtain⟨j,hj⟩:∃ j:Nat,o.kind=j:=⟨o.kind.toNat,by omega⟩
    have hj9:j<9:=by omega
    obtain⟨f,hf⟩:∃ f,kindF[j]?=some f:=⟨_,zA6 (show j<9 from hj9)⟩
    have hbf:hasBody Tryd.prog f=true:=zC0.1 kindF_body f (zB9 hf)
    simp (maxDischargeDepth:=6) only[h1,h2,hyn,hyb,ruW,putL,Nat.reduceLeDiff,xF,ruU,entryE,Nat.reduceLT,Nat.reduceAdd,Nat.reduceMul,Nat.reduceEqDiff]
    refine CallS.to (needs_t _) ?_
    have ix:aIndexAddr Tryd.prog 102 (.pointer (some ⟨b+0,0,none⟩)) (.int .i64 (j:Int))=some (.pointer (some ⟨b+0,0+j,none⟩)):=by
     have hu:Tryd.prog.underlying 102=some (.array 9 101):=by kernel_rfl
     have hz:szOf Tryd.prog 101=some 1:=by kernel_rfl
     simp only[aIndexAddr,hu,hz,zA1,zA3]
     rw[if_pos ⟨by omega,by omega⟩]
     simp[Addr.add]
     omega
    have lk:ldB Tryd.prog 101 (0+j) (some ⟨102,false,kindsV⟩)=some (.func (.func f) ⟨[]⟩ ⟨[]⟩):=by
     rw[ld_one (by kernel_rfl),zC1]
     simp only[kindsV,List.getElem?_map,hf,zA7]
     rfl
    simp (maxDischargeDepth:=6) only[g0,g5,hyn,hj,ruW,putL,Nat.reduceLeDiff,xF,ruU,entryE,Nat.reduceLT,Nat.reduceAdd,Nat.reduceMul,Nat.reduceEqDiff]
    refine w_drawP [] [] (by kernel_rfl) (by kernel_rfl) rfl rfl (fun ops anc hA hG=>?_) (by simp) ⟨rfl,rfl⟩
    simp (maxDischargeDepth:=6) only[dropLast_more,dropLast_one,g0,g5,hyn,hby,kY,ix,lk,ruD,ruW,putL,Nat.reduceLeDiff,xF,ruU,entryE,Nat.reduceLT,Nat.reduceAdd,Nat.reduceMul,Nat.reduceEqDiff]
    simp only[lastO_cons,lastO_one,isDef_call,ff_eq,true_and]
    refine w_callV (f:=f) (ca:=[]) (by simp only[ruU,entryE,Nat.reduceLT,Nat.reduceAdd,Nat.reduceMul,Nat.reduceEqDiff]) (by simp only[ruU,entryE,Nat.reduceLT,Nat.reduceAdd,Nat.reduceMul,Nat.reduceEqDiff]) (by simp only[ruU,entryE,Nat.reduceLT,Nat.reduceAdd,Nat.reduceMul,Nat.reduceEqDiff]) hbf ?_
    simp only[ruU,entryE,Nat.reduceLT,Nat.reduceAdd,Nat.reduceMul,Nat.reduceEqDiff]
    rw[zD0]
    have aB:=aY.mod0 mB
    have key:=kind_s N (ext Y [⟨47,false,o.cells⟩]) p W u us y o j f hj hf aB slu (mB.ok okY) oky (h56 o (zB9 ho))
    simp only[Op.val,Op.cells,hj]at key
    refine key.mono ?_
    rintro out Z ⟨mZ,hr⟩
    replace mZ:ModN N (ext Y [⟨47,false,o.cells⟩]) Z:=by simp only[Op.cells,hj]; exact mZ
    have mZN:=mBN.trans mZ
    cases hd:y.does W ptsR o with
    |none =>
     rw[hd]at hr
     obtain rfl:=hr
     have hstop:=all_stop (W:=W) l k k y o ho hd
     rw[hstop]at hall
     simp only[opC_error,seqC_panic,blockC_panic,loopC_panic,joinR_panic,endA_panic]
     exact fin _ _ k mZN (by simp only[ruU,entryE,Nat.reduceLT,Nat.reduceAdd,Nat.reduceMul,Nat.reduceEqDiff]) hall.symm
    |some y2 =>
     rw[hd]at hr
     obtain⟨rfl,v2,us2,sl2,a2⟩:=hr
     rw[all_drop l k k y y2 o ho hd]at hall
     rw[show Z=ext Z [] from rfl]
     simp (maxDischargeDepth:=6) only[g11,wrap_succ (show k<1000000 by omega),ruW,putL,Nat.reduceLeDiff,xF,ruU,entryE,Nat.reduceLT,Nat.reduceAdd,Nat.reduceMul,Nat.reduceEqDiff]
     refine loopC_next ⟨(k+1,y2,v2,us2),by simp only; omega,mZN,?_,?_,?_,?_,?_,by simp only; omega,hall,does_ok oky hd,sl2,a2⟩
     ·simp only[g0,ruU,entryE,Nat.reduceLT,Nat.reduceAdd,Nat.reduceMul,Nat.reduceEqDiff]
     ·simp only[g5,ruU,entryE,Nat.reduceLT,Nat.reduceAdd,Nat.reduceMul,Nat.reduceEqDiff]
     ·simp only[g9,eov,ruU,entryE,Nat.reduceLT,Nat.reduceAdd,Nat.reduceMul,Nat.reduceEqDiff]
     ·simp only[g10,ruU,entryE,Nat.reduceLT,Nat.reduceAdd,Nat.reduceMul,Nat.reduceEqDiff]
     ·simp only[ruU,entryE,Nat.reduceLT,Nat.reduceAdd,Nat.reduceMul,Nat.reduceEqDiff]
   ·have hdn:y.does W ptsR o=none:=by
     rw[does_eq]
     have:o.kind<0∨9≤o.kind:=by
      cases d1 with
      |false=>have:=of_decide_eq_false h1; omega
      |true =>
       cases d2 with
       |false=>have:=of_decide_eq_false h2; omega
       |true=>exact absurd rfl hv
     rw[if_neg (by omega),if_neg (by omega),if_neg (by omega),if_neg (by omega),if_neg (by omega),if_neg (by omega),if_neg (by omega),if_neg (by omega)]
    have hstop:=all_stop (W:=W) l k k y o ho hdn
    rw[hstop]at hall
    have hs:d1=false∨(d1=true∧d2=false):=by cases d1<;>cases d2<;>simp_all
    rcases hs with rfl|⟨rfl,rfl⟩
    ·simp (maxDischargeDepth:=6) only[h1,ruW,putL,Nat.reduceLeDiff,xF,ruU,entryE,Nat.reduceLT,Nat.reduceAdd,Nat.reduceMul,Nat.reduceEqDiff]
     refine CallS.panics (needs_f _) ?_
     simp only[opC_error,seqC_panic,blockC_panic,loopC_panic,joinR_panic,endA_panic]
     exact fin _ _ k mBN (by simp only[ruU,entryE,Nat.reduceLT,Nat.reduceAdd,Nat.reduceMul,Nat.reduceEqDiff]) hall.symm
    ·simp (maxDischargeDepth:=6) only[h1,h2,hyn,hyb,ruW,putL,Nat.reduceLeDiff,xF,ruU,entryE,Nat.reduceLT,Nat.reduceAdd,Nat.reduceMul,Nat.reduceEqDiff]
     refine CallS.panics (needs_f _) ?_
     simp only[opC_error,seqC_panic,blockC_panic,loopC_panic,joinR_panic,endA_panic]
     exact fin _ _ k mBN (by simp only[ruU,entryE,Nat.reduceLT,Nat.reduceAdd,Nat.reduceMul,Nat.reduceEqDiff]) hall.symm
 ·rintro E Y ⟨mY,y,u,us,hall,slu,aY⟩
  rw[show Y=ext Y [] from rfl]
  simp (maxDischargeDepth:=6) only[ruW,putL,Nat.reduceLeDiff,xF,ruU,entryE,Nat.reduceLT,Nat.reduceAdd,Nat.reduceMul,Nat.reduceEqDiff]
  rw[hall]
  refine leave_ret (mY.ok okX) (fun i hi=>?_) (by decide)
  simp only[ruU,entryE,Nat.reduceLT,Nat.reduceAdd,Nat.reduceMul,Nat.reduceEqDiff]at hi
  subst hi
  exact⟨(mXN.trans mY).trans (ModN.of (Ws:=[]) (Mod.ext (mY.ok okX)) (by simp)),rfl,u,us,slu,aY.mod0 (Mod.ext (mY.ok okX))⟩
theorem apply_s (H:AHeap) (v ov:Value) (g:List (List Ce)) (r c:Int) (l:List Op) (hg:GridAt H v g) (hl:OpsAt H ov l) (hok:H.base≤H.next) (hs:scb H.next v=true) (hw:∀ l∈g,l.length≤10000) (hgl:g.length≤10000)
  (h56:∀ o∈l,o.kind=5∨o.kind=6) (hll:l.length≤10000) :
  CallA Tryd.prog 22 [.agg ⟨[v,.int .i64 r,.int .i64 c]⟩,ov] H (AppR H g r c l):=by
 obtain⟨b,hb⟩:∃ b,H.next=b:=⟨_,rfl⟩
 have hbb:H.base≤b:=hb▸hok
 obtain⟨a0,c0,e0⟩:=hg.sl
 rw[hb]at hs
 have hs':=hs
 rw[e0]at hs
 obtain⟨k,hk⟩:∃ k,chkR g r c=k:=⟨_,rfl⟩
 refine callE_fn mixed Tryd.func22 rfl Tryd.ntmps22 (zA9 rfl) ?_
 rw[e0]
 simp (maxDischargeDepth:=6) only[hb,hbb,hs,ruW,putL,Nat.reduceLeDiff,xF,ruU,entryE,Nat.reduceLT,Nat.reduceAdd,Nat.reduceMul,Nat.reduceEqDiff]
 rw[←e0]
 obtain⟨X,hX⟩:∃ X,ext H [⟨24,false,[v,.int .i64 r,.int .i64 c]⟩,⟨24,false,[.slice none 0 0,.int .i64 0,.int .i64 0]⟩]=X:=⟨_,rfl⟩
 have mX:Mod [] H X:=hX▸Mod.ext hok
 have nX:X.next=b+2:=by rw[←hX,ext_next,hb]; rfl
 have k0:bk X (b+0)=some ⟨24,false,[v,.int .i64 r,.int .i64 c]⟩:=by rw[←hX,bk_at hb (by simp)]; rfl
 have k1:bk X (b+1)=some ⟨24,false,[.slice none 0 0,.int .i64 0,.int .i64 0]⟩:=by rw[←hX,bk_at hb (by simp)]; rfl
 have okX:=mX.ok hok
 have gX:GridAt X v g:=hX▸hg.ext
 rw[hX]
 have hck:=check39_c X v g r c gX (fun l hl=>by have:=hw l hl; omega) (by omega)
 rw[hk]at hck
 rw[show X=ext X [] from rfl]
 refine hck.to ?_
 rw[show X=ext X [] from rfl]
 have l0:b+0<b+2:=by omega
 have l1:b+1<b+2:=by omega
 by_cases hk0:k=0
 ·have hd:decide (¬k=0)=false:=by simp[hk0]
  rw[hk0]at hk
  obtain⟨ok,hne,hgne⟩:=chk_ok hk
  obtain⟨W,hW⟩:∃ W,widG g=W:=⟨_,rfl⟩
  rw[hW]at ok
  obtain⟨F,hF,hFG⟩:=gX.foot hgne
  have hrn:=restrict_next X F
  obtain⟨gR,_⟩:=hFG (X.restrict F) (by rw[hrn.1]; exact zA5 _) (fun n hn=>by rw[restrict_get,if_pos hn])
  obtain⟨_,gg,hcc,u,rvs,rfl,gr,mg⟩:=clone39_c (X.restrict F) v g r c gR (by rw[hrn.1,hrn.2.1]; exact zA5 _) (by rw[hrn.1,nX]; exact scb_mono (by omega) _ hs') hne hw hgl
  rw[hrn.1]at gr
  simp (maxDischargeDepth:=6) only[hd,ruW,putL,Nat.reduceLeDiff,xF,ruU,entryE,Nat.reduceLT,Nat.reduceAdd,Nat.reduceMul,Nat.reduceEqDiff]
  refine w_drawB [(10,1),(11,10),(11,1),(12,11),(12,1)] [] (by kernel_rfl) (by kernel_rfl) rfl fun ops anc hA hG=>?_
  simp only[all2_cons]at hA
  simp (maxDischargeDepth:=6) only[nX,k0,l0,hA,ruD,ruW,putL,Nat.reduceLeDiff,xF,ruU,entryE,Nat.reduceLT,Nat.reduceAdd,Nat.reduceMul,Nat.reduceEqDiff]
  refine genV_mod (H:=ext X []) (W:=[]) F okX (by simp only[ruU,entryE,Nat.reduceLT,Nat.reduceAdd,Nat.reduceMul,Nat.reduceEqDiff]) (by kernel_rfl) (fun n hn=>(hF n hn).1) (fun n hn=>(hF n hn).2) (fun _ h=>by simp at h) (v:=.agg ⟨[u,.int .i64 r,.int .i64 c]⟩) (g:=gg) (by simp only[ruU,entryE,Nat.reduceLT,Nat.reduceAdd,Nat.reduceMul,Nat.reduceEqDiff]; exact hcc) mg (by simp only[all2_cons,all2_nil,hA,true_or,and_true]; simp) ?_
  intro Z D mZ hFZ hNZ hnZ hDZ
  have hD0:D=[]:=List.eq_nil_iff_forall_not_mem.2 (fun q hq=>by simpa using hDZ q hq)
  subst hD0
  replace mZ:Mod [] X Z:=mZ
  replace hNZ:∀ m,X.next≤m→m<gg.next→Z.get m=gg.get m:=hNZ
  have grZ:Grow (b+2) Z u rvs g:=by
   have:=gr.of (Y:=Z) (by omega) (fun n hn hm=>hNZ n (by
    rcases zB4.1 hm with hm|hm
    ·exact (gr.apart n hm).1
    ·exact (gr.ids n hm).1) hn)
   rw[nX]at this
   exact this
  obtain⟨au,eu⟩:=grZ.at_.len
  have hsu:=grZ.at_.sc
  have slu:Slc u:=by
   obtain⟨_,_,⟨h0,_⟩|⟨_,n,e,_⟩⟩:=grZ.at_
   ·exact absurd (List.length_eq_zero_iff.1 h0) hgne
   ·exact⟨n,_,e⟩
  have okZ:=mZ.ok okX
  obtain⟨zn,hzn⟩:∃ z,Z.next=z:=⟨_,rfl⟩
  have hzb:Z.base≤zn:=hzn▸okZ
  have hz2:b+2≤zn:=by have:=mZ.next; omega
  have kz0:bk Z (b+0)=_:=(mZ.bk (by omega) (by simp)).trans k0
  have kz1:bk Z (b+1)=_:=(mZ.bk (by omega) (by simp)).trans k1
  have hg2:gg.next=zn:=by omega
  have l0z:b+0<zn:=by omega
  rw[hzn]at hsu
  rw[eu]at hsu
  rw[show Z=ext Z [] from rfl,eu]
  simp (maxDischargeDepth:=6) only[hzn,hzb,kz0,l0z,hg2,hsu,nX,hA,ruD,ruW,putL,Nat.reduceLeDiff,xF,ruU,entryE,Nat.reduceLT,Nat.reduceAdd,Nat.reduceMul,Nat.reduceEqDiff]
  rw[←eu]
  obtain⟨Y1,hY1⟩:∃ Y1,ext Z [⟨76,false,(St.start g r c).cells u⟩]=Y1:=⟨_,rfl⟩
  have mY1:Mod [] Z Y1:=hY1▸Mod.ext okZ
  have nY1:Y1.next=zn+1:=by rw[←hY1,ext_next,hzn]; rfl
  have kp:bk Y1 (zn+0)=some ⟨76,false,(St.start g r c).cells u⟩:=by rw[←hY1,bk_at hzn (by simp)]; rfl
  have mHZ:Mod [] H Z:=mX.trans mZ
  have mHY:Mod [] H Y1:=mHZ.trans mY1
  have aY1:StAt 76 (b+2) Y1 (zn+0) u rvs (St.start g r c):=by
   have own:=grZ.own
   refine⟨kp,own.of mY1.next fun n h1 h2 h3=>mY1.get n h2 (by simp),fun h=>?_,by omega,by omega⟩
   rcases zB4.1 h with h|h
   ·have:=(own.idv _ h).2.1; omega
   ·have:=(own.ids _ h).2.1; omega
  have key:=executed_s (b+2) Y1 (zn+0) W u ov rvs (St.start g r c) l (hl.mod0 mHY) (fun h n hn=>by have:=hl.old h n hn; omega) aY1 slu (by omega) (mY1.ok okZ) ok h56 hll
  simp only[St.start,St.cells]at hY1
  rw[hY1]
  refine key.mono ?_
  rintro out Y ⟨mY,hr⟩
  have keep:∀ n,n<b+2→bk Y n=bk Y1 n:=fun n hn=>by
   obtain⟨Ws,h1,m1⟩:=mY
   exact m1.bk (by omega) fun h=>by have:=(h1 n h).1; omega
  have ky1:=(keep (b+1) (by omega)).trans ((mY1.bk (by omega) (by simp)).trans kz1)
  have mHYf:Mod [] H Y:=mY.mod mHY hok (by omega)
  have okY:=mY.ok (mY1.ok okZ)
  obtain⟨yn,hyn⟩:∃ n,Y.next=n:=⟨_,rfl⟩
  have hyb:Y.base≤yn:=hyn▸okY
  have hzy:zn+1≤yn:=by have:=mY.next; omega
  have l1y:b+1<yn:=by omega
  rw[show Y=ext Y [] from rfl]
  cases hall:St.all W ptsR l 0 (St.start g r c) with
  |inr i =>
   rw[hall]at hr
   obtain rfl:=hr
   have hdi:decide ((0:Int)≤(i:Int))=true:=decide_eq_true (by omega)
   simp (maxDischargeDepth:=6) only[hyn,ky1,l1y,hdi,Tryd.results22,ruW,putL,Nat.reduceLeDiff,xF,ruU,entryE,Nat.reduceLT,Nat.reduceAdd,Nat.reduceMul,Nat.reduceEqDiff]
   have mU:Mod [b+1] Y (uw Y (b+1) 0 [.slice none 0 0,.int .i64 0,.int .i64 0]):=Mod.uw (by simp)
   refine⟨mHYf.step mU hok (fun n hn=>.inr (by simp only[zA8]at hn; omega)),?_⟩
   rw[if_pos hk,hW,hall]
  |inl y =>
   rw[hall]at hr
   obtain⟨rfl,u2,rvs2,sl2,a2⟩:=hr
   have hdi:decide ((0:Int)≤-1)=false:=by decide
   have kpy:=a2.cell
   simp only[St.cells]at kpy
   have lpy:zn+0<yn:=by omega
   have oky:=all_ok l 0 _ y ok hall
   simp (maxDischargeDepth:=6) only[hyn,lpy,kpy,hdi,ruW,putL,Nat.reduceLeDiff,xF,ruU,entryE,Nat.reduceLT,Nat.reduceAdd,Nat.reduceMul,Nat.reduceEqDiff]
   obtain⟨a3,m3⟩:=a2.putU (y:={y with sr:=-1}) okY (off:=1) (vs:=[.int .i64 (-1)]) (L:=[]) rfl rfl
   obtain⟨a4,m4⟩:=a3.putU (y:={y with sr:=-1,sc:=0}) (m3.ok okY) (off:=2) (vs:=[.int .i64 0]) (L:=[]) rfl rfl
   have ok4:=m4.ok (m3.ok okY)
   have m34:Mod [zn+0] Y (ext (uw (uw Y (zn+0) 1 [.int .i64 (-1)]) (zn+0) 2 [.int .i64 0]) []):=m3.trans m4
   generalize hY4:ext (uw (uw Y (zn+0) 1 [.int .i64 (-1)]) (zn+0) 2 [.int .i64 0]) []=Y4 at a4 ok4 m34 ⊢
   replace a4:StAt 76 (b+2) Y4 (zn+0) u2 rvs2 {y with sr:=-1,sc:=0}:=hY4▸a4
   replace ok4:Y4.base≤Y4.next:=hY4▸ok4
   rw[show Y4=ext Y4 [] from rfl]
   refine condC_meet (fun E' Z2=>Mod [zn+0] Y Z2∧E' 4=.pointer (some ⟨b+1,0,none⟩)∧E' 8=.pointer (some ⟨zn+0,0,none⟩)∧StAt 76 (b+2) Z2 (zn+0) u2 rvs2 {y with sr:=y.atR,sc:=y.atC W}) ?_ ?_
   ·have oky4:St.Ok {y with sr:=-1,sc:=0} W:=⟨oky.h1,oky.h2,oky.w1,oky.w2,oky.wid,oky.row0,oky.row1,oky.col0,oky.col1⟩
    obtain⟨m,hml,hmp,⟨_,_,_,hmb⟩,hwd⟩:=dwidth_c a4 oky4
    have hFn:∀ n∈[zn+0,m],(ext Y4 []).get n≠none:=fun n hn=>by
     simp only[zB2,List.not_mem_nil,or_false]at hn
     rcases hn with rfl|rfl
     ·exact bk_ne a4.cell
     ·exact bk_ne hmb
    have n4:Y4.next=yn:=by rw[←hY4,ext_next,uw_next,uw_next,hyn]; rfl
    have k4:=a4.cell
    simp only[St.cells]at k4
    cases hsh:y.shown with
    |false =>
     have e1:y.atR=-1:=by simp[St.atR,hsh]
     have e2:y.atC W=0:=by simp[St.atC,hsh]
     rw[e1,e2]
     simp (maxDischargeDepth:=6) only[ruW,putL,Nat.reduceLeDiff,xF,ruU,entryE,Nat.reduceLT,Nat.reduceAdd,Nat.reduceMul,Nat.reduceEqDiff]
     rw[hsh]at a4
     exact joinR_normal ⟨m34,by simp only[ruU,entryE,Nat.reduceLT,Nat.reduceAdd,Nat.reduceMul,Nat.reduceEqDiff],by simp only[ruU,entryE,Nat.reduceLT,Nat.reduceAdd,Nat.reduceMul,Nat.reduceEqDiff],a4⟩
    |true =>
     have e1:y.atR=y.row:=by simp[St.atR,hsh]
     have e2:y.atC W=min y.col ((W:Int)-1):=by simp[St.atC,hsh]
     have hw1:IntKind.i64.wrap ((W:Int)-1)=(W:Int)-1:=wrap_sm (by have:=oky.w1; omega) (by have:=oky.w2; omega)
     rw[e1,e2]
     simp (maxDischargeDepth:=6) only[ruW,putL,Nat.reduceLeDiff,xF,ruU,entryE,Nat.reduceLT,Nat.reduceAdd,Nat.reduceMul,Nat.reduceEqDiff]
     refine w_drawB [(17,5),(17,9),(17,11),(21,17),(21,5),(21,9),(21,11)] [] (by kernel_rfl) (by kernel_rfl) rfl fun ops anc hA hG=>?_
     simp only[all2_cons]at hA
     simp (maxDischargeDepth:=6) only[n4,lpy,k4,hA,ruD,ruW,putL,Nat.reduceLeDiff,xF,ruU,entryE,Nat.reduceLT,Nat.reduceAdd,Nat.reduceMul,Nat.reduceEqDiff]
     refine genV_quiet (v:=.int .i64 W) [zn+0,m] rfl (by kernel_rfl) (zA9 rfl) hFn (fun G hn hg=>hwd G hn hg) (by simp[Meets]) ?_
     simp (maxDischargeDepth:=6) only[n4,lpy,k4,hw1,hA,ruD,ruW,putL,Nat.reduceLeDiff,xF,ruU,entryE,Nat.reduceLT,Nat.reduceAdd,Nat.reduceMul,Nat.reduceEqDiff]
     obtain⟨a5,m5⟩:=a4.putU (y:={y with sr:=y.row,sc:=0}) ok4 (off:=1) (vs:=[.int .i64 y.row]) (L:=[]) rfl rfl
     obtain⟨a6,m6⟩:=a5.putU (y:={y with sr:=y.row,sc:=min y.col ((W:Int)-1)}) (m5.ok ok4) (off:=2) (vs:=[.int .i64 (min y.col ((W:Int)-1))]) (L:=[]) rfl rfl
     rw[hsh]at a6
     exact joinR_normal ⟨m34.trans (m5.trans m6),by simp only[ruU,entryE,Nat.reduceLT,Nat.reduceAdd,Nat.reduceMul,Nat.reduceEqDiff],by simp only[ruU,entryE,Nat.reduceLT,Nat.reduceAdd,Nat.reduceMul,Nat.reduceEqDiff],a6⟩
   ·rintro E Z2 ⟨m2,e4,e8,a7⟩
    have okZ2:=m2.ok okY
    obtain⟨z2,hz2n⟩:∃ n,Z2.next=n:=⟨_,rfl⟩
    have hyz2:yn≤z2:=by have:=m2.next; omega
    have k7:=a7.cell
    simp only[St.cells]at k7
    have l7:zn+0<z2:=by omega
    have l8:b+1<z2:=by omega
    have k8:=(m2.bk (n:=b+1) (by omega) (by simp only[zA8]; omega)).trans ky1
    obtain⟨nu,hu,eu2⟩:=sl2
    have hnu:nu<z2:=by
     have:=(a7.own.idv nu (by rw[eu2]; simp[idsV])).2.1
     omega
    have hsu2:scb z2 u2=true:=by rw[eu2]; exact blt_of hnu
    rw[show Z2=ext Z2 [] from rfl]
    rw[eu2]at k7 hsu2
    simp (maxDischargeDepth:=6) only[e4,e8,hz2n,l7,l8,k7,k8,hsu2,Tryd.results22,ruW,putL,Nat.reduceLeDiff,xF,ruU,entryE,Nat.reduceLT,Nat.reduceAdd,Nat.reduceMul,Nat.reduceEqDiff]
    rw[←eu2]
    have mU:Mod [b+1] Z2 (uw Z2 (b+1) 0 [u2,.int .i64 y.atR,.int .i64 (y.atC W)]):=Mod.uw (by simp)
    have mHZ2:Mod [] H Z2:=mHYf.step m2 hok (fun n hn=>.inr (by simp only[zA8]at hn; omega))
    refine⟨mHZ2.step mU hok (fun n hn=>.inr (by simp only[zA8]at hn; omega)),?_⟩
    rw[if_pos hk,hW,hall]
    refine⟨u2,rvs2,b+2,rfl,by omega,a7.own.of mU.next fun n h1 h2 h3=>mU.get n h2 (by simp only[zA8]; omega)⟩
 ·have hd:decide (¬k=0)=true:=by simp[hk0]
  simp (maxDischargeDepth:=6) only[hd,nX,k0,k1,l0,l1,Tryd.results22,ruW,putL,Nat.reduceLeDiff,xF,ruU,entryE,Nat.reduceLT,Nat.reduceAdd,Nat.reduceMul,Nat.reduceEqDiff]
  have mU:Mod [b+1] X (uw X (b+1) 0 [.slice none 0 0,.int .i64 0,.int .i64 0]):=Mod.uw (by simp)
  refine⟨mX.step mU hok (fun n hn=>.inr (by simp only[zA8]at hn; omega)),?_⟩
  rw[if_neg (by rw[hk]; exact hk0),hk]
def OpsA (H:AHeap) (g h:List (List Ce)) (r c r2 c2:Int) (out:Out) (X:AHeap):Prop :=
 Mod [] H X∧∃ v',out=.ok (.tuple #[v',.int .i64 (opsV g h r c r2 c2).2])∧OpsW X v' (opsV g h r c r2 c2).1∧∀ n∈idsV v',H.next≤n
theorem opsV_1 {g h:List (List Ce)} {r c r2 c2:Int} (h1:¬chkR g r c=0):opsV g h r c r2 c2=([],chkR g r c):=by rw[opsV,if_pos h1]
theorem opsV_2 {g h:List (List Ce)} {r c r2 c2:Int} (h1:chkR g r c=0) (h2:¬chkR h r2 c2=0):opsV g h r c r2 c2=([],chkR h r2 c2):=by rw[opsV,if_neg (fun k=>k h1),if_pos h2]
theorem opsV_3 {g h:List (List Ce)} {r c r2 c2:Int} (h1:chkR g r c=0) (h2:chkR h r2 c2=0) (h3:g.length≠h.length∨widG g≠widG h):opsV g h r c r2 c2=([],3):=by rw[opsV,if_neg (fun k=>k h1),if_neg (fun k=>k h2),if_pos h3]
theorem opsV_4 {g h:List (List Ce)} {r c r2 c2:Int} (h1:chkR g r c=0) (h2:chkR h r2 c2=0) (h3:g.length=h.length) (h4:widG g=widG h):opsV g h r c r2 c2=(opsR g h r c r2 c2,0):=by
 rw[opsV,if_neg (fun k=>k h1),if_neg (fun k=>k h2),if_neg (fun k=>k.elim (fun k=>k h3) (fun k=>k h4))]
theorem OpsA.err {H X:AHeap} {g h:List (List Ce)} {r c r2 c2 e:Int} (m:Mod [] H X) (he:opsV g h r c r2 c2=([],e)):OpsA H g h r c r2 c2 (.ok (.tuple #[.slice none 0 0,.int .i64 e])) X :=
 ⟨m,.slice none 0 0,by rw[he],by rw[he]; exact OpsW.nil,fun n hn=>by simp[idsV]at hn⟩
theorem WrAt.low {N q:Nat} {F:List Nat} {H U:AHeap} {p:Nat} {v:Value} {l:List Op} {k:Lk} (a:WrAt N F H p v l k) (m:Mod [q] H U) (hq:q<N):WrAt N F U p v l k:=by
 have h1:=a.lo
 exact⟨(m.bk a.lt (by simp only[zA8]; omega)).trans a.cell,a.ops.of m.next fun n hn=>m.get n (a.ops.ne n hn).2 (by simp only[zA8]; have:=(a.ids n hn).1; omega),a.apart,m.lt a.lt,a.lo,a.pF,a.ids,fun n hn=>m.lt (a.fl n hn)⟩
theorem ia61 {x k:Nat} {i:Int} (hi:i=k) (hk:k<2):aIndexAddr Tryd.prog 61 (.slice (some ⟨x,0,some 0⟩) 2 2) (.int .i64 i)=some (.pointer (some ⟨x,0+k*3,none⟩)):=by
 subst hi
 rw[ia_slice (e:=24) (sz:=3) (by kernel_rfl) (by kernel_rfl) (by omega) (by omega)]
 simp
theorem ld61_0 {a b c d e f:Value}:ldB Tryd.prog 24 (0+0*3) (some ⟨24,false,[a,b,c,d,e,f]⟩)=some (.agg ⟨[a,b,c]⟩):=by
 have h1:aggT Tryd.prog 24=some true:=by kernel_rfl
 have h2:szOf Tryd.prog 24=some 3:=by kernel_rfl
 simp only[ldB,h1,h2,zA3]
 rfl
theorem ld61_1 {a b c d e f:Value}:ldB Tryd.prog 24 (0+1*3) (some ⟨24,false,[a,b,c,d,e,f]⟩)=some (.agg ⟨[d,e,f]⟩):=by
 have h1:aggT Tryd.prog 24=some true:=by kernel_rfl
 have h2:szOf Tryd.prog 24=some 3:=by kernel_rfl
 simp only[ldB,h1,h2,zA3]
 rfl
theorem ops13_c (H:AHeap) (u1 u2:Value) (g h:List (List Ce)) (r c r2 c2:Int) (h1:GridS H u1 g) (h2:GridS H u2 h) (hok:H.base≤H.next) (hg12:g.length≤12) (hgw:∀ l∈g,l.length≤60) (hh12:h.length≤12) (hhw:∀ l∈h,l.length≤60) (hs1:scb H.next u1=true) (hs2:scb H.next u2=true) :
  CallA Tryd.prog 13 [.agg ⟨[u1,.int .i64 r,.int .i64 c]⟩,.agg ⟨[u2,.int .i64 r2,.int .i64 c2]⟩] H (OpsA H g h r c r2 c2):=by
 obtain⟨x,hx⟩:∃ x,H.next=x:=⟨_,rfl⟩
 have hxb:H.base≤x:=hx▸hok
 obtain⟨a1,b1,e1⟩:=h1.at_.sl
 obtain⟨a2,b2,e2⟩:=h2.at_.sl
 rw[hx]at hs1 hs2
 have hs1':=hs1
 have hs2':=hs2
 rw[e1]at hs1'
 rw[e2]at hs2'
 refine callE_fn mixed Tryd.func13 rfl Tryd.ntmps13 (zA9 rfl) ?_
 rw[e1,e2]
 simp (maxDischargeDepth:=6) only[hx,hxb,hs1',hs2',xD,ruW,putL,Nat.reduceLeDiff,xF,ruU,entryE,Nat.reduceLT,Nat.reduceAdd,Nat.reduceMul,Nat.reduceEqDiff]
 rw[←e1,←e2]
 refine w_env fun E hE=>?_
 have g2:E 2=.pointer (some ⟨x+0,0,none⟩):=by rw[hE]; simp only[ruU,entryE,Nat.reduceLT,Nat.reduceAdd,Nat.reduceMul,Nat.reduceEqDiff]
 have g3:E 3=.pointer (some ⟨x+1,0,none⟩):=by rw[hE]; simp only[ruU,entryE,Nat.reduceLT,Nat.reduceAdd,Nat.reduceMul,Nat.reduceEqDiff]
 have g16:E 16=.slice (some ⟨x+2,0,some 0⟩) 2 2:=by rw[hE]; simp only[ruU,entryE,Nat.reduceLT,Nat.reduceAdd,Nat.reduceMul,Nat.reduceEqDiff]
 have g17:E 17=.int .i64 2:=by rw[hE]; (simp only[ruU,entryE,Nat.reduceLT,Nat.reduceAdd,Nat.reduceMul,Nat.reduceEqDiff]<;>rfl)
 have g18:E 18=.int .i64 ((0:Nat):Int):=by rw[hE]; (simp only[ruU,entryE,Nat.reduceLT,Nat.reduceAdd,Nat.reduceMul,Nat.reduceEqDiff]<;>rfl)
 clear hE
 generalize hX:ext H _=X
 have mX:Mod [] H X:=hX▸Mod.ext hok
 have nX:X.next=x+3:=by rw[←hX,ext_next,hx]; rfl
 have bX0:bk X (x+0)=some ⟨24,false,[u1,.int .i64 r,.int .i64 c]⟩:=by rw[←hX,bk_at hx (by simp)]; rfl
 have bX1:bk X (x+1)=some ⟨24,false,[u2,.int .i64 r2,.int .i64 c2]⟩:=by rw[←hX,bk_at hx (by simp)]; rfl
 have bX2:bk X (x+2)=some ⟨24,false,[u1,.int .i64 r,.int .i64 c,u2,.int .i64 r2,.int .i64 c2]⟩:=by rw[←hX,bk_at hx (by simp)]; rfl
 clear hX
 refine blockC_meet (fun E' Y=>E' 2=.pointer (some ⟨x+0,0,none⟩)∧E' 3=.pointer (some ⟨x+1,0,none⟩)∧Mod [] H Y∧x+3≤Y.next∧bk Y (x+0)=some ⟨24,false,[u1,.int .i64 r,.int .i64 c]⟩∧bk Y (x+1)=some ⟨24,false,[u2,.int .i64 r2,.int .i64 c2]⟩∧chkR g r c=0∧chkR h r2 c2=0) ?_ ?_
 ·refine w_loop (fun (k:Nat) E' Y=>E' 2=.pointer (some ⟨x+0,0,none⟩)∧E' 3=.pointer (some ⟨x+1,0,none⟩)∧E' 16=.slice (some ⟨x+2,0,some 0⟩) 2 2∧E' 17=.int .i64 2∧E' 18=.int .i64 (k:Int)∧k≤2∧Mod [] H Y∧Mod [] X Y∧x+3≤Y.next∧(0<k→chkR g r c=0)∧(1<k→chkR h r2 c2=0)) (fun k=>2-k) 0
   ⟨g2,g3,g16,g17,g18,by omega,mX,Mod.refl,by omega,by omega,by omega⟩ ?_
  clear g2 g3 g16 g17 g18 E
  rintro k E Y ⟨g2,g3,g16,g17,g18,hk,mY,mXY,yl,hc1,hc2⟩
  have okY:=mY.ok hok
  obtain⟨y,hy⟩:∃ y,Y.next=y:=⟨_,rfl⟩
  have hyb:Y.base≤y:=hy▸okY
  have bY0:=(mXY.bk (n:=x+0) (by omega) (by simp)).trans bX0
  have bY1:=(mXY.bk (n:=x+1) (by omega) (by simp)).trans bX1
  have bY2:=(mXY.bk (n:=x+2) (by omega) (by simp)).trans bX2
  have l2:x+2<y:=by omega
  rw[show Y=ext Y [] from rfl]
  match k,hk,hc1,hc2,g18 with
  |2,_,hc1,hc2,g18 =>
   have hd:decide (((2:Nat):Int)<2)=false:=by decide
   simp (maxDischargeDepth:=6) only[g2,g3,g16,g17,g18,hd,xD,ruW,putL,Nat.reduceLeDiff,xF,ruU,entryE,Nat.reduceLT,Nat.reduceAdd,Nat.reduceMul,Nat.reduceEqDiff]
   exact joinR_normal ⟨by simp only[g2,ruU,entryE,Nat.reduceLT,Nat.reduceAdd,Nat.reduceMul,Nat.reduceEqDiff],by simp only[g3,ruU,entryE,Nat.reduceLT,Nat.reduceAdd,Nat.reduceMul,Nat.reduceEqDiff],mY,yl,bY0,bY1,hc1 (by omega),hc2 (by omega)⟩
  |0,_,_,_,g18 =>
   have hd:decide (((0:Nat):Int)<2)=true:=by decide
   have ia:=ia61 (x:=x+2) (k:=0) (i:=((0:Nat):Int)) rfl (by omega)
   have hsu:scb y (.slice a1 g.length b1)=true:=scb_mono (by omega) _ hs1'
   have bY2':=bY2
   rw[e1]at bY2'
   simp (maxDischargeDepth:=6) only[g2,g3,g16,g17,g18,hy,hyb,hd,bY2',l2,ia,ld61_0,qk_old,hsu,xD,ruW,putL,Nat.reduceLeDiff,xF,ruU,entryE,Nat.reduceLT,Nat.reduceAdd,Nat.reduceMul,Nat.reduceEqDiff]
   rw[←e1]
   generalize hV:ext Y _=V
   have mV:Mod [] Y V:=hV▸Mod.ext okY
   have nV:V.next=y+1:=by rw[←hV,ext_next,hy]; rfl
   have bV:bk V (y+0)=some ⟨24,false,[u1,.int .i64 r,.int .i64 c]⟩:=by rw[←hV,bk_at hy (by simp)]; rfl
   clear hV
   have lV:y+0<y+1:=by omega
   have mHV:=mY.trans mV
   rw[show V=ext V [] from rfl]
   obtain⟨e,he⟩:∃ e,chkR g r c=e:=⟨_,rfl⟩
   have hck:=check39_c (ext V []) u1 g r c (h1.at_.mod0 mHV) (fun l hl=>by have:=hgw l hl; omega) (by omega)
   rw[he]at hck
   refine hck.to ?_
   obtain⟨d,hd⟩:∃ d,decide (¬e=0)=d:=⟨_,rfl⟩
   cases d with
   |true =>
    have hne:=of_decide_eq_true hd
    simp (maxDischargeDepth:=6) only[g2,g3,g16,g17,g18,hd,joinR_ret,Tryd.results13,xD,ruW,putL,Nat.reduceLeDiff,xF,ruU,entryE,Nat.reduceLT,Nat.reduceAdd,Nat.reduceMul,Nat.reduceEqDiff]
    exact OpsA.err mHV ((opsV_1 (by rw[he]; exact hne)).trans (by rw[he]))
   |false =>
    have h0:e=0:=by simpa using of_decide_eq_false hd
    rw[h0]at he
    simp (maxDischargeDepth:=6) only[g2,g3,g16,g17,g18,hd,xD,ruW,putL,Nat.reduceLeDiff,xF,ruU,entryE,Nat.reduceLT,Nat.reduceAdd,Nat.reduceMul,Nat.reduceEqDiff]
    refine loopC_next ⟨1,by omega,by simp only[g2,ruU,entryE,Nat.reduceLT,Nat.reduceAdd,Nat.reduceMul,Nat.reduceEqDiff],by simp only[g3,ruU,entryE,Nat.reduceLT,Nat.reduceAdd,Nat.reduceMul,Nat.reduceEqDiff],by simp only[g16,ruU,entryE,Nat.reduceLT,Nat.reduceAdd,Nat.reduceMul,Nat.reduceEqDiff],by simp only[g17,ruU,entryE,Nat.reduceLT,Nat.reduceAdd,Nat.reduceMul,Nat.reduceEqDiff],by simp only[ruU,entryE,Nat.reduceLT,Nat.reduceAdd,Nat.reduceMul,Nat.reduceEqDiff]<;>rfl,by omega,mHV,mXY.trans mV,by rw[ext_next,nV]; simp only[zC3]; omega,fun _=>he,by omega⟩
  |1,_,hc1,_,g18 =>
   have hd:decide (((1:Nat):Int)<2)=true:=by decide
   have ia:=ia61 (x:=x+2) (k:=1) (i:=((1:Nat):Int)) rfl (by omega)
   have hsu:scb y (.slice a2 h.length b2)=true:=scb_mono (by omega) _ hs2'
   have bY2':=bY2
   rw[e2]at bY2'
   simp (maxDischargeDepth:=6) only[g2,g3,g16,g17,g18,hy,hyb,hd,bY2',l2,ia,ld61_1,qk_old,hsu,xD,ruW,putL,Nat.reduceLeDiff,xF,ruU,entryE,Nat.reduceLT,Nat.reduceAdd,Nat.reduceMul,Nat.reduceEqDiff]
   rw[←e2]
   generalize hV:ext Y _=V
   have mV:Mod [] Y V:=hV▸Mod.ext okY
   have nV:V.next=y+1:=by rw[←hV,ext_next,hy]; rfl
   have bV:bk V (y+0)=some ⟨24,false,[u2,.int .i64 r2,.int .i64 c2]⟩:=by rw[←hV,bk_at hy (by simp)]; rfl
   clear hV
   have lV:y+0<y+1:=by omega
   have mHV:=mY.trans mV
   rw[show V=ext V [] from rfl]
   obtain⟨e,he⟩:∃ e,chkR h r2 c2=e:=⟨_,rfl⟩
   have hck:=check39_c (ext V []) u2 h r2 c2 (h2.at_.mod0 mHV) (fun l hl=>by have:=hhw l hl; omega) (by omega)
   rw[he]at hck
   refine hck.to ?_
   obtain⟨d,hd⟩:∃ d,decide (¬e=0)=d:=⟨_,rfl⟩
   cases d with
   |true =>
    have hne:=of_decide_eq_true hd
    simp (maxDischargeDepth:=6) only[g2,g3,g16,g17,g18,hd,joinR_ret,Tryd.results13,xD,ruW,putL,Nat.reduceLeDiff,xF,ruU,entryE,Nat.reduceLT,Nat.reduceAdd,Nat.reduceMul,Nat.reduceEqDiff]
    exact OpsA.err mHV ((opsV_2 (hc1 (by omega)) (by rw[he]; exact hne)).trans (by rw[he]))
   |false =>
    have h0:e=0:=by simpa using of_decide_eq_false hd
    rw[h0]at he
    simp (maxDischargeDepth:=6) only[g2,g3,g16,g17,g18,hd,xD,ruW,putL,Nat.reduceLeDiff,xF,ruU,entryE,Nat.reduceLT,Nat.reduceAdd,Nat.reduceMul,Nat.reduceEqDiff]
    refine loopC_next ⟨2,by omega,by simp only[g2,ruU,entryE,Nat.reduceLT,Nat.reduceAdd,Nat.reduceMul,Nat.reduceEqDiff],by simp only[g3,ruU,entryE,Nat.reduceLT,Nat.reduceAdd,Nat.reduceMul,Nat.reduceEqDiff],by simp only[g16,ruU,entryE,Nat.reduceLT,Nat.reduceAdd,Nat.reduceMul,Nat.reduceEqDiff],by simp only[g17,ruU,entryE,Nat.reduceLT,Nat.reduceAdd,Nat.reduceMul,Nat.reduceEqDiff],by simp only[ruU,entryE,Nat.reduceLT,Nat.reduceAdd,Nat.reduceMul,Nat.reduceEqDiff]<;>rfl,by omega,mHV,mXY.trans mV,by rw[ext_next,nV]; simp only[zC3]; omega,fun _=>hc1 (by omega),fun _=>he⟩
 clear g2 g3 g16 g17 g18 E bX0 bX1 bX2 mX nX X
 rintro E Y ⟨g2,g3,mY,yl,bY0,bY1,hc1,hc2⟩
 have okY:=mY.ok hok
 obtain⟨y,hy⟩:∃ y,Y.next=y:=⟨_,rfl⟩
 have hyb:Y.base≤y:=hy▸okY
 have l0:x+0<y:=by omega
 have l1:x+1<y:=by omega
 obtain⟨ok1,hne1,hg0⟩:=chk_ok hc1
 obtain⟨ok2,hne2,hh0⟩:=chk_ok hc2
 have s1Y:=h1.mod0 mY
 have s2Y:=h2.mod0 mY
 have hgp:0<g.length:=List.length_pos_iff.2 hg0
 have hhp:0<h.length:=List.length_pos_iff.2 hh0
 obtain⟨n1,o1,sp1,cp1,t1,q1,L1,ev1,k1,n1l,le1,tk1⟩:=s1Y.r hg0
 obtain⟨n2,o2,sp2,cp2,t2,q2,L2,ev2,k2,n2l,le2,tk2⟩:=s2Y.r hh0
 rw[hy]at n1l n2l
 obtain⟨w1,hw1⟩:∃ r,g[0]?=some r:=⟨_,zA6 hgp⟩
 obtain⟨w2,hw2⟩:∃ r,h[0]?=some r:=⟨_,zA6 hhp⟩
 obtain⟨rv1,hrv1,rs1⟩:=tk1 0 w1 hw1
 obtain⟨rv2,hrv2,rs2⟩:=tk2 0 w2 hw2
 obtain⟨ra1,rc1,re1⟩:=rs1.sl
 obtain⟨ra2,rc2,re2⟩:=rs2.sl
 rw[re1]at hrv1
 rw[re2]at hrv2
 have hwid1:widG g=w1.length:=by rw[widG,zE8,hw1]; rfl
 have hwid2:widG h=w2.length:=by rw[widG,zE8,hw2]; rfl
 have i1:=grid_ia (n:=n1) (off:=o1) (s:=sp1) (cap:=cp1) (i:=0) (k:=0) rfl hgp
 have i2:=grid_ia (n:=n2) (off:=o2) (s:=sp2) (cap:=cp2) (i:=0) (k:=0) rfl hhp
 have q1':=grid_load (e:=t1) (o:=q1) hrv1
 have q2':=grid_load (e:=t2) (o:=q2) hrv2
 have bY0':=bY0
 have bY1':=bY1
 rw[ev1]at bY0'
 rw[ev2]at bY1'
 obtain⟨d1,hd1⟩:∃ d,decide (¬(g.length:Int)=(h.length:Int))=d:=⟨_,rfl⟩
 obtain⟨d2,hd2⟩:∃ d,decide (¬(w1.length:Int)=(w2.length:Int))=d:=⟨_,rfl⟩
 rw[show Y=ext Y [] from rfl]
 cases d1 with
 |true =>
  have hne:=of_decide_eq_true hd1
  simp (maxDischargeDepth:=6) only[g2,g3,xD,ruW,putL,Nat.reduceLeDiff,xF,ruU,entryE,Nat.reduceLT,Nat.reduceAdd,Nat.reduceMul,Nat.reduceEqDiff]
  refine w_drawB [] [(7,35)] (by kernel_rfl) rfl (by kernel_rfl) fun ops anc hA hG=>?_
  simp only[all2_cons]at hG
  simp (maxDischargeDepth:=6) only[g2,g3,hy,l0,l1,bY0',bY1',hd1,hG,Tryd.results13,xD,ruD,ruW,putL,Nat.reduceLeDiff,xF,ruU,entryE,Nat.reduceLT,Nat.reduceAdd,Nat.reduceMul,Nat.reduceEqDiff]
  exact OpsA.err mY (opsV_3 hc1 hc2 (.inl (by omega)))
 |false =>
 have hgh:g.length=h.length:=by have:=of_decide_eq_false hd1; omega
 cases d2 with
 |true =>
  have hne:=of_decide_eq_true hd2
  simp (maxDischargeDepth:=6) only[g2,g3,xD,ruW,putL,Nat.reduceLeDiff,xF,ruU,entryE,Nat.reduceLT,Nat.reduceAdd,Nat.reduceMul,Nat.reduceEqDiff]
  refine w_drawB [] [(7,35)] (by kernel_rfl) rfl (by kernel_rfl) fun ops anc hA hG=>?_
  simp only[all2_cons]at hG
  simp (maxDischargeDepth:=6) only[g2,g3,hy,l0,l1,bY0',bY1',hd1,hd2,i1,i2,k1,k2,n1l,n2l,q1',q2',qk_old,hG,Tryd.results13,xD,ruD,ruW,putL,Nat.reduceLeDiff,xF,ruU,entryE,Nat.reduceLT,Nat.reduceAdd,Nat.reduceMul,Nat.reduceEqDiff]
  exact OpsA.err mY (opsV_3 hc1 hc2 (.inr (by omega)))
 |false =>
 have hwh:widG g=widG h:=by have:=of_decide_eq_false hd2; omega
 have hV4:=opsV_4 hc1 hc2 hgh hwh
 simp (maxDischargeDepth:=6) only[g2,g3,xD,ruW,putL,Nat.reduceLeDiff,xF,ruU,entryE,Nat.reduceLT,Nat.reduceAdd,Nat.reduceMul,Nat.reduceEqDiff]
 refine w_drawB [] [(7,35)] (by kernel_rfl) rfl (by kernel_rfl) fun ops anc hA hG=>?_
 simp only[all2_cons]at hG
 simp (maxDischargeDepth:=6) only[g2,g3,hy,hyb,l0,l1,bY0',bY1',hd1,hd2,i1,i2,k1,k2,n1l,n2l,q1',q2',qk_old,hG,xD,ruD,ruW,putL,Nat.reduceLeDiff,xF,ruU,entryE,Nat.reduceLT,Nat.reduceAdd,Nat.reduceMul,Nat.reduceEqDiff]
 rw[←ev1,←ev2]
 generalize hV:ext Y _=V
 have mV:Mod [] Y V:=hV▸Mod.ext okY
 have nV:V.next=y+1:=by rw[←hV,ext_next,hy]; rfl
 have bV:bk V (y+0)=some ⟨64,false,[.slice none 0 0,.int .i64 0,.int .i64 0,.bool false,.bool false,.bool false]⟩:=by rw[←hV,bk_at hy (by simp)]; rfl
 clear hV
 have okV:=mV.ok okY
 obtain⟨z,hz⟩:∃ z,V.next=z:=⟨_,rfl⟩
 have hVb:V.base≤z:=hz▸okV
 have mHV:=mY.trans mV
 have s1V:=h1.mod0 mHV
 have s2V:=h2.mod0 mHV
 have bV0:=(mV.bk (n:=x+0) (by omega) (by simp)).trans bY0
 have bV1:=(mV.bk (n:=x+1) (by omega) (by simp)).trans bY1
 have wV:WrAt y [] V (y+0) (.slice none 0 0) [] lk0:=⟨bV,OpsW.nil,by simp[idsV],by omega,by omega,by simp,fun n hn=>by simp[idsV]at hn,fun n hn=>by cases hn⟩
 have hsc:=scroll_c (ext V []) u1 u2 g h s1V s2V (fun l hl=>by have:=hgw l hl; omega) (fun l hl=>by have:=hhw l hl; omega) hgh (by omega)
 obtain⟨so,hso⟩:∃ so,shiftR g h=so:=⟨_,rfl⟩
 rw[hso]at hsc
 obtain⟨ob,hob,hoo⟩:∃ ob:Op,Pure 36 [u1,u2] (ext V []) (.tuple #[ob.val,.bool so.isSome])∧∀ o,so=some o→ob=o:=by
  cases so with
  |none=>exact⟨_,hsc,fun o h=>by cases h⟩
  |some o=>exact⟨o,hsc,fun o' h=>by cases h; rfl⟩
 rw[show V=ext V [] from rfl]
 refine hob.to ?_
 simp (maxDischargeDepth:=6) only[g2,g3,hz,hVb,Op.val,Op.cells,xD,ruW,putL,Nat.reduceLeDiff,xF,ruU,entryE,Nat.reduceLT,Nat.reduceAdd,Nat.reduceMul,Nat.reduceEqDiff]
 generalize hU:ext V _=U
 have mU:Mod [] V U:=hU▸Mod.ext okV
 have nU:U.next=z+1:=by rw[←hU,ext_next,hz]; rfl
 have bU:bk U (z+0)=some ⟨47,false,ob.cells⟩:=by rw[←hU,bk_at hz (by simp)]; rfl
 clear hU
 have okU:=mU.ok okV
 have mHU:=mHV.trans mU
 have wU:=wV.of mU
 have bU0:=(mU.bk (n:=x+0) (by omega) (by simp)).trans bV0
 have bU1:=(mU.bk (n:=x+1) (by omega) (by simp)).trans bV1
 have hHN:H.next≤y:=by rw[←hy]; exact mY.next
 refine condC_meet (fun E' Z=>E' 2=.pointer (some ⟨x+0,0,none⟩)∧E' 3=.pointer (some ⟨x+1,0,none⟩)∧E' 9=.pointer (some ⟨y+0,0,none⟩)∧∃ F v uo rr cc,Mod [] H Z∧y+1≤Z.next∧bk Z (x+0)=some ⟨24,false,[uo,.int .i64 rr,.int .i64 cc]⟩∧bk Z (x+1)=some ⟨24,false,[u2,.int .i64 r2,.int .i64 c2]⟩∧WrAt y F Z (y+0) v so.toList lk0∧GridF y F Z uo (nowR g h r c)) ?_ ?_
 ·cases so with
  |none =>
   simp (maxDischargeDepth:=6) only[Option.isSome_none,xD,ruW,putL,Nat.reduceLeDiff,xF,ruU,entryE,Nat.reduceLT,Nat.reduceAdd,Nat.reduceMul,Nat.reduceEqDiff]
   have hnow:nowR g h r c=g:=by unfold nowR; rw[hso]
   exact joinR_normal ⟨by simp only[g2,ruU,entryE,Nat.reduceLT,Nat.reduceAdd,Nat.reduceMul,Nat.reduceEqDiff],by simp only[g3,ruU,entryE,Nat.reduceLT,Nat.reduceAdd,Nat.reduceMul,Nat.reduceEqDiff],by simp only[ruU,entryE,Nat.reduceLT,Nat.reduceAdd,Nat.reduceMul,Nat.reduceEqDiff],[],_,u1,r,c,mHU,by show y+1≤U.next; omega,bU0,bU1,wU,by rw[hnow]; exact (((h1.r hg0).f hHN).mod0 mHU)⟩
  |some o =>
   have hoe:=hoo o rfl
   subst hoe
   have lz0:z+0<z+1:=by omega
   have bU':=bU
   simp only[Op.cells]at bU'
   rw[show U=ext U [] from rfl]
   simp (maxDischargeDepth:=6) only[g2,g3,nU,bU',lz0,Option.isSome_some,Op.val,Op.cells,xD,ruW,putL,Nat.reduceLeDiff,xF,ruU,entryE,Nat.reduceLT,Nat.reduceAdd,Nat.reduceMul,Nat.reduceEqDiff]
   refine (put_c y [] (ext U []) (y+0) (.slice none 0 0) [] lk0 ob wU okU (by simp) (by show y≤U.next; omega)).mono ?_
   rintro _ Z1 ⟨rfl,v1,w1,kZ⟩
   replace kZ:KpN y [] U Z1:=kZ
   rw[zB8]at w1
   have okZ:=kZ.ok okU
   have mHZ:Mod [] H Z1:=kZ.mod mHU hok hHN
   have zn1:=kZ.next
   obtain⟨z1,hz1⟩:∃ n,Z1.next=n:=⟨_,rfl⟩
   have bZ0:=(kZ.bk (n:=x+0) (by omega) (.inl (by omega))).trans bU0
   have bZ1:=(kZ.bk (n:=x+1) (by omega) (.inl (by omega))).trans bU1
   have wc:=w1.cell
   have l0z:x+0<z1:=by omega
   have lyz:y+0<z1:=by omega
   obtain⟨F1,hF1,hFG⟩:=(h1.mod0 mHZ).at_.foot hg0
   obtain⟨F,hF⟩:∃ F,F=F1++idsV v1:=⟨_,rfl⟩
   have hFF:∀ n∈F,Z1.get n≠none∧n<Z1.next:=fun n hn=>by
    rw[hF]at hn
    rcases zB4.1 hn with hn|hn
    ·exact hF1 n hn
    exact w1.ops.ne n hn
   have hrn:=restrict_next Z1 F
   have hrg:∀ n∈F,(Z1.restrict F).get n=Z1.get n:=fun n hn=>by rw[restrict_get,if_pos hn]
   obtain⟨gR,_⟩:=hFG (Z1.restrict F) (by rw[hrn.1]; exact zA5 _) (fun n hn=>hrg n (hF▸zD4 _ hn))
   have oR:OpsAt (Z1.restrict F) v1 [ob]:=w1.ops.at_.of (by rw[hrn.1]; exact zA5 _) fun n hn=>hrg n (hF▸zD5 _ hn)
   obtain⟨tt,bb,ii,kk,hroll,hk56,-⟩:=shift_some hso hgh
   obtain⟨out,gg,hcs,hap⟩:=apply_s (Z1.restrict F) u1 v1 g r c [ob] gR oR (by rw[hrn.1,hrn.2.1]; exact zA5 _) (by rw[hrn.1,hz1]; exact scb_mono (by omega) _ hs1) (fun l hl=>by have:=hgw l hl; omega) (by omega) (fun o ho=>by rw[zA8]at ho; subst ho; rw[hroll]; exact hk56) (by simp)
   obtain⟨mg,ua,rva,Na,rfl,hNa,own⟩:=hap.val
   have hnow:nowR g h r c=(appV g r c [ob]).1:=by unfold nowR; rw[hso]
   obtain⟨⟨ga,ra,ca,ea,ia⟩,hav⟩:∃ q,appV g r c [ob]=q:=⟨_,rfl⟩
   rw[hav]at hcs own hnow
   simp only at hcs own hnow
   rw[hrn.1,hz1]at hNa
   rw[show Z1=ext Z1 [] from rfl]
   simp (maxDischargeDepth:=6) only[g2,g3,hz1,bZ0,wc,l0z,lyz,xD,ruW,putL,Nat.reduceLeDiff,xF,ruU,entryE,Nat.reduceLT,Nat.reduceAdd,Nat.reduceMul,Nat.reduceEqDiff]
   refine w_drawB [(10,0),(10,4),(10,5),(6,5),(7,5)] [] (by kernel_rfl) (by kernel_rfl) rfl fun ops anc hA hG=>?_
   simp only[all2_cons]at hA
   simp (maxDischargeDepth:=6) only[g2,hz1,bZ0,wc,l0z,lyz,hA,xD,ruD,ruW,putL,Nat.reduceLeDiff,xF,ruU,entryE,Nat.reduceLT,Nat.reduceAdd,Nat.reduceMul,Nat.reduceEqDiff]
   refine genV_mod (H:=ext Z1 []) (W:=[]) F okZ (by simp only[ruU,entryE,Nat.reduceLT,Nat.reduceAdd,Nat.reduceMul,Nat.reduceEqDiff]) (by kernel_rfl) (fun n hn=>(hFF n hn).1) (fun n hn=>(hFF n hn).2) (fun _ h=>by simp at h) (v:=.tuple #[.agg #[ua,.int .i64 ra,.int .i64 ca],.int .i64 ea,.int .i64 ia]) (g:=gg) (by simp only[ruU,entryE,Nat.reduceLT,Nat.reduceAdd,Nat.reduceMul,Nat.reduceEqDiff]; exact hcs) mg (by simp only[all2_cons,all2_nil,hA,true_or,and_true]; simp) ?_
   intro Z D mZ hFZ hNZ hnZ hDZ
   have hD0:D=[]:=List.eq_nil_iff_forall_not_mem.2 (fun q hq=>by simpa using hDZ q hq)
   subst hD0
   replace mZ:Mod [] Z1 Z:=mZ
   have hzn:=mZ.next
   have hnZ':Z.next=gg.next:=hnZ
   have ownZ:OwnG Na Z ua rva ga:=own.of (by omega) (fun n h3 h4 _=>hNZ n (by show Z1.next≤n; omega) h4)
   obtain⟨aua,cua,eua⟩:=ownZ.grid.sl
   obtain⟨zz,hzz⟩:∃ n,Z.next=n:=⟨_,rfl⟩
   have hsua:scb zz ua=true:=by
    rcases ownZ.at_ with⟨_,h⟩|⟨m,s,c',o,e,_,_,hm,_⟩
    ·rw[h]; rfl
    ·rw[e]; exact blt_of (show m<zz by omega)
   have kz0:=(mZ.bk (n:=x+0) (by omega) (by simp)).trans bZ0
   have kz1:=(mZ.bk (n:=x+1) (by omega) (by simp)).trans bZ1
   have lzz:x+0<zz:=by omega
   rw[show Z=ext Z [] from rfl,eua]
   rw[eua]at hsua
   simp (maxDischargeDepth:=6) only[g2,g3,hzz,kz0,lzz,hsua,hA,xD,ruD,ruW,putL,Nat.reduceLeDiff,xF,ruU,entryE,Nat.reduceLT,Nat.reduceAdd,Nat.reduceMul,Nat.reduceEqDiff]
   rw[←eua]
   generalize hW:uw Z (x+0) 0 _=W
   have mW:Mod [x+0] Z W:=hW▸Mod.uw (by simp)
   have kW0:bk W (x+0)=some ⟨24,false,[ua,.int .i64 ra,.int .i64 ca]⟩:=by rw[←hW,bk_uw_eq,kz0]; rfl
   clear hW
   have hq:∀ q∈idsV ua++rva.flatMap idsV,Z1.next≤q∧q<Z.next:=fun q hq=>by
    rcases zB4.1 hq with hq|hq
    ·have:=ownZ.idv q hq; omega
    ·have:=ownZ.ids q hq; omega
   have wW:=(w1.mores mZ hq).low mW (show x+0<y by omega)
   have ownW:OwnG Na W ua rva ga:=ownZ.of mW.next fun n h3 h4 _=>mW.get n h4 (by simp only[zA8]; omega)
   have hga:ga≠[]:=fun e=>by
    have h3:=(nowR_len (h:=h) hgh hc1).1
    rw[hnow,e,zC3]at h3
    omega
   have hWn:=mW.next
   exact joinR_normal ⟨by simp only[g2,ruU,entryE,Nat.reduceLT,Nat.reduceAdd,Nat.reduceMul,Nat.reduceEqDiff],by simp only[g3,ruU,entryE,Nat.reduceLT,Nat.reduceAdd,Nat.reduceMul,Nat.reduceEqDiff],by simp only[ruU,entryE,Nat.reduceLT,Nat.reduceAdd,Nat.reduceMul,Nat.reduceEqDiff],_,v1,ua,ra,ca,(mHZ.trans mZ).step mW hok fun n hn=>.inr (by simp only[zA8]at hn; omega),by show y+1≤W.next; omega,kW0,(mW.bk (by omega) (by simp only[zA8]; omega)).trans kz1,wW,by rw[hnow]; exact ownW.f hga fun n hn=>zD4 _ hn⟩
 clear g2 g3 E
 rintro E Z ⟨g2,g3,g9,F,v,uo,rr,cc,mZ,zl,bZ0,bZ1,w,gf⟩
 obtain⟨NR,hNR⟩:∃ NR,nowR g h r c=NR:=⟨_,rfl⟩
 have hnl:=nowR_len (h:=h) hgh hc1
 rw[hNR]at gf hnl
 have hneN:∀ l∈NR,l≠[]:=fun l hl e=>by
  have h3:=hnl.2 l hl
  rw[e,zC3]at h3
  have:=ok1.w1
  omega
 have okZ:=mZ.ok hok
 have gf2:GridF y F Z u2 h:=((h2.r hh0).f hHN).mod0 mZ
 obtain⟨zz,hzz⟩:∃ n,Z.next=n:=⟨_,rfl⟩
 have lz1:x+1<zz:=by omega
 have bZ1':=bZ1
 rw[e2]at bZ1'
 rw[show Z=ext Z [] from rfl]
 simp (maxDischargeDepth:=6) only[g2,g3,g9,hzz,lz1,bZ1',xD,ruW,putL,Nat.reduceLeDiff,xF,ruU,entryE,Nat.reduceLT,Nat.reduceAdd,Nat.reduceMul,Nat.reduceEqDiff]
 refine w_env fun E' hE=>?_
 have r2':E' 2=.pointer (some ⟨x+0,0,none⟩):=by rw[hE]; simp only[g2,ruU,entryE,Nat.reduceLT,Nat.reduceAdd,Nat.reduceMul,Nat.reduceEqDiff]
 have r3':E' 3=.pointer (some ⟨x+1,0,none⟩):=by rw[hE]; simp only[g3,ruU,entryE,Nat.reduceLT,Nat.reduceAdd,Nat.reduceMul,Nat.reduceEqDiff]
 have r9':E' 9=.pointer (some ⟨y+0,0,none⟩):=by rw[hE]; simp only[g9,ruU,entryE,Nat.reduceLT,Nat.reduceAdd,Nat.reduceMul,Nat.reduceEqDiff]
 have r73:E' 73=u2:=by rw[hE,e2]; simp only[ruU,entryE,Nat.reduceLT,Nat.reduceAdd,Nat.reduceMul,Nat.reduceEqDiff]
 have r74:E' 74=.int .i64 (h.length:Int):=by rw[hE]; simp only[ruU,entryE,Nat.reduceLT,Nat.reduceAdd,Nat.reduceMul,Nat.reduceEqDiff]
 have r75:E' 75=.int .i64 ((0:Nat):Int):=by rw[hE]; (simp only[ruU,entryE,Nat.reduceLT,Nat.reduceAdd,Nat.reduceMul,Nat.reduceEqDiff]<;>rfl)
 clear hE g2 g3 g9 E
 obtain⟨L,hL⟩:∃ L,so.toList++rowsR 0 NR h lk0=L:=⟨_,rfl⟩
 have hsl:so.toList.length≤1:=by cases so<;>simp
 refine blockC_meet (fun E' Y=>E' 3=.pointer (some ⟨x+1,0,none⟩)∧E' 9=.pointer (some ⟨y+0,0,none⟩)∧Mod [] H Y∧y+1≤Y.next∧bk Y (x+1)=some ⟨24,false,[u2,.int .i64 r2,.int .i64 c2]⟩∧∃ v k,WrAt y F Y (y+0) v L k∧L.length≤3000) ?_ ?_
 ·refine w_loop (fun (q:Nat × Value × List Op × Lk) E' Y=>E' 2=.pointer (some ⟨x+0,0,none⟩)∧E' 3=.pointer (some ⟨x+1,0,none⟩)∧E' 9=.pointer (some ⟨y+0,0,none⟩)∧E' 73=u2∧E' 74=.int .i64 (h.length:Int)∧E' 75=.int .i64 (q.1:Int)∧KpN y F Z Y∧WrAt y F Y (y+0) q.2.1 q.2.2.1 q.2.2.2∧q.1≤h.length∧q.2.2.1++rowsR q.1 (NR.drop q.1) (h.drop q.1) q.2.2.2=L∧q.2.2.1.length≤1+q.1*182) (fun q=>h.length-q.1) (0,v,so.toList,lk0)
   ⟨r2',r3',r9',r73,r74,r75,KpN.refl,w,zB0 _,by simp only[zD3]; exact hL,by simp only; omega⟩ ?_
  clear r2' r3' r9' r73 r74 r75 E'
  rintro⟨i,v,l,k⟩ E Y ⟨g2,g3,g9,g73,g74,g75,kY,w,hi,hL',hll⟩
  simp only at g75 w hi hL' hll
  have okY:=kY.ok okZ
  have yn:=kY.next
  obtain⟨yy,hyy⟩:∃ n,Y.next=n:=⟨_,rfl⟩
  have bY0:=(kY.bk (n:=x+0) (by omega) (.inl (by omega))).trans bZ0
  have bY1:=(kY.bk (n:=x+1) (by omega) (.inl (by omega))).trans bZ1
  rw[show Y=ext Y [] from rfl]
  by_cases hil:i<h.length
  case neg =>
   have hc0:decide ((i:Int)<(h.length:Int))=false:=decide_eq_false (by omega)
   rw[rowsR_end k (by omega),zD0]at hL'
   subst hL'
   simp (maxDischargeDepth:=6) only[g2,g3,g9,g73,g74,g75,hc0,xD,ruW,putL,Nat.reduceLeDiff,xF,ruU,entryE,Nat.reduceLT,Nat.reduceAdd,Nat.reduceMul,Nat.reduceEqDiff]
   exact joinR_normal ⟨by simp only[g3,ruU,entryE,Nat.reduceLT,Nat.reduceAdd,Nat.reduceMul,Nat.reduceEqDiff],by simp only[g9,ruU,entryE,Nat.reduceLT,Nat.reduceAdd,Nat.reduceMul,Nat.reduceEqDiff],kY.mod mZ hok hHN,by show y+1≤Y.next; omega,bY1,v,k,w,by omega⟩
  have hc0:decide ((i:Int)<(h.length:Int))=true:=decide_eq_true (by omega)
  obtain⟨b,hb⟩:∃ b,h[i]?=some b:=⟨_,zA6 hil⟩
  obtain⟨a,ha⟩:∃ a,NR[i]?=some a:=⟨_,zA6 (by omega)⟩
  have hal:=hnl.2 a (zB9 ha)
  have hbm:=zB9 hb
  have hbl:=ok2.wid b hbm
  have hb60:=hhw b hbm
  have hbne:=hne2 b hbm
  have hane:=hneN a (zB9 ha)
  rw[rowsR_step k ha hb]at hL'
  obtain⟨n1,o1,sp1,cp1,t1,q1,L1,ev1,k1,n1l,-,le1,tk1⟩:=gf.kp kY hneN
  obtain⟨n2,o2,sp2,cp2,t2,q2,L2,ev2,k2,n2l,-,le2,tk2⟩:=gf2.kp kY hne2
  rw[hyy]at n1l n2l
  obtain⟨rva,hrva,rsa,hia⟩:=tk1 i a ha
  obtain⟨rvb,hrvb,rsb,hib⟩:=tk2 i b hb
  have i1:=grid_ia (len:=NR.length) (n:=n1) (off:=o1) (s:=sp1) (cap:=cp1) (i:=(i:Int)) rfl (by omega)
  have i2:=grid_ia (len:=h.length) (n:=n2) (off:=o2) (s:=sp2) (cap:=cp2) (i:=(i:Int)) rfl hil
  have q1':=grid_load (e:=t1) (o:=q1) hrva
  have q2':=grid_load (e:=t2) (o:=q2) hrvb
  have g73':=g73
  rw[ev2]at g73'
  have bY0':=bY0
  rw[ev1]at bY0'
  have ly0:x+0<yy:=by omega
  obtain⟨d,hd⟩:∃ d,decide (a=b)=d:=⟨_,rfl⟩
  simp (maxDischargeDepth:=6) only[g2,g3,g9,g73',g74,g75,hyy,hc0,i1,i2,k1,k2,n1l,n2l,q1',q2',bY0',ly0,qk_old,xD,ruW,putL,Nat.reduceLeDiff,xF,ruU,entryE,Nat.reduceLT,Nat.reduceAdd,Nat.reduceMul,Nat.reduceEqDiff]
  refine (eqCells_c (ext Y []) rva rvb a b rsa.at_ rsb.at_ (by omega)).to ?_
  cases d with
  |true =>
   have he:=of_decide_eq_true hd
   rw[if_pos he]at hL'
   simp (maxDischargeDepth:=6) only[g2,g3,g9,g73',g74,g75,hd,zC8,wrap_succ (show i<1000000 by omega),xD,ruW,putL,Nat.reduceLeDiff,xF,ruU,entryE,Nat.reduceLT,Nat.reduceAdd,Nat.reduceMul,Nat.reduceEqDiff]
   exact loopC_next ⟨(i+1,v,l,k),by simp only; omega,by simp only[g2,ruU,entryE,Nat.reduceLT,Nat.reduceAdd,Nat.reduceMul,Nat.reduceEqDiff],by simp only[g3,ruU,entryE,Nat.reduceLT,Nat.reduceAdd,Nat.reduceMul,Nat.reduceEqDiff],by simp only[g9,ruU,entryE,Nat.reduceLT,Nat.reduceAdd,Nat.reduceMul,Nat.reduceEqDiff],by simp only[g73,ruU,entryE,Nat.reduceLT,Nat.reduceAdd,Nat.reduceMul,Nat.reduceEqDiff],by simp only[g74,ruU,entryE,Nat.reduceLT,Nat.reduceAdd,Nat.reduceMul,Nat.reduceEqDiff],by simp only[ruU,entryE,Nat.reduceLT,Nat.reduceAdd,Nat.reduceMul,Nat.reduceEqDiff],kY,w,by simp only; omega,hL',by simp only; omega⟩
  |false =>
   have he:=of_decide_eq_false hd
   rw[if_neg he]at hL'
   simp (maxDischargeDepth:=6) only[g2,g3,g9,g73',g74,g75,hyy,hd,i1,i2,k1,k2,n1l,n2l,q1',q2',bY0',ly0,qk_old,zD6,xD,ruW,putL,Nat.reduceLeDiff,xF,ruU,entryE,Nat.reduceLT,Nat.reduceAdd,Nat.reduceMul,Nat.reduceEqDiff]
   refine (rowW_c y F (ext Y []) (y+0) v rva rvb l k i a b w rsa rsb (hia hane) (hib hbne) (by omega) hbne (by omega) (by omega) (chk_isR hc2 b hbm) okY (by show y≤Y.next; omega)).mono ?_
   rintro _ Y2 ⟨rfl,v2,w2,k2⟩
   have hlr:=lineR_len i a b k
   simp (maxDischargeDepth:=6) only[g2,g3,g9,g73',g74,g75,wrap_succ (show i<1000000 by omega),xD,ruW,putL,Nat.reduceLeDiff,xF,ruU,entryE,Nat.reduceLT,Nat.reduceAdd,Nat.reduceMul,Nat.reduceEqDiff]
   exact loopC_next ⟨(i+1,v2,_,_),by simp only; omega,by simp only[g2,ruU,entryE,Nat.reduceLT,Nat.reduceAdd,Nat.reduceMul,Nat.reduceEqDiff],by simp only[g3,ruU,entryE,Nat.reduceLT,Nat.reduceAdd,Nat.reduceMul,Nat.reduceEqDiff],by simp only[g9,ruU,entryE,Nat.reduceLT,Nat.reduceAdd,Nat.reduceMul,Nat.reduceEqDiff],by simp only[g73,ruU,entryE,Nat.reduceLT,Nat.reduceAdd,Nat.reduceMul,Nat.reduceEqDiff],by simp only[g74,ruU,entryE,Nat.reduceLT,Nat.reduceAdd,Nat.reduceMul,Nat.reduceEqDiff],by simp only[ruU,entryE,Nat.reduceLT,Nat.reduceAdd,Nat.reduceMul,Nat.reduceEqDiff],kY.trans k2,w2,by simp only; omega,by simp only; rw[List.append_assoc]; exact hL',by simp only[zB6]; omega⟩
 clear r2' r3' r9' r73 r74 r75 E'
 rintro E Y ⟨g3,g9,mY2,yl2,bY1,v,k,w,hll⟩
 have okY2:=mY2.ok hok
 obtain⟨yy,hyy⟩:∃ n,Y.next=n:=⟨_,rfl⟩
 have ly1:x+1<yy:=by omega
 have hops:opsR g h r c r2 c2=L++curR r2 c2:=by rw[opsR,hso,hNR,hL]
 obtain⟨d,hd⟩:∃ d,decide (r2<0)=d:=⟨_,rfl⟩
 rw[show Y=ext Y [] from rfl]
 simp (maxDischargeDepth:=6) only[g3,g9,hyy,ly1,bY1,hd,xD,ruW,putL,Nat.reduceLeDiff,xF,ruU,entryE,Nat.reduceLT,Nat.reduceAdd,Nat.reduceMul,Nat.reduceEqDiff]
 refine condC_meet (fun E' X=>E' 9=.pointer (some ⟨y+0,0,none⟩)∧Mod [] H X∧y+1≤X.next∧∃ v k,WrAt y F X (y+0) v (opsR g h r c r2 c2) k) ?_ ?_
 ·cases d with
  |true =>
   have he:=of_decide_eq_true hd
   rw[hops,curR,if_pos he]
   simp (maxDischargeDepth:=6) only[g3,g9,hyy,ly1,bY1,xD,ruW,putL,Nat.reduceLeDiff,xF,ruU,entryE,Nat.reduceLT,Nat.reduceAdd,Nat.reduceMul,Nat.reduceEqDiff]
   refine (put_c y F (ext Y []) (y+0) v L k (opK 8) w okY2 (by omega) (by show y≤Y.next; omega)).mono ?_
   rintro _ X ⟨rfl,v2,w2,k2⟩
   replace k2:KpN y F Y X:=k2
   have:=k2.next
   simp (maxDischargeDepth:=6) only[xD,ruW,putL,Nat.reduceLeDiff,xF,ruU,entryE,Nat.reduceLT,Nat.reduceAdd,Nat.reduceMul,Nat.reduceEqDiff]
   exact joinR_normal ⟨by simp only[g9,ruU,entryE,Nat.reduceLT,Nat.reduceAdd,Nat.reduceMul,Nat.reduceEqDiff],k2.mod mY2 hok hHN,by omega,v2,k,w2⟩
  |false =>
   have he:=of_decide_eq_false hd
   rw[hops,curR,if_neg he]
   simp (maxDischargeDepth:=6) only[g3,g9,hyy,ly1,bY1,xD,ruW,putL,Nat.reduceLeDiff,xF,ruU,entryE,Nat.reduceLT,Nat.reduceAdd,Nat.reduceMul,Nat.reduceEqDiff]
   refine (put_c y F (ext Y []) (y+0) v L k (opM r2 c2) w okY2 (by omega) (by show y≤Y.next; omega)).mono ?_
   rintro _ X ⟨rfl,v2,w2,k2⟩
   replace k2:KpN y F Y X:=k2
   have hxn:=k2.next
   have okX:=k2.ok okY2
   rw[show X=ext X [] from rfl]
   simp (maxDischargeDepth:=6) only[g9,xD,ruW,putL,Nat.reduceLeDiff,xF,ruU,entryE,Nat.reduceLT,Nat.reduceAdd,Nat.reduceMul,Nat.reduceEqDiff]
   refine (put_c y F (ext X []) (y+0) v2 _ k (opK 7) w2 okX (by rw[zB6]; simp only[List.length_singleton]; omega) (by show y≤X.next; omega)).mono ?_
   rintro _ X3 ⟨rfl,v3,w3,k3⟩
   replace k3:KpN y F X X3:=k3
   have hxn3:=k3.next
   rw[List.append_assoc]at w3
   simp (maxDischargeDepth:=6) only[xD,ruW,putL,Nat.reduceLeDiff,xF,ruU,entryE,Nat.reduceLT,Nat.reduceAdd,Nat.reduceMul,Nat.reduceEqDiff]
   exact joinR_normal ⟨by simp only[g9,ruU,entryE,Nat.reduceLT,Nat.reduceAdd,Nat.reduceMul,Nat.reduceEqDiff],(k2.trans k3).mod mY2 hok hHN,by omega,v3,k,w3⟩
 clear g3 g9 E
 rintro E X ⟨g9,mX,xl,v,k,w⟩
 obtain⟨xx,hxx⟩:∃ n,X.next=n:=⟨_,rfl⟩
 have lx:y+0<xx:=by omega
 have wc:=w.cell
 rw[show X=ext X [] from rfl]
 simp (maxDischargeDepth:=6) only[g9,hxx,lx,wc,Tryd.results13,xD,ruW,putL,Nat.reduceLeDiff,xF,ruU,entryE,Nat.reduceLT,Nat.reduceAdd,Nat.reduceMul,Nat.reduceEqDiff]
 exact⟨mX,v,by rw[hV4],by rw[hV4]; exact w.ops,fun n hn=>by have:=(w.ids n hn).1; omega⟩
def byR (l:List Int):List UInt8:=l.map fun n=>UInt8.ofNat n.toNat
theorem b8 {n:Int} (h0:0≤n) (h1:n<256):((UInt8.ofNat n.toNat).toNat:Int)=n:=by
 rw[UInt8.toNat_ofNat']
 omega
theorem bt_z {n:Int} {t:List UInt8} (h0:0≤n) (h1:n<256):bt (UInt8.ofNat n.toNat::t) 0=n:=b8 h0 h1
theorem bt_s {x:UInt8} {t:List UInt8} {i:Nat}:bt (x::t) (i+1)=bt t i:=by simp[bt]
theorem tl_z {n:Int} {t:List UInt8} (h0:128≤n) (h1:n<192):tl (UInt8.ofNat n.toNat::t) 0=true:=by
 have:=bt_z (n:=n) (t:=t) (by omega) (by omega)
 simp[tl,this,h0,h1]
theorem tl_s {x:UInt8} {t:List UInt8} {i:Nat}:tl (x::t) (i+1)=tl t i:=by
 simp[tl,bt_s]
theorem bt1 {x:UInt8} {t:List UInt8}:bt (x::t) 1=bt t 0:=bt_s
theorem tl1 {x:UInt8} {t:List UInt8}:tl (x::t) 1=tl t 0:=tl_s
theorem bt2 {x:UInt8} {t:List UInt8}:bt (x::t) 2=bt t 1:=bt_s
theorem tl2 {x:UInt8} {t:List UInt8}:tl (x::t) 2=tl t 1:=tl_s
theorem bt3 {x:UInt8} {t:List UInt8}:bt (x::t) 3=bt t 2:=bt_s
theorem tl3 {x:UInt8} {t:List UInt8}:tl (x::t) 3=tl t 2:=tl_s
theorem ptR_enc (c:Int) (hc:isR c=true) (t:List UInt8):ptR (byR (encR c)++t)=(c,((encR c).length:Int)):=by
 have hc':=hc
 unfold isR at hc
 simp only[zA4,decide_eq_true_eq,Bool.not_eq_true',Bool.and_eq_false_imp,decide_eq_false_iff_not]at hc
 obtain⟨⟨c0,c1⟩,c2⟩:=hc
 unfold encR
 by_cases h1:c<128
 ·rw[if_pos h1]
  simp only[byR,zB7,zF2,zF3,zB8,ptR,bt_z (n:=c) (t:=t) (by omega) (by omega)]
  rw[decide_eq_true h1]
  rfl
 rw[if_neg h1]
 by_cases h2:c<2048
 ·rw[if_pos h2]
  have e0:∀ s,bt (UInt8.ofNat (192+c / 64).toNat::s) 0=192+c / 64:=fun s=>bt_z (by omega) (by omega)
  have e1:∀ s,bt (UInt8.ofNat (128+c % 64).toNat::s) 0=128+c % 64:=fun s=>bt_z (by omega) (by omega)
  have f1:∀ s,tl (UInt8.ofNat (128+c % 64).toNat::s) 0=true:=fun s=>tl_z (by omega) (by omega)
  simp only[byR,zB7,zF2,zF3,zB8,ptR,e0,bt1,tl1,e1,f1]
  rw[decide_eq_false (show ¬192+c / 64<128 by omega),decide_eq_true (show 194≤192+c / 64 by omega),decide_eq_true (show 192+c / 64<224 by omega)]
  simp only[cond_false,zD1,cond_true,zB5,zC3]
  rw[show (192+c / 64-192)*64+(128+c % 64)-128=c by omega]
  rfl
 rw[if_neg h2]
 by_cases h3:c<65536
 ·rw[if_pos h3]
  have e0:∀ s,bt (UInt8.ofNat (224+c / 4096).toNat::s) 0=224+c / 4096:=fun s=>bt_z (by omega) (by omega)
  have e1:∀ s,bt (UInt8.ofNat (128+c / 64 % 64).toNat::s) 0=128+c / 64 % 64:=fun s=>bt_z (by omega) (by omega)
  have e2:∀ s,bt (UInt8.ofNat (128+c % 64).toNat::s) 0=128+c % 64:=fun s=>bt_z (by omega) (by omega)
  have f1:∀ s,tl (UInt8.ofNat (128+c / 64 % 64).toNat::s) 0=true:=fun s=>tl_z (by omega) (by omega)
  have f2:∀ s,tl (UInt8.ofNat (128+c % 64).toNat::s) 0=true:=fun s=>tl_z (by omega) (by omega)
  simp only[byR,zB7,zF2,zF3,zB8,ptR,e0,bt1,bt2,tl1,tl2,e1,e2,f1,f2]
  have hv:((224+c / 4096-224)*64+(128+c / 64 % 64)-128)*64+(128+c % 64)-128=c:=by omega
  rw[hv,decide_eq_false (show ¬224+c / 4096<128 by omega),decide_eq_false (show ¬224+c / 4096<224 by omega),decide_eq_true (show 224≤224+c / 4096 by omega),decide_eq_true (show 224+c / 4096<240 by omega),decide_eq_true (show 2048≤c by omega),hc']
  simp only[cond_false,zD1,cond_true,Bool.and_false,Bool.false_and,zB5,zC3]
  rfl
 rw[if_neg h3]
 have e0:∀ s,bt (UInt8.ofNat (240+c / 262144).toNat::s) 0=240+c / 262144:=fun s=>bt_z (by omega) (by omega)
 have e1:∀ s,bt (UInt8.ofNat (128+c / 4096 % 64).toNat::s) 0=128+c / 4096 % 64:=fun s=>bt_z (by omega) (by omega)
 have e2:∀ s,bt (UInt8.ofNat (128+c / 64 % 64).toNat::s) 0=128+c / 64 % 64:=fun s=>bt_z (by omega) (by omega)
 have e3:∀ s,bt (UInt8.ofNat (128+c % 64).toNat::s) 0=128+c % 64:=fun s=>bt_z (by omega) (by omega)
 have f1:∀ s,tl (UInt8.ofNat (128+c / 4096 % 64).toNat::s) 0=true:=fun s=>tl_z (by omega) (by omega)
 have f2:∀ s,tl (UInt8.ofNat (128+c / 64 % 64).toNat::s) 0=true:=fun s=>tl_z (by omega) (by omega)
 have f3:∀ s,tl (UInt8.ofNat (128+c % 64).toNat::s) 0=true:=fun s=>tl_z (by omega) (by omega)
 simp only[byR,zB7,zF2,zF3,zB8,ptR,e0,bt1,bt2,bt3,tl1,tl2,tl3,e1,e2,e3,f1,f2,f3]
 have hv:(((240+c / 262144-240)*64+(128+c / 4096 % 64)-128)*64+(128+c / 64 % 64)-128)*64+(128+c % 64)-128=c:=by omega
 rw[hv,decide_eq_false (show ¬240+c / 262144<128 by omega),decide_eq_false (show ¬240+c / 262144<224 by omega),decide_eq_false (show ¬240+c / 262144<240 by omega),decide_eq_true (show 240≤240+c / 262144 by omega),decide_eq_true (show 240+c / 262144<245 by omega),decide_eq_true (show 65536≤c by omega),hc']
 simp only[cond_false,zD1,cond_true,Bool.and_false,Bool.false_and,zB5,zC3]
 rfl
theorem ptsR_enc:∀ (l:List Int),(∀ c∈l,isR c=true)→ptsR (byR (l.flatMap encR))=some l
 |[],_=>rfl
 |c::l,h=>by
  have hc:=h c (by simp)
  have ih:=ptsR_enc l fun q hq=>h q (zB3 _ hq)
  have hb:byR ((c::l).flatMap encR)=byR (encR c)++byR (l.flatMap encR):=by simp[byR]
  have hl:=encR_len c
  have hlen:(byR (encR c)).length=(encR c).length:=by simp[byR]
  rw[hb,ptsR_step _ (by rw[zB6]; omega),ptR_enc c hc]
  simp only
  rw[if_neg (by omega),Int.toNat_natCast,←hlen,List.drop_left,ih]
  rfl
theorem strR_pts (l:List Int) (h:∀ c∈l,isR c=true):ptsR (strR l).data.toList=some l:=by
 have:=ptsR_enc l h
 unfold byR at this
 exact this
def hd0:List Ce→List Ce
 |[]=>[]
 |c::l=>(if c.rune=-1 then Ce.sp else c)::l
theorem chk_all {g:List (List Ce)} {r c:Int} (h:chkR g r c=0):(∀ l∈g,wholeB l=true∧l.length=widG g)∧((0≤r∧r<(g.length:Int)∧0≤c∧c<(widG g:Int))∨(r=-1∧c=0)):=by
 unfold chkR at h
 cases h1:(decide ((g.length:Int)<1)||decide (200<(g.length:Int))) with
 |true=>rw[h1,cond_true]at h; omega
 |false =>
  rw[h1,cond_false]at h
  obtain⟨W,hW⟩:∃ W,widG g=W:=⟨_,rfl⟩
  rw[hW]at h ⊢
  cases h2:(decide ((W:Int)<1)||decide (1000<(W:Int))||(!(decide (0≤r)&&decide (r<(g.length:Int))&&decide (0≤c)&&decide (c<(W:Int)))&&!(decide (r=-1)&&decide (c=0)))) with
  |true=>rw[h2,cond_true]at h; omega
  |false =>
   rw[h2,cond_false]at h
   cases h3:okGrid W g with
   |false=>rw[h3,cond_false]at h; omega
   |true =>
    simp only[Bool.or_eq_false_iff,decide_eq_false_iff_not]at h2
    obtain⟨⟨w1,w2⟩,hp⟩:=h2
    refine⟨fun l hl=>?_,?_⟩
    ·have:=zC0.1 h3 l hl
     unfold okRow at this
     simp only[zA4,decide_eq_true_eq]at this
     exact⟨this.2,this.1⟩
    ·by_cases q:(r=-1∧c=0)
     ·exact .inr q
     ·left
      have:(decide (r=-1)&&decide (c=0))=false:=by
       by_cases q1:r=-1<;>by_cases q2:c=0<;>simp_all
      rw[this]at hp
      simp only[zD6,Bool.and_true,Bool.not_eq_false',zA4,decide_eq_true_eq]at hp
      exact⟨hp.1.1.1,hp.1.1.2,hp.1.2,hp.2⟩
abbrev True1 (H:AHeap) (out:Out) (H1:AHeap):Prop:=out=.ok (.bool true)∧Mod [] H H1
def TxS (l:List Op):Prop:=∀ o∈l,o.text.data.toList.length≤1000
theorem TxS.nil:TxS []:=fun o h=>by cases h
theorem TxS.app {l m:List Op} (h:TxS l) (k:TxS m):TxS (l++m):=fun o ho=>(zB4.1 ho).elim (h o) (k o)
theorem TxS.cons {o:Op} {l:List Op} (h:o.text.data.toList.length≤1000) (k:TxS l):TxS (o::l):=fun q hq=>by
 rcases zB2.1 hq with rfl|hq
 ·exact h
 ·exact k q hq
theorem writeR_tx:∀ (f:Nat) (L:List Ce) (p:Lk),L.length≤200→TxS (writeR f L p).1
 |0,_,_,_=>TxS.nil
 |_+1,[],_,_=>TxS.nil
 |f+1,c::L,p,h=>by
  rw[writeR]
  refine TxS.app ?_ (TxS.cons ?_ (writeR_tx f _ _ (by rw[zD8]; omega)))
  ·split
   ·exact TxS.nil
   ·exact TxS.cons (zB0 _) TxS.nil
  ·have h1:=enc_len (runesR ((c::L).take (spanR c.look (c::L))))
   have h2:=runesR_len ((c::L).take (spanR c.look (c::L)))
   have h3:=List.length_take_le (spanR c.look (c::L)) (c::L)
   have h4:(opT (strR (runesR ((c::L).take (spanR c.look (c::L)))))).text.data.toList.length=((runesR ((c::L).take (spanR c.look (c::L)))).flatMap encR).length:=by simp[opT,strR]
   have h5:((c::L).take (spanR c.look (c::L))).length≤(c::L).length:=by rw[zF6]; omega
   omega
theorem piecesR_tx (row:Nat) (a b:List Ce) (e:Nat) (hb:b.length≤200):∀ (f i:Nat) (p:Lk),TxS (piecesR row a b e f i p).1
 |0,_,_=>TxS.nil
 |f+1,i,p=>by
  rw[piecesR]
  split
  ·refine TxS.app ?_ (piecesR_tx row a b e hb f _ _)
   exact TxS.cons (zB0 _) (writeR_tx _ _ _ (by rw[zD8,zF6]; omega))
  ·exact TxS.nil
theorem lineR_tx (row:Nat) (a b:List Ce) (hb:b.length≤200) (p:Lk):TxS (lineR row a b p).1:=by
 refine TxS.app (piecesR_tx row a b _ hb _ _ _) ?_
 unfold endR
 split
 ·exact TxS.nil
 ·exact TxS.cons (zB0 _) (TxS.cons (zB0 _) TxS.nil)
theorem rowsR_tx:∀ (g h:List (List Ce)) (i:Nat) (p:Lk),(∀ l∈h,l.length≤200)→TxS (rowsR i g h p)
 |[],h,i,p,_=>by cases h<;>exact TxS.nil
 |_::_,[],i,p,_=>TxS.nil
 |a::g,b::h,i,p,hw=>by
  rw[rowsR]
  split
  ·exact rowsR_tx g h _ _ fun l hl=>hw l (zB3 _ hl)
  ·exact TxS.app (lineR_tx i a b (hw b (by simp)) p) (rowsR_tx g h _ _ fun l hl=>hw l (zB3 _ hl))
theorem opsR_tx {g h:List (List Ce)} {r c r2 c2:Int} (hl:g.length=h.length) (hw:∀ l∈h,l.length≤200):TxS (opsR g h r c r2 c2):=by
 refine TxS.app (TxS.app ?_ (rowsR_tx _ _ _ _ hw)) ?_
 ·cases hs:shiftR g h with
  |none=>exact TxS.nil
  |some x =>
   obtain⟨t,b,i,k,rfl,-⟩:=shift_some hs hl
   exact TxS.cons (zB0 _) TxS.nil
 ·unfold curR
  split
  ·exact TxS.cons (zB0 _) TxS.nil
  ·exact TxS.cons (zB0 _) (TxS.cons (zB0 _) TxS.nil)
theorem opsV_ok {g h:List (List Ce)} {r c r2 c2:Int} {l:List Op} (hv:opsV g h r c r2 c2=(l,0)):chkR g r c=0∧chkR h r2 c2=0∧g.length=h.length∧widG g=widG h∧l=opsR g h r c r2 c2:=by
 unfold opsV at hv
 split at hv
 ·rename_i h1; exact absurd (Prod.mk.inj hv).2 h1
 rename_i h1
 split at hv
 ·rename_i h2; exact absurd (Prod.mk.inj hv).2 h2
 rename_i h2
 split at hv
 ·cases hv
 rename_i h3
 cases hv
 simp only[ne_eq,not_or,Decidable.not_not]at h1 h2 h3
 exact⟨h1,h2,h3.1,h3.2,rfl⟩
theorem rowsR_len:∀ (g h:List (List Ce)) (i:Nat) (p:Lk),(∀ l∈h,l.length≤60)→(rowsR i g h p).length≤h.length*182
 |[],h,i,p,_=>by cases h<;>simp[rowsR]
 |_::_,[],i,p,_=>by simp[rowsR]
 |a::g,b::h,i,p,hw=>by
  have h1:=rowsR_len g h (i+1) p fun l hl=>hw l (zB3 _ hl)
  have h2:=rowsR_len g h (i+1) (lineR i a b p).2 fun l hl=>hw l (zB3 _ hl)
  have h3:=lineR_len i a b p
  have h4:=hw b (by simp)
  rw[rowsR]
  simp only[zB5]
  split
  ·omega
  ·rw[zB6]; omega
theorem opsV_len {g h:List (List Ce)} {r c r2 c2:Int} (hl:h.length≤12) (hw:∀ l∈h,l.length≤60):(opsV g h r c r2 c2).1.length≤3000:=by
 unfold opsV
 split
 ·simp
 split
 ·simp
 split
 ·simp
 have h1:=rowsR_len (nowR g h r c) h 0 lk0 hw
 have h2:(shiftR g h).toList.length≤1:=by cases shiftR g h<;>simp
 have h3:(curR r2 c2).length≤2:=by unfold curR; split<;>simp
 simp only[opsR,zB6]
 omega
def dif (a b:List Ce) (i:Nat):Nat→Nat
 |0=>0
 |n+1=>(if a[i]?=b[i]? then 0 else 1)+dif a b (i+1) n
theorem dif_add (a b:List Ce):∀ (n m i:Nat),dif a b i (n+m)=dif a b i n+dif a b (i+n) m
 |0,m,i=>by simp[dif]
 |n+1,m,i=>by
  rw[show n+1+m=(n+m)+1 by omega,dif,dif,dif_add a b n m (i+1),show i+1+n=i+(n+1) by omega]; omega
theorem dif_one (a b:List Ce) (i:Nat):dif a b i 1=if a[i]?=b[i]? then 0 else 1:=by simp[dif]
theorem lenR_str (l:List Int) (h:∀ c∈l,isR c=true):lenR (strR l).data.toList=l.length:=by
 rw[lenR,strR_pts l h]
theorem costR_app:∀ (l m:List Op),costR (l++m)=costR l+costR m
 |[],m=>by simp[costR]
 |o::l,m=>by rw[zF3,costR,costR,costR_app l m]; omega
theorem writeR_cost:∀ (f:Nat) (L:List Ce) (p:Lk),(∀ c∈L,c.rune≠-1→isR c.rune=true)→costR (writeR f L p).1≤L.length
 |0,L,p,_=>by simp[writeR,costR]
 |_+1,[],p,_=>by simp[writeR,costR]
 |f+1,c::L',p,h=>by
  obtain⟨L,hL⟩:∃ L,c::L'=L:=⟨_,rfl⟩
  rw[writeR,hL]
  rw[hL]at h
  obtain⟨n,hn⟩:∃ n,spanR c.look L=n:=⟨_,rfl⟩
  have hle:n≤L.length:=hn▸spanR_le c.look L
  rw[hn]
  have ih:=writeR_cost f (L.drop n) c.look fun q hq=>h q (zE5 hq)
  have h1:lenR (strR (runesR (L.take n))).data.toList=(runesR (L.take n)).length:=lenR_str _ fun q hq=>by
   simp only[runesR,List.mem_filter,List.mem_map,decide_eq_true_eq]at hq
   obtain⟨⟨e,h1,rfl⟩,h2⟩:=hq
   exact h e (zE4 h1) h2
  have h2:=runesR_len (L.take n)
  rw[costR_app,costR,if_pos (show (opT (strR (runesR (L.take n)))).kind=3 from rfl),show (opT (strR (runesR (L.take n)))).text=strR (runesR (L.take n)) from rfl,h1]
  have h3:costR (if c.look=p then [] else [opL c.look])=0:=by
   split
   ·rfl
   ·rw[costR,if_neg (show ¬(opL c.look).kind=3 from by show ¬(2:Int)=3; decide)]; rfl
  rw[zD8]at ih
  rw[zF6]at h2
  rw[h3]
  omega
theorem gapR_dif (a b:List Ce) (s:Nat) (hne:a[s]?≠b[s]?):∀ (f i td k:Nat),td≤i→s≤td→i-td=k→k≤8→dif a b td (i-td)=0→((td-s)+7≤8*dif a b s (td-s)∨(td=s∧i=s)) →
  (gapR a b i td k f-s)+7≤8*dif a b s (gapR a b i td k f-s)∨gapR a b i td k f=s
 |0,i,td,k,h1,h2,h3,h4,h5,h6=>by
  rw[gapR]
  rcases h6 with h6|⟨h6,_⟩
  ·exact .inl h6
  ·exact .inr h6
 |f+1,i,td,k,h1,h2,h3,h4,h5,h6=>by
  rw[gapR]
  split
  ·rename_i hk
   split
   ·rename_i he
    rcases h6 with h6|⟨h6,h7⟩
    ·refine gapR_dif a b s hne f (i+1) td (k+1) (by omega) h2 (by omega) (by omega) ?_ (.inl h6)
     rw[show i+1-td=(i-td)+1 by omega,dif_add,h5,show td+(i-td)=i by omega,dif_one,if_pos he]
    ·subst h6 h7
     exact absurd he hne
   ·rename_i he
    refine gapR_dif a b s hne f (i+1) (i+1) 0 (zA5 _) (by omega) (by omega) (by omega) (by rw[zE9]; rfl) (.inl ?_)
    have e1:dif a b s (i+1-s)=dif a b s (td-s)+dif a b td (i-td)+1:=by
     rw[show i+1-s=(td-s)+((i-td)+1) by omega,dif_add,show s+(td-s)=td by omega,dif_add,show td+(i-td)=i by omega,dif_one,if_neg he]
     omega
    rw[e1,h5]
    rcases h6 with h6|⟨h6,h7⟩
    ·omega
    ·omega
  ·rcases h6 with h6|⟨h6,_⟩
   ·exact .inl h6
   ·exact .inr h6
theorem dif_le (a b:List Ce) (i:Nat) {n m:Nat} (h:n≤m):dif a b i n≤dif a b i m:=by
 rw[show m=n+(m-n) by omega,dif_add]; omega
theorem piece_dif {a b:List Ce} {i e:Nat} (h:(pieceR a b i e).1<(pieceR a b i e).2):(pieceR a b i e).2-(pieceR a b i e).1≤8*dif a b (pieceR a b i e).1 ((pieceR a b i e).2-(pieceR a b i e).1):=by
 obtain⟨s,hs⟩:∃ s,skipR a b i (e-i)=s:=⟨_,rfl⟩
 have hsg:=skipR_ge a b (e-i) i
 have hsd:=skipR_ne a b (e-i) i
 rw[hs]at hsg hsd
 obtain⟨T,hT⟩:∃ t,gapR a b s s 0 (e-s)=t:=⟨_,rfl⟩
 have hp:pieceR a b i e=(s,half9 b s T):=by simp only[pieceR,hs,hT]
 have hTg:=gapR_le a b (e-s) s s 0 (zA5 _)
 rw[hT]at hTg
 rw[hp]at h ⊢
 simp only at h ⊢
 have hh:T≤half9 b s T∧half9 b s T≤T+1:=by unfold half9; split<;>omega
 have hst:s<T:=by
  unfold half9 at h
  split at h
  ·rename_i hc; exact hc.1
  ·exact h
 have hne:=hsd (by omega)
 have hg:=gapR_dif a b s hne (e-s) s s 0 (zA5 _) (zA5 _) (zE9 _) (by omega) (by rw[zE9]; rfl) (.inr ⟨rfl,rfl⟩)
 rw[hT]at hg
 have hm:=dif_le a b s (show T-s≤half9 b s T-s by omega)
 omega
theorem pieces_cost {row e W:Nat} {a b:List Ce} (hb:b.length=W) (he:e≤W) (hc:∀ c∈b,c.rune≠-1→isR c.rune=true):∀ (f i:Nat) (p:Lk),i≤W→costR (piecesR row a b e f i p).1≤((8*dif a b i (W-i):Nat):Int)
 |0,i,p,_=>by simp[piecesR,costR]; omega
 |f+1,i,p,hi=>by
  have h1:=pieceR_ge a b i e
  have h2:=pieceR_le a b i e (by omega) (by omega)
  rw[piecesR]
  split
  ·rename_i hst
   have hd:=piece_dif hst
   obtain⟨s,hs⟩:∃ s,(pieceR a b i e).1=s:=⟨_,rfl⟩
   obtain⟨t,ht⟩:∃ t,(pieceR a b i e).2=t:=⟨_,rfl⟩
   rw[hs,ht]at h1 hst hd ⊢
   rw[ht]at h2
   have ih:=pieces_cost (row:=row) (a:=a) hb he hc f t (runsR row s ((b.take t).drop s) p).2 (by omega)
   have hw:=writeR_cost ((b.take t).drop s).length ((b.take t).drop s) p fun c hm=>hc c (zE4 (zE5 hm))
   have hlen:((b.take t).drop s).length=t-s:=by rw[zD8,zF6]; omega
   rw[hlen]at hw
   have e1:dif a b i (W-i)=dif a b i (s-i)+(dif a b s (t-s)+dif a b t (W-t)):=by
    rw[show W-i=(s-i)+((t-s)+(W-t)) by omega,dif_add,show i+(s-i)=s by omega,dif_add,show s+(t-s)=t by omega]
   have e2:costR (runsR row s ((b.take t).drop s) p).1=costR (writeR (t-s) ((b.take t).drop s) p).1:=by
    simp only[runsR,hlen]
    rw[costR,if_neg (show ¬(opM row s).kind=3 from by show ¬(1:Int)=3; decide)]; omega
   simp only
   rw[costR_app,e2,e1]
   omega
  ·simp[costR]; omega
theorem line_cost {row:Nat} {a b:List Ce} (p:Lk) (hc:∀ c∈b,c.rune≠-1→isR c.rune=true):costR (lineR row a b p).1≤((8*dif a b 0 b.length:Nat):Int):=by
 have h:=pieces_cost (row:=row) (a:=a) rfl (tailR_le b b.length) hc (b.length+1) 0 p (zB0 _)
 have h2:costR (endR row a b (tailR b b.length))=0:=by
  unfold endR
  split
  ·rfl
  ·rw[costR,if_neg (show ¬(opM row (tailR b b.length)).kind=3 from by show ¬(1:Int)=3; decide),costR,if_neg (show ¬(opK 4).kind=3 from by show ¬(4:Int)=3; decide)]; rfl
 simp only[lineR]
 rw[costR_app,h2]
 rw[Nat.sub_zero]at h
 omega
def difs:List (List Ce)→List (List Ce)→Nat
 |a::g,b::h=>dif a b 0 b.length+difs g h
 |_,_=>0
theorem rows_cost:∀ (g h:List (List Ce)) (i:Nat) (p:Lk),(∀ l∈h,∀ c∈l,c.rune≠-1→isR c.rune=true)→costR (rowsR i g h p)≤((8*difs g h:Nat):Int)
 |[],h,i,p,_=>by cases h<;>simp[rowsR,costR,difs]
 |_::_,[],i,p,_=>by simp[rowsR,costR,difs]
 |a::g,b::h,i,p,hc=>by
  rw[rowsR,difs]
  split
  ·have:=rows_cost g h (i+1) p fun l hl=>hc l (zB3 _ hl)
   omega
  ·have h1:=line_cost (row:=i) (a:=a) (b:=b) p (hc b (by simp))
   have h2:=rows_cost g h (i+1) (lineR i a b p).2 fun l hl=>hc l (zB3 _ hl)
   rw[costR_app]
   omega
theorem cur_cost (r c:Int):costR (curR r c)=0:=by
 unfold curR
 split
 ·rfl
 ·rfl
def stepR (g h:List (List Ce)) (row:Int) (o:Op):Option Int :=
 if o.kind=5∨o.kind=6∨(if o.kind=1 then o.row else row)<0∨(h.length:Int)≤(if o.kind=1 then o.row else row)∨((o.kind=3∨o.kind=4)∧g[(if o.kind=1 then o.row else row).toNat]?=h[(if o.kind=1 then o.row else row).toNat]?) then none else some (if o.kind=1 then o.row else row)
def stepsR (g h:List (List Ce)):List Op→Int→Option Int
 |[],r=>some r
 |o::l,r=>(stepR g h r o).bind (stepsR g h l)
theorem stepsR_app (g h:List (List Ce)):∀ (l m:List Op) (r r':Int),stepsR g h l r=some r'→stepsR g h (l++m) r=stepsR g h m r'
 |[],m,r,r',e=>by cases e; rfl
 |o::l,m,r,r',e=>by
  rw[zF3,stepsR]
  rw[stepsR]at e
  cases hd:stepR g h r o with
  |none=>rw[hd]at e; cases e
  |some z=>rw[hd]at e; exact stepsR_app g h l m z r' e
def OnRow (i:Int) (l:List Op):Prop:=∀ o∈l,(o.kind=1∧o.row=i)∨o.kind=2∨o.kind=3∨o.kind=4
theorem OnRow.app {i:Int} {l m:List Op} (h:OnRow i l) (k:OnRow i m):OnRow i (l++m):=fun o ho=>(zB4.1 ho).elim (h o) (k o)
theorem writeR_on (i:Int):∀ (f:Nat) (L:List Ce) (p:Lk),OnRow i (writeR f L p).1
 |0,_,_=>fun o ho=>by cases ho
 |_+1,[],_=>fun o ho=>by cases ho
 |f+1,c::L,p=>by
  rw[writeR]
  refine OnRow.app ?_ fun o ho=>?_
  ·split
   ·intro o ho; cases ho
   ·intro o ho
    rw[zA8]at ho
    subst ho
    exact .inr (.inl rfl)
  ·rcases zB2.1 ho with rfl|ho
   ·exact .inr (.inr (.inl rfl))
   ·exact writeR_on i f _ _ o ho
theorem piecesR_on (row:Nat) (a b:List Ce) (e:Nat):∀ (f i:Nat) (p:Lk),OnRow row (piecesR row a b e f i p).1∧((piecesR row a b e f i p).1=[]∨∃ c l,(piecesR row a b e f i p).1=opM row c::l)
 |0,_,_=>⟨(fun o ho=>by cases ho),.inl rfl⟩
 |f+1,i,p=>by
  rw[piecesR]
  split
  ·refine⟨OnRow.app (fun o ho=>?_) (piecesR_on row a b e f _ _).1,.inr ⟨_,_,rfl⟩⟩
   rcases zB2.1 ho with rfl|ho
   ·exact .inl ⟨rfl,rfl⟩
   ·exact writeR_on row _ _ _ o ho
  ·exact⟨(fun o ho=>by cases ho),.inl rfl⟩
theorem lineR_on (row:Nat) (a b:List Ce) (p:Lk):OnRow row (lineR row a b p).1∧((lineR row a b p).1=[]∨∃ c l,(lineR row a b p).1=opM row c::l):=by
 have h:=piecesR_on row a b (tailR b b.length) (b.length+1) 0 p
 have he:OnRow row (endR row a b (tailR b b.length))∧(endR row a b (tailR b b.length)=[]∨∃ c l,endR row a b (tailR b b.length)=opM row c::l):=by
  unfold endR
  split
  ·exact⟨(fun o ho=>by cases ho),.inl rfl⟩
  ·refine⟨fun o ho=>?_,.inr ⟨_,_,rfl⟩⟩
   simp only[zB2,List.not_mem_nil,or_false]at ho
   rcases ho with rfl|rfl
   ·exact .inl ⟨rfl,rfl⟩
   ·exact .inr (.inr (.inr rfl))
 simp only[lineR]
 refine⟨OnRow.app h.1 he.1,?_⟩
 rcases h.2 with h2|⟨c,l,h2⟩
 ·rw[h2,zB8]; exact he.2
 ·rw[h2]; exact .inr ⟨c,_,rfl⟩
theorem steps_on {g h:List (List Ce)} {i:Nat} (hi:i<h.length) (hne:g[i]?≠h[i]?):∀ (l:List Op),OnRow i l→stepsR g h l (i:Int)=some (i:Int)
 |[],_=>rfl
 |o::l,hl=>by
  have ho:=hl o (by simp)
  have hr:(if o.kind=1 then o.row else (i:Int))=(i:Int):=by
   split
   ·rename_i h1
    rcases ho with h|h|h|h
    ·exact h.2
    ·omega
    ·omega
    ·omega
   ·rfl
  have hst:stepR g h (i:Int) o=some (i:Int):=by
   rw[stepR,hr,if_neg]
   rintro (h1|h1|h1|h1|h1)
   ·rcases ho with h|h|h|h<;>omega
   ·rcases ho with h|h|h|h<;>omega
   ·omega
   ·omega
   ·exact hne h1.2
  rw[stepsR,hst,zA3]
  exact steps_on hi hne l fun q hq=>hl q (zB3 _ hq)
theorem steps_M {g h:List (List Ce)} {r r0 c:Int} (h0:0≤r) (h1:r<(h.length:Int)):stepR g h r0 (opM r c)=some r:=by
 have hk:(opM r c).kind=1:=rfl
 rw[stepR,hk]
 simp only[if_true,show (opM r c).row=r from rfl]
 rw[if_neg]
 rintro (h2|h2|h2|h2|h2)
 ·omega
 ·omega
 ·omega
 ·omega
 ·omega
theorem steps_rows:∀ (g h Q P:List (List Ce)) (p:Lk) (r:Int),Q.length=P.length→0≤r→r<((P++h).length:Int)→∃ r',stepsR (Q++g) (P++h) (rowsR P.length g h p) r=some r'∧0≤r'∧r'<((P++h).length:Int)
 |[],h,Q,P,p,r,_,h0,h1=>by cases h<;>exact⟨r,rfl,h0,h1⟩
 |_::_,[],Q,P,p,r,_,h0,h1=>⟨r,rfl,h0,h1⟩
 |a::g,b::h,Q,P,p,r,hQ,h0,h1=>by
  have e1:Q++a::g=(Q++[a])++g:=by simp
  have e2:P++b::h=(P++[b])++h:=by simp
  have e3:P.length+1=(P++[b]).length:=by simp
  rw[rowsR]
  split
  ·rw[e1,e2,e3]
   exact steps_rows g h (Q++[a]) (P++[b]) p r (by simp[hQ]) h0 (by rw[←e2]; exact h1)
  ·rename_i hab
   have hon:=lineR_on P.length a b p
   have hlt:P.length<(P++b::h).length:=by simp
   have hge:(Q++a::g)[P.length]?=some a:=by rw[←hQ,List.getElem?_append_right (zA5 _),zE9]; rfl
   have hhe:(P++b::h)[P.length]?=some b:=by rw[List.getElem?_append_right (zA5 _),zE9]; rfl
   have hstep:∃ r',stepsR (Q++a::g) (P++b::h) (lineR P.length a b p).1 r=some r'∧0≤r'∧r'<((P++b::h).length:Int):=by
    rcases hon.2 with h2|⟨c,l,h2⟩
    ·rw[h2]; exact⟨r,rfl,h0,h1⟩
    ·rw[h2]at hon ⊢
     refine⟨(P.length:Int),?_,by omega,by omega⟩
     rw[stepsR,steps_M (by omega) (by omega),zA3]
     exact steps_on hlt (by rw[hge,hhe]; simpa using hab) l fun q hq=>hon.1 q (zB3 _ hq)
   obtain⟨r',h3,h4,h5⟩:=hstep
   rw[stepsR_app _ _ _ _ _ _ h3,e1,e2,e3]
   exact steps_rows g h (Q++[a]) (P++[b]) (lineR P.length a b p).2 r' (by simp[hQ]) h4 (by rw[←e2]; exact h5)
theorem steps_all {g h:List (List Ce)} {p:Lk} {r2 c2:Int} (hl:g.length=h.length) (h0:0<h.length) (hc:(0≤r2∧r2<(h.length:Int))∨r2<0):∃ r',stepsR g h (rowsR 0 g h p++curR r2 c2) 0=some r':=by
 obtain⟨r',h1,h2,h3⟩:=steps_rows g h [] [] p 0 rfl (Int.le_refl _) (by simpa using h0)
 simp only[zB8,zC3]at h1 h3
 rw[stepsR_app _ _ _ _ _ _ h1]
 have hK:∀ (k:Int) (q:Int),(k=7∨k=8)→0≤q→q<(h.length:Int)→stepR g h q (opK k)=some q:=fun k q hk q0 q1=>by
  have hkk:(opK k).kind=k:=rfl
  have hn1:¬k=1:=by omega
  rw[stepR,hkk,if_neg hn1,if_neg]
  rintro (h|h|h|h|h)<;>omega
 unfold curR
 split
 ·exact⟨r',by rw[stepsR,hK 8 r' (.inr rfl) h2 h3]; rfl⟩
 ·rename_i hn
  rcases hc with hc|hc
  ·exact⟨r2,by rw[stepsR,steps_M hc.1 hc.2,zA3,stepsR,hK 7 r2 (.inl rfl) hc.1 hc.2]; rfl⟩
  ·exact absurd hc hn
theorem preR_self:∀ (h:List (List Ce)),preR h h=h.length
 |[]=>rfl
 |a::h=>by rw[preR,if_pos rfl,preR_self h]; rfl
theorem shift_self (h:List (List Ce)):shiftR h h=none:=by
 unfold shiftR
 have h1:sufR h h h.length h.length=h.length:=by
  cases hl:h.length with
  |zero=>rfl
  |succ n=>rw[sufR,if_neg (by omega)]
 simp only[preR_self,h1,zE9,Nat.zero_sub,firstI]
 rfl
theorem rows_self:∀ (h:List (List Ce)) (i:Nat) (p:Lk),rowsR i h h p=[]
 |[],_,_=>rfl
 |a::h,i,p=>by rw[rowsR,if_pos rfl]; exact rows_self h _ _
theorem opsV_self {h:List (List Ce)} {r c:Int} (hc:chkR h r c=0):opsV h h r c r c=(curR r c,0):=by
 rw[opsV,if_neg (fun k=>k hc),if_neg (fun k=>k hc),if_neg (fun k=>k.elim (fun k=>k rfl) (fun k=>k rfl)),opsR]
 have:nowR h h r c=h:=by unfold nowR; rw[shift_self]
 rw[this,shift_self,rows_self]
 rfl
theorem unlike_c (H:AHeap) (v1 v2:Value) (l1 l2:List Ce) (h1:RowAt H v1 l1) (h2:RowAt H v2 l2) (hlen:l1.length=l2.length) (hl:l1.length<100000):Pure 33 [v1,v2] H (.int .i64 (dif l1 l2 0 l1.length:Int)):=by
 obtain⟨b,hb⟩:∃ b,H.next=b:=⟨_,rfl⟩
 obtain⟨D,hD⟩:∃ D,dif l1 l2 0 l1.length=D:=⟨_,rfl⟩
 rw[hD]
 refine callS_fn mixed Tryd.func33 rfl Tryd.ntmps33 (zA9 rfl) fun wf hsc=>?_
 obtain⟨a1,c1,e1⟩:=h1.sl
 obtain⟨a2,c2,e2⟩:=h2.sl
 simp (maxDischargeDepth:=6) only[xD,ruW,putL,Nat.reduceLeDiff,xF,ruU,entryE,Nat.reduceLT,Nat.reduceAdd,Nat.reduceMul,Nat.reduceEqDiff]
 refine w_env fun E hE=>?_
 have g0:E 0=v1:=by rw[hE]; simp only[ruU,entryE,Nat.reduceLT,Nat.reduceAdd,Nat.reduceMul,Nat.reduceEqDiff]
 have g1:E 1=v2:=by rw[hE]; simp only[ruU,entryE,Nat.reduceLT,Nat.reduceAdd,Nat.reduceMul,Nat.reduceEqDiff]
 have g5:E 5=.int .i64 ((0:Nat):Int):=by rw[hE]; (simp only[ruU,entryE,Nat.reduceLT,Nat.reduceAdd,Nat.reduceMul,Nat.reduceEqDiff]<;>rfl)
 have g6:E 6=.int .i64 ((0:Nat):Int):=by rw[hE]; (simp only[ruU,entryE,Nat.reduceLT,Nat.reduceAdd,Nat.reduceMul,Nat.reduceEqDiff]<;>rfl)
 clear hE
 refine blockC_meet (fun E' H'=>H'=ext H []∧E' 5=.int .i64 (D:Int)) ?_ ?_
 ·refine w_loop (fun (k:Nat × Nat) E' H'=>H'=ext H []∧E' 0=v1∧E' 1=v2∧E' 5=.int .i64 (k.2:Int)∧E' 6=.int .i64 (k.1:Int)∧k.1≤l1.length∧k.2≤k.1∧k.2+dif l1 l2 k.1 (l1.length-k.1)=D) (fun k=>l1.length-k.1) (0,0)
   ⟨rfl,g0,g1,g5,g6,zB0 _,zA5 _,by simpa using hD⟩ ?_
  clear g0 g1 g5 g6
  rintro⟨k,n⟩ E H' ⟨hH,g0,g1,g5,g6,hk,hnk,hn⟩
  simp only at g5 g6 hk hnk hn
  rw[hH]
  have g0s:=g0
  rw[e1]at g0s
  have g1s:=g1
  rw[e2]at g1s
  by_cases hkl:k=l1.length
  ·have hc:decide ((k:Int)<(l1.length:Int))=false:=by simp[hkl]
   rw[hkl,zE9,dif,zC7]at hn
   simp (maxDischargeDepth:=6) only[g0s,g1s,g5,g6,hc,xD,ruW,putL,Nat.reduceLeDiff,xF,ruU,entryE,Nat.reduceLT,Nat.reduceAdd,Nat.reduceMul,Nat.reduceEqDiff]
   exact joinR_normal ⟨rfl,by simp only[g5,ruU,entryE,Nat.reduceLT,Nat.reduceAdd,Nat.reduceMul,Nat.reduceEqDiff]; rw[hn]⟩
  ·have hlt:k<l1.length:=by omega
   have hc:decide ((k:Int)<(l1.length:Int))=true:=decide_eq_true (by omega)
   have hc2:decide ((k:Int)<(l2.length:Int))=true:=decide_eq_true (by omega)
   rcases id h1 with⟨h,_⟩|⟨_,n1,o1,s1,x1,t1,p1,L1,ev1,b1,n1l,le1,tk1⟩
   ·rw[h]at hlt; simp at hlt
   rcases id h2 with⟨h,_⟩|⟨_,n2,o2,s2,x2,t2,p2,L2,ev2,b2,n2l,le2,tk2⟩
   ·rw[h]at hlen; simp at hlen; simp[hlen]at hlt
   obtain⟨r1,hr1⟩:∃ r,l1[k]?=some r:=⟨_,zA6 hlt⟩
   obtain⟨r2,hr2⟩:∃ r,l2[k]?=some r:=⟨_,zA6 (by omega)⟩
   have i1:=row_ia (n:=n1) (off:=o1) (s:=s1) (cap:=x1) (i:=(k:Int)) rfl hlt
   have i2:=row_ia (n:=n2) (off:=o2) (s:=s2) (cap:=x2) (i:=(k:Int)) (len:=l2.length) rfl (by omega)
   have q1:=row_load (e:=t1) (o:=p1) hr1 le1 tk1
   have q2:=row_load (e:=t2) (o:=p2) hr2 le2 tk2
   rw[hb]at n1l n2l
   have g0':=g0
   rw[ev1]at g0'
   have g1':=g1
   rw[ev2]at g1'
   rw[show l1.length-k=(l1.length-(k+1))+1 by omega,dif,hr1,hr2]at hn
   simp (maxDischargeDepth:=6) only[g0',g1',g5,g6,hc,hc2,xD,ruW,putL,Nat.reduceLeDiff,xF,ruU,entryE,Nat.reduceLT,Nat.reduceAdd,Nat.reduceMul,Nat.reduceEqDiff]
   refine w_drawB [] [] (by kernel_rfl) rfl rfl fun ops anc hA hG=>?_
   simp (maxDischargeDepth:=6) only[g0',g1',g5,g6,hb,i1,i2,b1,b2,n1l,n2l,q1,q2,qk_old,Ce.val,xD,ruD,ruW,putL,Nat.reduceLeDiff,xF,ruU,entryE,Nat.reduceLT,Nat.reduceAdd,Nat.reduceMul,Nat.reduceEqDiff]
   refine wd_eqS (ts:=[3,3,3,4,4,4]) (xs:=r1.cells) (ys:=r2.cells) (r:=!decide (r1=r2)) fl55 ag55 gd55 (by rw[ce_eqL]; rfl) (by simp only[ruU,entryE,Nat.reduceLT,Nat.reduceAdd,Nat.reduceMul,Nat.reduceEqDiff]) (by simp only[ruU,entryE,Nat.reduceLT,Nat.reduceAdd,Nat.reduceMul,Nat.reduceEqDiff]) (by decide) (by simp only[ruU,entryE,Nat.reduceLT,Nat.reduceAdd,Nat.reduceMul,Nat.reduceEqDiff]; rfl) (by simp only[ruU,entryE,Nat.reduceLT,Nat.reduceAdd,Nat.reduceMul,Nat.reduceEqDiff]; rfl) (ce_fits _) (ce_fits _) ?_
   by_cases hr:r1=r2
   ·have hs:decide (r1=r2)=true:=decide_eq_true hr
    rw[if_pos (by rw[hr])]at hn
    simp (maxDischargeDepth:=6) only[g0',g1',g5,g6,hs,zC8,wrap_succ (show k<1000000 by omega),xD,ruD,ruW,putL,Nat.reduceLeDiff,xF,ruU,entryE,Nat.reduceLT,Nat.reduceAdd,Nat.reduceMul,Nat.reduceEqDiff]
    exact loopC_next ⟨(k+1,n),by simp only; omega,rfl,by simp only[g0,ruU,entryE,Nat.reduceLT,Nat.reduceAdd,Nat.reduceMul,Nat.reduceEqDiff],by simp only[g1,ruU,entryE,Nat.reduceLT,Nat.reduceAdd,Nat.reduceMul,Nat.reduceEqDiff],by simp only[g5,ruU,entryE,Nat.reduceLT,Nat.reduceAdd,Nat.reduceMul,Nat.reduceEqDiff],by simp only[ruU,entryE,Nat.reduceLT,Nat.reduceAdd,Nat.reduceMul,Nat.reduceEqDiff],by simp only; omega,by simp only; omega,by simp only; omega⟩
   ·have hs:decide (r1=r2)=false:=decide_eq_false hr
    rw[if_neg (fun e=>hr (Option.some.inj e))]at hn
    simp (maxDischargeDepth:=6) only[g0',g1',g5,g6,hs,zD6,wrap_succ (show k<1000000 by omega),wrap_succ (show n<1000000 by omega),xD,ruD,ruW,putL,Nat.reduceLeDiff,xF,ruU,entryE,Nat.reduceLT,Nat.reduceAdd,Nat.reduceMul,Nat.reduceEqDiff]
    exact loopC_next ⟨(k+1,n+1),by simp only; omega,rfl,by simp only[g0,ruU,entryE,Nat.reduceLT,Nat.reduceAdd,Nat.reduceMul,Nat.reduceEqDiff],by simp only[g1,ruU,entryE,Nat.reduceLT,Nat.reduceAdd,Nat.reduceMul,Nat.reduceEqDiff],by simp only[ruU,entryE,Nat.reduceLT,Nat.reduceAdd,Nat.reduceMul,Nat.reduceEqDiff],by simp only[ruU,entryE,Nat.reduceLT,Nat.reduceAdd,Nat.reduceMul,Nat.reduceEqDiff],by simp only; omega,by simp only; omega,by simp only; omega⟩
 clear g0 g1 g5 g6 E
 rintro E H' ⟨hH,g5⟩
 rw[hH]
 simp (maxDischargeDepth:=6) only[g5,Tryd.results33,xD,ruW,putL,Nat.reduceLeDiff,xF,ruU,entryE,Nat.reduceLT,Nat.reduceAdd,Nat.reduceMul,Nat.reduceEqDiff]
 exact Fin.pureE rfl rfl
theorem costB_c (H:AHeap) (t:Tab H) (h01:1<H.next) (v:Value) (g:List Op) (hg:OpsAt H v g) (hgl:g.length≤10000) (hw:∀ x∈g,x.text.data.toList.length≤1000):Pure 24 [v] H (.int .i64 (costR g)):=by
 obtain⟨C,hC⟩:∃ C,costR g=C:=⟨_,rfl⟩
 rw[hC]
 obtain⟨a0,c0,e0⟩:=hg.sl
 refine callS_fn mixed Tryd.func24 rfl Tryd.ntmps24 (zA9 rfl) fun wf hsc=>?_
 have hok:=wf.base
 rw[e0]
 simp (maxDischargeDepth:=6) only[ruW,putL,Nat.reduceLeDiff,xF,ruU,entryE,Nat.reduceLT,Nat.reduceAdd,Nat.reduceMul,Nat.reduceEqDiff]
 refine w_env fun E hE=>?_
 have g3:E 3=.int .i64 (0:Int):=by rw[hE]; (simp only[ruU,entryE,Nat.reduceLT,Nat.reduceAdd,Nat.reduceMul,Nat.reduceEqDiff]<;>rfl)
 have g6:E 6=.slice a0 g.length c0:=by rw[hE]; simp only[ruU,entryE,Nat.reduceLT,Nat.reduceAdd,Nat.reduceMul,Nat.reduceEqDiff]
 have g7:E 7=.int .i64 (g.length:Int):=by rw[hE]; simp only[ruU,entryE,Nat.reduceLT,Nat.reduceAdd,Nat.reduceMul,Nat.reduceEqDiff]
 have g8:E 8=.int .i64 ((0:Nat):Int):=by rw[hE]; (simp only[ruU,entryE,Nat.reduceLT,Nat.reduceAdd,Nat.reduceMul,Nat.reduceEqDiff]<;>rfl)
 clear hE
 refine blockC_meet (fun E' X=>Mod [] H X∧E' 3=.int .i64 C) ?_ ?_
 ·refine w_loop (fun (k:Nat × Int) E' X=>Mod [] H X∧E' 3=.int .i64 k.2∧E' 6=.slice a0 g.length c0∧E' 7=.int .i64 (g.length:Int)∧E' 8=.int .i64 (k.1:Int)∧k.1≤g.length∧k.2+costR (g.drop k.1)=C∧0≤k.2∧k.2≤1000*k.1) (fun k=>g.length-k.1) (0,0)
   ⟨Mod.refl,g3,g6,g7,g8,zB0 _,by simpa using hC,Int.le_refl _,by simp⟩ ?_
  clear g3 g6 g7 g8
  rintro⟨k,n⟩ E X ⟨mX,g3,g6,g7,g8,hk,hn,hn0,hn1⟩
  simp only at g3 g8 hk hn hn0 hn1
  obtain⟨x,hx⟩:∃ x,X.next=x:=⟨_,rfl⟩
  have okX:=mX.ok hok
  have hxb:X.base≤x:=hx▸okX
  have hgX:=opsAt_mod hg mX
  have tX:Tab X:=t.of (mX.get 0 (by omega) (by simp)) (mX.get 1 (by omega) (by simp))
  rw[show X=ext X [] from rfl]
  by_cases hkl:k=g.length
  ·have hc:decide ((k:Int)<(g.length:Int))=false:=by simp[hkl]
   simp (maxDischargeDepth:=6) only[g3,g6,g7,g8,hc,ruW,putL,Nat.reduceLeDiff,xF,ruU,entryE,Nat.reduceLT,Nat.reduceAdd,Nat.reduceMul,Nat.reduceEqDiff]
   rw[zE7 (by omega),costR,Int.add_zero]at hn
   exact joinR_normal ⟨mX,by simp only[g3,hn,ruU,entryE,Nat.reduceLT,Nat.reduceAdd,Nat.reduceMul,Nat.reduceEqDiff]⟩
  ·have hlk:k<g.length:=by omega
   have hc:decide ((k:Int)<(g.length:Int))=true:=decide_eq_true (by omega)
   rcases hgX with⟨h',_⟩|⟨_,n1,o1,s1,x1,t1,p1,L1,ev,b1,n1l,le1,tk1⟩
   ·rw[h']at hlk; simp at hlk
   rw[ev]at e0
   cases e0
   obtain⟨w1,hr1⟩:∃ r,g[k]?=some r:=⟨_,zA6 hlk⟩
   have i1:=op_ia (n:=n1) (off:=o1) (s:=s1) (cap:=c0) (i:=(k:Int)) rfl hlk
   have q1:=op_load (e:=t1) (o:=p1) hr1 le1 tk1
   rw[hx]at n1l
   have hdr:g.drop k=w1::g.drop (k+1):=by
    rw[zF0 hlk]
    rw[zA6 hlk]at hr1
    rw[Option.some.inj hr1]
   rw[hdr,costR]at hn
   have hws:=hw w1 (zB9 hr1)
   have hll:=lenR_le w1.text.data.toList
   have hwl:w1.text.data.toList.length≤1000:=hws
   obtain⟨d,hd⟩:∃ d,decide (w1.kind=3)=d:=⟨_,rfl⟩
   cases d with
   |true =>
    rw[if_pos (of_decide_eq_true hd)]at hn
    obtain⟨m,hm⟩:∃ m,lenR w1.text.data.toList=m:=⟨_,rfl⟩
    have hlen:∀ L,Pure 52 [.string w1.text] (ext X L) (.int .i64 m):=fun L=>by
     rw[←hm]
     exact len_c (ext X L) (tX.of (ext_get_old (by have:=mX.next; omega)) (ext_get_old (by have:=mX.next; omega))) w1.text (by omega)
    rw[hm]at hll hn
    simp (maxDischargeDepth:=6) only[g3,g6,g7,g8,hx,hxb,hc,i1,b1,n1l,q1,qk_old,hd,Op.val,Op.cells,ruW,putL,Nat.reduceLeDiff,xF,ruU,entryE,Nat.reduceLT,Nat.reduceAdd,Nat.reduceMul,Nat.reduceEqDiff]
    refine (hlen _).to ?_
    have hw2:IntKind.i64.wrap (n+m)=n+m:=wrap_sm (by omega) (by omega)
    simp (maxDischargeDepth:=6) only[g3,g6,g7,g8,hw2,wrap_succ (show k<1000000 by omega),ruW,putL,Nat.reduceLeDiff,xF,ruU,entryE,Nat.reduceLT,Nat.reduceAdd,Nat.reduceMul,Nat.reduceEqDiff]
    refine loopC_next ⟨(k+1,n+m),by simp only; omega,mX.trans (Mod.ext okX),?_,?_,?_,?_,by simp only; omega,by simp only; omega,by simp only; omega,by simp only; omega⟩<;>simp only[g3,g6,g7,ruU,entryE,Nat.reduceLT,Nat.reduceAdd,Nat.reduceMul,Nat.reduceEqDiff]
   |false =>
    rw[if_neg (of_decide_eq_false hd),Int.zero_add]at hn
    simp (maxDischargeDepth:=6) only[g3,g6,g7,g8,hx,hxb,hc,i1,b1,n1l,q1,qk_old,hd,Op.val,Op.cells,wrap_succ (show k<1000000 by omega),ruW,putL,Nat.reduceLeDiff,xF,ruU,entryE,Nat.reduceLT,Nat.reduceAdd,Nat.reduceMul,Nat.reduceEqDiff]
    refine loopC_next ⟨(k+1,n),by simp only; omega,mX.trans (Mod.ext okX),?_,?_,?_,?_,by simp only; omega,by simp only; omega,by simp only; omega,by simp only; omega⟩<;>simp only[g3,g6,g7,ruU,entryE,Nat.reduceLT,Nat.reduceAdd,Nat.reduceMul,Nat.reduceEqDiff]
 ·rintro E X ⟨mX,g3⟩
  rw[show X=ext X [] from rfl]
  simp (maxDischargeDepth:=6) only[g3,Tryd.results24,ruW,putL,Nat.reduceLeDiff,xF,ruU,entryE,Nat.reduceLT,Nat.reduceAdd,Nat.reduceMul,Nat.reduceEqDiff]
  exact Ax.Fin.mod rfl mX rfl
theorem OpsW.slE {H:AHeap} {v:Value} {l:List Op} (h:OpsW H v l) (hl:l≠[]):SlE H 10 v (opsOf l) l.length:=by
 obtain⟨h1,h2,⟨h3,rfl⟩|⟨h3,n,rfl,hb,hn⟩⟩:=h
 ·exact absurd (zC5 h3) hl
 ·exact⟨n,0,none,0,_,_,_,rfl,.inr ⟨rfl,_,hb⟩,rk_of hb,hn,by rw[opsOf_len]; omega,by rw[zD3,zE6 (by rw[opsOf_len]; exact zA5 _)]⟩
theorem SlE.ops {H:AHeap} {u:Value} {l:List Op} (h:SlE H 10 u (opsOf l) l.length) (hl:l≠[]):OpsAt H u l:=by
 obtain⟨n,off,s,c,e,o,M,rfl,h1,h2,h3,h4,h5⟩:=h
 exact .inr ⟨hl,n,off,s,_,e,o,M,rfl,h2,h3,h4,h5⟩
theorem ops_head {x:Op} {l:List Op}:((opsOf (x::l)).drop (0*10)).take ((1-0)*10)=opsOf [x]∧((opsOf (x::l)).drop (1*10)).take (((l.length+1)-1)*10)=opsOf l:=by
 have h1:opsOf (x::l)=opsOf [x]++opsOf l:=by rw[←opsOf_append]; rfl
 have h2:(opsOf [x]).length=10:=rfl
 rw[h1]
 refine⟨?_,?_⟩
 ·rw[zE1,zD3,Nat.sub_zero,Nat.one_mul,←h2,List.take_left]
 ·rw[Nat.one_mul,←h2,List.drop_left,Nat.add_sub_cancel,h2,zE6 (by rw[opsOf_len]; exact zA5 _)]
theorem difs_step {g h:List (List Ce)} {i:Nat} {a b:List Ce} (ha:g[i]?=some a) (hb:h[i]?=some b):difs (g.drop i) (h.drop i)=dif a b 0 b.length+difs (g.drop (i+1)) (h.drop (i+1)):=by
 obtain⟨l1,e1⟩:=zE2.1 ha
 obtain⟨l2,e2⟩:=zE2.1 hb
 rw[zF0 l1,zF0 l2,e1,e2,difs]
theorem difs_end {g h:List (List Ce)} {i:Nat} (hi:h.length≤i):difs (g.drop i) (h.drop i)=0:=by
 rw[zE7 hi]
 cases g.drop i<;>rfl
theorem dif_n (a b:List Ce):∀ (n i:Nat),dif a b i n≤n
 |0,_=>zA5 _
 |n+1,i=>by
  have:=dif_n a b n (i+1)
  rw[dif]
  split<;>omega
theorem difs_le:∀ (g h:List (List Ce)),(∀ l∈h,l.length≤60)→difs g h≤60*h.length
 |[],h,_=>by cases h<;>simp[difs]
 |_::_,[],_=>by simp[difs]
 |a::g,b::h,hw=>by
  have h1:=difs_le g h fun l hl=>hw l (zB3 _ hl)
  have h2:=hw b (by simp)
  have h3:dif a b 0 b.length≤b.length:=dif_n a b b.length 0
  rw[difs,zB5]
  omega
theorem law8_c (H:AHeap) (u1 u2:Value) (g h:List (List Ce)) (r c r2 c2:Int) (h1:GridS H u1 g) (h2:GridS H u2 h) (t:Tab H) (hT:1<H.next) (hok:H.base≤H.next) (hs1:scb H.next u1=true) (hs2:scb H.next u2=true) (dk:∀ G:AHeap,Tab G→1<G.next→Pure 6 [] G (.bool true)) :
  CallA Tryd.prog 8 [.agg ⟨[u1,.int .i64 r,.int .i64 c]⟩,.agg ⟨[u2,.int .i64 r2,.int .i64 c2]⟩] H (True1 H):=by
 have hs10:=hs1
 have hs20:=hs2
 obtain⟨x,hx⟩:∃ x,H.next=x:=⟨_,rfl⟩
 have hxb:H.base≤x:=hx▸hok
 obtain⟨a1,b1,e1⟩:=h1.at_.sl
 obtain⟨a2,b2,e2⟩:=h2.at_.sl
 rw[hx]at hs1 hs2
 have hs1':=hs1
 have hs2':=hs2
 rw[e1]at hs1'
 rw[e2]at hs2'
 refine callE_fn mixed Tryd.func8 rfl Tryd.ntmps8 (zA9 rfl) ?_
 rw[e1,e2]
 simp (maxDischargeDepth:=6) only[hx,hxb,hs1',hs2',xD,ruW,putL,Nat.reduceLeDiff,xF,ruU,entryE,Nat.reduceLT,Nat.reduceAdd,Nat.reduceMul,Nat.reduceEqDiff]
 rw[←e1,←e2]
 generalize hX:ext H _=Y
 have mY:Mod [] H Y:=hX▸Mod.ext hok
 have nY:Y.next=x+2:=by rw[←hX,ext_next,hx]; rfl
 have bY0:bk Y (x+0)=some ⟨24,false,[u1,.int .i64 r,.int .i64 c]⟩:=by rw[←hX,bk_at hx (by simp)]; rfl
 have bY1:bk Y (x+1)=some ⟨24,false,[u2,.int .i64 r2,.int .i64 c2]⟩:=by rw[←hX,bk_at hx (by simp)]; rfl
 clear hX
 have okY:=mY.ok hok
 obtain⟨y,hy⟩:∃ y,Y.next=y:=⟨_,rfl⟩
 have hyb:Y.base≤y:=hy▸okY
 have l0:x+0<y:=by omega
 have l1:x+1<y:=by omega
 have g1Y:=h1.at_.mod0 mY
 have g2Y:=h2.at_.mod0 mY
 have tY:Tab Y:=t.of (mY.get 0 (by omega) (by simp)) (mY.get 1 (by omega) (by simp))
 rw[show Y=ext Y [] from rfl]
 refine (dk (ext Y []) tY (by show 1<Y.next; omega)).to ?_
 simp (maxDischargeDepth:=6) only[hy,l0,bY0,xD,ruW,putL,Nat.reduceLeDiff,xF,ruU,entryE,Nat.reduceLT,Nat.reduceAdd,Nat.reduceMul,Nat.reduceEqDiff]
 refine (large_c (ext Y []) u1 g r c g1Y).to ?_
 cases hlg:largeR g with
 |true =>
  simp (maxDischargeDepth:=6) only[hy,l1,bY1,joinR_ret,Tryd.results8,xD,ruW,putL,Nat.reduceLeDiff,xF,ruU,entryE,Nat.reduceLT,Nat.reduceAdd,Nat.reduceMul,Nat.reduceEqDiff]
  exact⟨rfl,mY⟩
 |false =>
 simp (maxDischargeDepth:=6) only[hy,l1,bY1,xD,ruW,putL,Nat.reduceLeDiff,xF,ruU,entryE,Nat.reduceLT,Nat.reduceAdd,Nat.reduceMul,Nat.reduceEqDiff]
 refine (large_c (ext Y []) u2 h r2 c2 g2Y).to ?_
 cases hlh:largeR h with
 |true =>
  simp (maxDischargeDepth:=6) only[joinR_ret,Tryd.results8,xD,ruW,putL,Nat.reduceLeDiff,xF,ruU,entryE,Nat.reduceLT,Nat.reduceAdd,Nat.reduceMul,Nat.reduceEqDiff]
  exact⟨rfl,mY⟩
 |false =>
 obtain⟨hg12,hgw⟩:=largeR_false hlg
 obtain⟨hh12,hhw⟩:=largeR_false hlh
 simp (maxDischargeDepth:=6) only[hy,l0,l1,bY0,bY1,xD,ruW,putL,Nat.reduceLeDiff,xF,ruU,entryE,Nat.reduceLT,Nat.reduceAdd,Nat.reduceMul,Nat.reduceEqDiff]
 refine (ops13_c (ext Y []) u1 u2 g h r c r2 c2 (h1.mod0 mY) (h2.mod0 mY) okY hg12 hgw hh12 hhw (by show scb Y.next u1=true; rw[hy]; exact scb_mono (by omega) _ hs1) (by show scb Y.next u2=true; rw[hy]; exact scb_mono (by omega) _ hs2)).mono ?_
 rintro _ S ⟨mS,p1,rfl,op1,hp1⟩
 replace mS:Mod [] Y S:=mS
 obtain⟨⟨l,e⟩,hle⟩:∃ k,opsV g h r c r2 c2=k:=⟨_,rfl⟩
 rw[hle]at op1 ⊢
 simp only at op1 ⊢
 have okS:=mS.ok okY
 have mHS:=mY.trans mS
 have bS0:=(mS.bk (n:=x+0) (by omega) (by simp)).trans bY0
 have bS1:=(mS.bk (n:=x+1) (by omega) (by simp)).trans bY1
 obtain⟨s,hs⟩:∃ n,S.next=n:=⟨_,rfl⟩
 have hsn:=mS.next
 have ls0:x+0<s:=by omega
 have ls1:x+1<s:=by omega
 obtain⟨ap,ep⟩:=op1.len
 obtain⟨d,hd⟩:∃ d,decide (¬e=0)=d:=⟨_,rfl⟩
 rw[show S=ext S [] from rfl]
 cases d with
 |true =>
  simp (maxDischargeDepth:=6) only[hd,joinR_ret,Tryd.results8,xD,ruW,putL,Nat.reduceLeDiff,xF,ruU,entryE,Nat.reduceLT,Nat.reduceAdd,Nat.reduceMul,Nat.reduceEqDiff]
  exact⟨rfl,mHS⟩
 |false =>
 have he0:e=0:=by simpa using of_decide_eq_false hd
 rw[he0]at hle
 obtain⟨hc1,hc2,hgh,hwh,hlr⟩:=opsV_ok hle
 have htx:=opsR_tx (g:=g) (r:=r) (c:=c) (r2:=r2) (c2:=c2) hgh (fun l hl=>by have:=hhw l hl; omega)
 have hll:=opsV_len (g:=g) (r:=r) (c:=c) (r2:=r2) (c2:=c2) hh12 hhw
 rw[hle]at hll
 simp only at hll
 have tS:Tab S:=tY.of (mS.get 0 (by omega) (by simp)) (mS.get 1 (by omega) (by simp))
 simp (maxDischargeDepth:=6) only[hd,hs,bS0,bS1,ls0,ls1,xD,ruW,putL,Nat.reduceLeDiff,xF,ruU,entryE,Nat.reduceLT,Nat.reduceAdd,Nat.reduceMul,Nat.reduceEqDiff]
 refine (ops13_c (ext S []) u2 u2 h h r2 c2 r2 c2 (h2.mod0 mHS) (h2.mod0 mHS) okS hh12 hhw hh12 hhw (by show scb S.next u2=true; rw[hs]; exact scb_mono (by omega) _ hs2) (by show scb S.next u2=true; rw[hs]; exact scb_mono (by omega) _ hs2)).mono ?_
 rintro _ R ⟨mR,p8,rfl,op8,hp8⟩
 replace mR:Mod [] S R:=mR
 rw[opsV_self hc2]at op8 ⊢
 simp only at op8 ⊢
 have okR:=mR.ok okS
 have mHR:=mHS.trans mR
 have hrn:=mR.next
 have tR:Tab R:=tS.of (mR.get 0 (by omega) (by simp)) (mR.get 1 (by omega) (by simp))
 have bR0:=(mR.bk (n:=x+0) (by omega) (by simp)).trans bS0
 have bR1:=(mR.bk (n:=x+1) (by omega) (by simp)).trans bS1
 obtain⟨w,hw⟩:∃ n,R.next=n:=⟨_,rfl⟩
 have hwb:R.base≤w:=hw▸okR
 have lw0:x+0<w:=by omega
 have lw1:x+1<w:=by omega
 obtain⟨a8,e8⟩:=op8.len
 have hcl:1≤(curR r2 c2).length∧(curR r2 c2).length≤2:=by unfold curR; split<;>simp
 have hcost8:=costB_c (ext R []) tR (by show 1<R.next; omega) p8 (curR r2 c2) op8.at_ (by omega) (by
  unfold curR
  split
  ·exact TxS.cons (zB0 _) TxS.nil
  ·exact TxS.cons (zB0 _) (TxS.cons (zB0 _) TxS.nil))
 rw[cur_cost]at hcost8
 have k1:decide (¬(0:Int)=0)=false:=by decide
 have k2:decide ((2:Int)<((curR r2 c2).length:Int))=false:=decide_eq_false (by omega)
 have k3:decide (((curR r2 c2).length:Int)<1)=false:=decide_eq_false (by omega)
 have hs1e:scb w (.slice a1 g.length b1)=true:=by rw[←e1]; exact scb_mono (by omega) _ hs1
 have bR0e:=bR0
 rw[e1]at bR0e
 rw[show R=ext R [] from rfl]
 have op1R:=op1.mod0 mR
 obtain⟨NR,hNR⟩:∃ NR,nowR g h r c=NR:=⟨_,rfl⟩
 obtain⟨so,hso⟩:∃ so,shiftR g h=so:=⟨_,rfl⟩
 obtain⟨L,hL⟩:∃ L,rowsR 0 NR h lk0++curR r2 c2=L:=⟨_,rfl⟩
 have hlL:l=so.toList++L:=by rw[hlr,opsR,hso,hNR,←hL,List.append_assoc]
 have hLne:L≠[]:=fun e=>by
  have:=congrArg List.length (hL.trans e)
  rw[zB6,zC3]at this
  omega
 have hlne:l≠[]:=fun e=>hLne (List.append_eq_nil_iff.1 (hlL.symm.trans e)).2
 obtain⟨o0,l0',hl0⟩:=List.exists_cons_of_ne_nil hlne
 have hse:=op1R.slE hlne
 obtain⟨n1,of1,sp1,cc1,t1,q1,L1,evp,hex,k1m,n1l,le1,tk1⟩:=id hse
 subst evp
 have hgo:l[0]?=some o0:=by rw[hl0]; rfl
 have hlen0:0<l.length:=List.length_pos_iff.2 hlne
 have i1:=op_ia (n:=n1) (off:=of1) (s:=sp1) (cap:=l.length+cc1) (i:=0) (k:=0) rfl hlen0
 have q0:=op_cell (t:=3) (e:=t1) (o:=q1) (j:=0) (by kernel_rfl) hgo rfl tk1
 simp only[zE1,zC7]at i1 q0
 rw[hw]at n1l
 have k4:decide ((0:Int)<(l.length:Int))=true:=decide_eq_true (by omega)
 obtain⟨d5,h5⟩:∃ d,decide (o0.kind=5)=d:=⟨_,rfl⟩
 obtain⟨d6,h6⟩:∃ d,decide (o0.kind=6)=d:=⟨_,rfl⟩
 rw[e8]at hcost8 ⊢
 simp (maxDischargeDepth:=6) only[k1,k2,k3,decide_true,not_true,decide_false,xD,ruW,putL,Nat.reduceLeDiff,xF,ruU,entryE,Nat.reduceLT,Nat.reduceAdd,Nat.reduceMul,Nat.reduceEqDiff]
 refine hcost8.to ?_
 have n1l':n1<w+1:=by omega
 have hnl:=nowR_len (h:=h) hgh hc1
 have g1R:=h1.at_.mod0 mHR
 obtain⟨ok1,hne1,hg0⟩:=chk_ok hc1
 obtain⟨ok2,hne2,hh0⟩:=chk_ok hc2
 cases so with
 |none =>
  have hnow:NR=g:=by rw[←hNR]; unfold nowR; rw[hso]
  have hlL':l=L:=hlL
  have hk:¬o0.kind=5∧¬o0.kind=6:=by
   obtain⟨rf,hrf⟩:=steps_all (g:=NR) (h:=h) (p:=lk0) (r2:=r2) (c2:=c2) (by rw[hNR]at hnl; omega) (List.length_pos_iff.2 hh0) (by
    rcases (chk_all hc2).2 with hp|hp
    ·exact .inl ⟨hp.1,hp.2.1⟩
    ·exact .inr (by omega))
   rw[hL,←hlL',hl0,stepsR]at hrf
   cases hs:stepR NR h 0 o0 with
   |none=>rw[hs]at hrf; cases hrf
   |some q =>
    refine⟨fun h5=>?_,fun h6=>?_⟩
    ·rw[stepR,if_pos (.inl h5)]at hs; cases hs
    ·rw[stepR,if_pos (.inr (.inl h6))]at hs; cases hs
  have h5':decide (o0.kind=5)=false:=decide_eq_false hk.1
  have h6':decide (o0.kind=6)=false:=decide_eq_false hk.2
  have bR1e:=bR1
  rw[e2]at bR1e
  have lwb:w+0<w+1:=by omega
  have lw1':x+1<w+1:=by omega
  have k5:decide (¬(g.length:Int)=(h.length:Int))=false:=decide_eq_false (by omega)
  simp (maxDischargeDepth:=6) only[hw,hwb,lw0,lw1,lwb,lw1',bR0e,bR1e,hs1e,k1,k4,k5,i1,q0,k1m,n1l,n1l',qk_old,h5',h6',decide_true,not_true,decide_false,xD,ruW,putL,Nat.reduceLeDiff,xF,ruU,entryE,Nat.reduceLT,Nat.reduceAdd,Nat.reduceMul,Nat.reduceEqDiff]
  all_goals
   generalize hU:ext R _=U
   have mU:Mod [] R U:=hU▸Mod.ext okR
   have hUn:U.next=w+1:=by rw[←hU,ext_next,hw]; rfl
   have bUb:bk U (w+0)=some ⟨24,false,[u1,.int .i64 r,.int .i64 c]⟩:=by rw[←hU,bk_at hw (by simp),e1]; rfl
   clear hU
   have mHU:=mHR.trans mU
   have bU1:=(mU.bk (n:=x+1) (by omega) (by simp)).trans bR1
   have gridU:GridR U u1 NR:=by rw[hnow]; exact (h1.mod0 mHU).r hg0
   have opsU:OpsAt U (.slice (some ⟨n1,of1,sp1⟩) l.length (l.length+cc1)) L:=hlL'▸(op1R.mod0 mU).at_
   obtain⟨pv,hpv⟩:∃ v,v=Value.slice (some ⟨n1,of1,sp1⟩) l.length (l.length+cc1):=⟨_,rfl⟩
   rw[←hpv]at opsU
   refine w_env fun E hE=>?_
   have g3:E 3=.pointer (some ⟨x+1,0,none⟩):=by rw[hE]; simp only[ruU,entryE,Nat.reduceLT,Nat.reduceAdd,Nat.reduceMul,Nat.reduceEqDiff]
   have g5:E 5=.bool true:=by rw[hE]; simp only[ruU,entryE,Nat.reduceLT,Nat.reduceAdd,Nat.reduceMul,Nat.reduceEqDiff]
   have g6:E 6=pv:=by rw[hE,hpv]; simp only[ruU,entryE,Nat.reduceLT,Nat.reduceAdd,Nat.reduceMul,Nat.reduceEqDiff]
   have g10:E 10=.pointer (some ⟨w+0,0,none⟩):=by rw[hE]; simp only[ruU,entryE,Nat.reduceLT,Nat.reduceAdd,Nat.reduceMul,Nat.reduceEqDiff]
   have g14:E 14=.int .i64 ((0:Nat):Int):=by rw[hE]; (simp only[ruU,entryE,Nat.reduceLT,Nat.reduceAdd,Nat.reduceMul,Nat.reduceEqDiff]<;>rfl)
   have g15:E 15=.int .i64 ((0:Nat):Int):=by rw[hE]; (simp only[ruU,entryE,Nat.reduceLT,Nat.reduceAdd,Nat.reduceMul,Nat.reduceEqDiff]<;>rfl)
   clear hE
   obtain⟨u,hu⟩:∃ n,U.next=n:=⟨_,rfl⟩
   have lu1:x+1<u:=by omega
   have lub:w+0<u:=by omega
   obtain⟨D,hD⟩:∃ D,difs NR h=D:=⟨_,rfl⟩
   rw[hNR]at hnl
   have g2U:=(h2.r hh0).mod0 mHU
   obtain⟨m1,of1',sp1',cp1,ty1,qo1,M1,evu,km1,m1l,lem1,tkm1⟩:=id gridU
   obtain⟨m2,of2',sp2',cp2,ty2,qo2,M2,evh,km2,m2l,lem2,tkm2⟩:=id g2U
   rw[hu]at m1l m2l
   have bUbe:=bUb
   rw[evu]at bUbe
   have bU1e:=bU1
   rw[evh]at bU1e
   refine blockC_meet (fun E' Y=>Y=ext U []∧E' 3=.pointer (some ⟨x+1,0,none⟩)∧E' 5=.bool true∧E' 6=pv∧E' 10=.pointer (some ⟨w+0,0,none⟩)∧E' 14=.int .i64 (D:Int)) ?_ ?_
   ·refine w_loop (fun (q:Nat × Nat) E' Y=>Y=ext U []∧E' 3=.pointer (some ⟨x+1,0,none⟩)∧E' 5=.bool true∧E' 6=pv∧E' 10=.pointer (some ⟨w+0,0,none⟩)∧E' 14=.int .i64 (q.2:Int)∧E' 15=.int .i64 (q.1:Int)∧q.1≤h.length∧q.2+difs (NR.drop q.1) (h.drop q.1)=D∧q.2≤60*q.1) (fun q=>h.length-q.1) (0,0)
     ⟨rfl,g3,g5,g6,g10,g14,g15,zB0 _,by simpa using hD,zB0 _⟩ ?_
    clear g3 g5 g6 g10 g14 g15 E
    rintro⟨i,n⟩ E Y ⟨hY,g3,g5,g6,g10,g14,g15,hi,hn,hn60⟩
    simp only at g14 g15 hi hn hn60
    rw[hY]
    by_cases hil:i<h.length
    case neg =>
     have hc0:decide ((i:Int)<(h.length:Int))=false:=decide_eq_false (by omega)
     rw[difs_end (by omega),zC7]at hn
     simp (maxDischargeDepth:=6) only[g3,g5,g6,g10,g14,g15,hu,lu1,bU1e,hc0,xD,ruW,putL,Nat.reduceLeDiff,xF,ruU,entryE,Nat.reduceLT,Nat.reduceAdd,Nat.reduceMul,Nat.reduceEqDiff]
     exact joinR_normal ⟨rfl,by simp only[g3,ruU,entryE,Nat.reduceLT,Nat.reduceAdd,Nat.reduceMul,Nat.reduceEqDiff],by simp only[g5,ruU,entryE,Nat.reduceLT,Nat.reduceAdd,Nat.reduceMul,Nat.reduceEqDiff],by simp only[g6,ruU,entryE,Nat.reduceLT,Nat.reduceAdd,Nat.reduceMul,Nat.reduceEqDiff],by simp only[g10,ruU,entryE,Nat.reduceLT,Nat.reduceAdd,Nat.reduceMul,Nat.reduceEqDiff],by simp only[g14,ruU,entryE,Nat.reduceLT,Nat.reduceAdd,Nat.reduceMul,Nat.reduceEqDiff]; rw[hn]⟩
    have hc0:decide ((i:Int)<(h.length:Int))=true:=decide_eq_true (by omega)
    obtain⟨b,hb⟩:∃ b,h[i]?=some b:=⟨_,zA6 hil⟩
    obtain⟨a,ha⟩:∃ a,NR[i]?=some a:=⟨_,zA6 (by omega)⟩
    have hal:=hnl.2 a (zB9 ha)
    have hbl:=ok2.wid b (zB9 hb)
    have hb60:=hhw b (zB9 hb)
    obtain⟨rva,hrva,rsa⟩:=tkm1 i a ha
    obtain⟨rvb,hrvb,rsb⟩:=tkm2 i b hb
    have j1:=grid_ia (len:=NR.length) (n:=m1) (off:=of1') (s:=sp1') (cap:=cp1) (i:=(i:Int)) rfl (by omega)
    have j2:=grid_ia (len:=h.length) (n:=m2) (off:=of2') (s:=sp2') (cap:=cp2) (i:=(i:Int)) rfl hil
    have f1:=grid_load (e:=ty1) (o:=qo1) hrva
    have f2:=grid_load (e:=ty2) (o:=qo2) hrvb
    rw[difs_step ha hb]at hn
    have hdn:=dif_n a b b.length 0
    obtain⟨dd,hdd2⟩:∃ d,dif a b 0 b.length=d:=⟨_,rfl⟩
    rw[hdd2]at hn hdn
    have wdd:IntKind.i64.wrap ((n:Int)+(dd:Int))=((n+dd:Nat):Int):=(wrap_sm (by omega) (by omega)).trans (by omega)
    simp (maxDischargeDepth:=6) only[g3,g5,g6,g10,g14,g15,hu,lu1,bU1e,hc0,xD,ruW,putL,Nat.reduceLeDiff,xF,ruU,entryE,Nat.reduceLT,Nat.reduceAdd,Nat.reduceMul,Nat.reduceEqDiff]
    refine w_drawB [] [] (by kernel_rfl) rfl rfl fun ops anc hA hG=>?_
    simp (maxDischargeDepth:=6) only[g3,g5,g6,g10,g14,g15,hu,lu1,lub,bU1e,bUbe,j1,j2,km1,km2,m1l,m2l,f1,f2,qk_old,xD,ruD,ruW,putL,Nat.reduceLeDiff,xF,ruU,entryE,Nat.reduceLT,Nat.reduceAdd,Nat.reduceMul,Nat.reduceEqDiff]
    refine genV_quiet (v:=.int .i64 (dd:Int)) (rowF a rva++rowF b rvb) (by simp only[ruU,entryE,Nat.reduceLT,Nat.reduceAdd,Nat.reduceMul,Nat.reduceEqDiff]) (by kernel_rfl) (by decide) (fun m hm=>?_) (fun G hn hg=>?_) (by simp[Meets]) ?_
    ·rcases zB4.1 hm with hm|hm
     ·exact rsa.at_.f m hm
     ·exact rsb.at_.f m hm
    ·simp only[ruU,entryE,Nat.reduceLT,Nat.reduceAdd,Nat.reduceMul,Nat.reduceEqDiff]
     have:=unlike_c G rva rvb a b (rsa.at_.ofF (zD2 hn.symm) fun m hm=>hg m (zD4 _ hm)) (rsb.at_.ofF (zD2 hn.symm) fun m hm=>hg m (zD5 _ hm)) (by omega) (by omega)
     rw[show a.length=b.length by omega,hdd2]at this
     exact this
    simp (maxDischargeDepth:=6) only[g3,g5,g6,g10,g14,g15,wdd,wrap_succ (show i<1000000 by omega),xD,ruD,ruW,putL,Nat.reduceLeDiff,xF,ruU,entryE,Nat.reduceLT,Nat.reduceAdd,Nat.reduceMul,Nat.reduceEqDiff]
    exact loopC_next ⟨(i+1,n+dd),by simp only; omega,rfl,by simp only[g3,ruU,entryE,Nat.reduceLT,Nat.reduceAdd,Nat.reduceMul,Nat.reduceEqDiff],by simp only[g5,ruU,entryE,Nat.reduceLT,Nat.reduceAdd,Nat.reduceMul,Nat.reduceEqDiff],by simp only[g6,ruU,entryE,Nat.reduceLT,Nat.reduceAdd,Nat.reduceMul,Nat.reduceEqDiff],by simp only[g10,ruU,entryE,Nat.reduceLT,Nat.reduceAdd,Nat.reduceMul,Nat.reduceEqDiff],by simp only[ruU,entryE,Nat.reduceLT,Nat.reduceAdd,Nat.reduceMul,Nat.reduceEqDiff],by simp only[ruU,entryE,Nat.reduceLT,Nat.reduceAdd,Nat.reduceMul,Nat.reduceEqDiff],by simp only; omega,by simp only; omega,by simp only; omega⟩
   clear g3 g5 g6 g10 g14 g15 E
   rintro E Y ⟨hY,g3,g5,g6,g10,g14⟩
   rw[hY]
   rcases id opsU with⟨hh,_⟩|⟨_,on,oof,osp,ocap,oe,oo,OM,evo,okm,onl,ole,otk⟩
   ·exact absurd hh hLne
   rw[hu]at onl
   have hLl:L.length≤3000:=by have:=congrArg List.length hlL; rw[zB6]at this; omega
   obtain⟨rf,hrf⟩:=steps_all (g:=NR) (h:=h) (p:=lk0) (r2:=r2) (c2:=c2) (by omega) (List.length_pos_iff.2 hh0) (by
    rcases (chk_all hc2).2 with hp|hp
    ·exact .inl ⟨hp.1,hp.2.1⟩
    ·exact .inr (by omega))
   rw[hL]at hrf
   simp (maxDischargeDepth:=6) only[g3,g5,g6,g10,g14,xD,ruW,putL,Nat.reduceLeDiff,xF,ruU,entryE,Nat.reduceLT,Nat.reduceAdd,Nat.reduceMul,Nat.reduceEqDiff]
   refine w_env fun E' hE=>?_
   have r3:E' 3=.pointer (some ⟨x+1,0,none⟩):=by rw[hE]; simp only[g3,ruU,entryE,Nat.reduceLT,Nat.reduceAdd,Nat.reduceMul,Nat.reduceEqDiff]
   have r5:E' 5=.bool true:=by rw[hE]; simp only[g5,ruU,entryE,Nat.reduceLT,Nat.reduceAdd,Nat.reduceMul,Nat.reduceEqDiff]
   have r6:E' 6=pv:=by rw[hE]; simp only[g6,ruU,entryE,Nat.reduceLT,Nat.reduceAdd,Nat.reduceMul,Nat.reduceEqDiff]
   have r10:E' 10=.pointer (some ⟨w+0,0,none⟩):=by rw[hE]; simp only[g10,ruU,entryE,Nat.reduceLT,Nat.reduceAdd,Nat.reduceMul,Nat.reduceEqDiff]
   have r14:E' 14=.int .i64 (D:Int):=by rw[hE]; simp only[g14,ruU,entryE,Nat.reduceLT,Nat.reduceAdd,Nat.reduceMul,Nat.reduceEqDiff]
   have r16:E' 16=.int .i64 0:=by rw[hE]; (simp only[ruU,entryE,Nat.reduceLT,Nat.reduceAdd,Nat.reduceMul,Nat.reduceEqDiff]<;>rfl)
   have r17:E' 17=.int .i64 ((0:Nat):Int):=by rw[hE]; (simp only[ruU,entryE,Nat.reduceLT,Nat.reduceAdd,Nat.reduceMul,Nat.reduceEqDiff]<;>rfl)
   clear hE g3 g5 g6 g10 g14 E
   refine blockC_meet (fun E' Y=>Y=ext U []∧E' 5=.bool true∧E' 6=pv∧E' 14=.int .i64 (D:Int)) ?_ ?_
   ·refine w_loop (fun (q:Nat × Int) E' Y=>Y=ext U []∧E' 3=.pointer (some ⟨x+1,0,none⟩)∧E' 5=.bool true∧E' 6=pv∧E' 10=.pointer (some ⟨w+0,0,none⟩)∧E' 14=.int .i64 (D:Int)∧E' 16=.int .i64 q.2∧E' 17=.int .i64 (q.1:Int)∧q.1≤L.length∧∃ r',stepsR NR h (L.drop q.1) q.2=some r') (fun q=>L.length-q.1) (0,0)
     ⟨rfl,r3,r5,r6,r10,r14,r16,r17,zB0 _,rf,hrf⟩ ?_
    clear r3 r5 r6 r10 r14 r16 r17 E'
    rintro⟨j,row⟩ E Y ⟨hY,g3,g5,g6,g10,g14,g16,g17,hj,r',hst⟩
    simp only at g16 g17 hj hst
    rw[hY]
    have g6e:=g6
    rw[evo]at g6e
    by_cases hjl:j<L.length
    case neg =>
     have hc0:decide ((j:Int)<(L.length:Int))=false:=decide_eq_false (by omega)
     simp (maxDischargeDepth:=6) only[g3,g5,g6e,g10,g14,g16,g17,hc0,xD,ruW,putL,Nat.reduceLeDiff,xF,ruU,entryE,Nat.reduceLT,Nat.reduceAdd,Nat.reduceMul,Nat.reduceEqDiff]
     exact joinR_normal ⟨rfl,by simp only[g5,ruU,entryE,Nat.reduceLT,Nat.reduceAdd,Nat.reduceMul,Nat.reduceEqDiff],by simp only[g6,ruU,entryE,Nat.reduceLT,Nat.reduceAdd,Nat.reduceMul,Nat.reduceEqDiff],by simp only[g14,ruU,entryE,Nat.reduceLT,Nat.reduceAdd,Nat.reduceMul,Nat.reduceEqDiff]⟩
    have hc0:decide ((j:Int)<(L.length:Int))=true:=decide_eq_true (by omega)
    obtain⟨ob,hob⟩:∃ o,L[j]?=some o:=⟨_,zA6 hjl⟩
    have hdr:L.drop j=ob::L.drop (j+1):=by
     rw[zF0 hjl]
     rw[zA6 hjl]at hob
     rw[Option.some.inj hob]
    rw[hdr,stepsR]at hst
    obtain⟨rr,hrr⟩:∃ rr,stepR NR h row ob=some rr:=by
     cases hs:stepR NR h row ob with
     |none=>rw[hs]at hst; cases hst
     |some rr=>exact⟨rr,rfl⟩
    rw[hrr,zA3]at hst
    obtain⟨rv,hrv⟩:∃ rv,(if ob.kind=1 then ob.row else row)=rv:=⟨_,rfl⟩
    have hcond:¬ob.kind=5∧¬ob.kind=6∧0≤rv∧rv<(h.length:Int)∧¬((ob.kind=3∨ob.kind=4)∧NR[rv.toNat]?=h[rv.toNat]?)∧rv=rr:=by
     unfold stepR at hrr
     rw[hrv]at hrr
     split at hrr
     ·cases hrr
     ·rename_i hn
      simp only[not_or]at hn
      exact⟨hn.1,hn.2.1,by omega,by omega,hn.2.2.2.2,Option.some.inj hrr⟩
    obtain⟨n5,n6,rv0,rv1,hwr,rfl⟩:=hcond
    have ia:=op_ia (len:=L.length) (n:=on) (off:=oof) (s:=osp) (cap:=ocap) (i:=(j:Int)) rfl hjl
    have v0:=op_cell (t:=3) (e:=oe) (o:=oo) (j:=0) (by kernel_rfl) hob rfl otk
    have v1:=op_cell (t:=3) (e:=oe) (o:=oo) (j:=1) (by kernel_rfl) hob rfl otk
    rw[zC7]at v0
    obtain⟨d1,hd1⟩:∃ d,decide (ob.kind=1)=d:=⟨_,rfl⟩
    simp (maxDischargeDepth:=6) only[g3,g5,g6e,g10,g14,g16,g17,hu,hc0,ia,okm,onl,v0,qk_old,hd1,xD,ruW,putL,Nat.reduceLeDiff,xF,ruU,entryE,Nat.reduceLT,Nat.reduceAdd,Nat.reduceMul,Nat.reduceEqDiff]
    refine condC_meet (fun E' Y=>Y=ext U []∧E' 3=.pointer (some ⟨x+1,0,none⟩)∧E' 5=.bool true∧E' 6=pv∧E' 10=.pointer (some ⟨w+0,0,none⟩)∧E' 14=.int .i64 (D:Int)∧E' 16=.int .i64 rv∧E' 17=.int .i64 (j:Int)) ?_ ?_
    ·cases d1 with
     |true =>
      rw[if_pos (of_decide_eq_true hd1)]at hrv
      have v1':=v1
      rw[Nat.add_assoc]at v1'
      simp (maxDischargeDepth:=6) only[g3,g5,g6e,g10,g14,g16,g17,hu,ia,okm,onl,v0,v1,v1',qk_old,xD,ruW,putL,Nat.reduceLeDiff,xF,ruU,entryE,Nat.reduceLT,Nat.reduceAdd,Nat.reduceMul,Nat.reduceEqDiff]
      exact joinR_normal ⟨rfl,by simp only[g3,ruU,entryE,Nat.reduceLT,Nat.reduceAdd,Nat.reduceMul,Nat.reduceEqDiff],by simp only[g5,ruU,entryE,Nat.reduceLT,Nat.reduceAdd,Nat.reduceMul,Nat.reduceEqDiff],by simp only[g6,ruU,entryE,Nat.reduceLT,Nat.reduceAdd,Nat.reduceMul,Nat.reduceEqDiff],by simp only[g10,ruU,entryE,Nat.reduceLT,Nat.reduceAdd,Nat.reduceMul,Nat.reduceEqDiff],by simp only[g14,ruU,entryE,Nat.reduceLT,Nat.reduceAdd,Nat.reduceMul,Nat.reduceEqDiff],by simp only[ruU,entryE,Nat.reduceLT,Nat.reduceAdd,Nat.reduceMul,Nat.reduceEqDiff]; rw[hrv],by simp only[g17,ruU,entryE,Nat.reduceLT,Nat.reduceAdd,Nat.reduceMul,Nat.reduceEqDiff]⟩
     |false =>
      rw[if_neg (of_decide_eq_false hd1)]at hrv
      simp (maxDischargeDepth:=6) only[xD,ruW,putL,Nat.reduceLeDiff,xF,ruU,entryE,Nat.reduceLT,Nat.reduceAdd,Nat.reduceMul,Nat.reduceEqDiff]
      exact joinR_normal ⟨rfl,by simp only[g3,ruU,entryE,Nat.reduceLT,Nat.reduceAdd,Nat.reduceMul,Nat.reduceEqDiff],by simp only[g5,ruU,entryE,Nat.reduceLT,Nat.reduceAdd,Nat.reduceMul,Nat.reduceEqDiff],by simp only[g6,ruU,entryE,Nat.reduceLT,Nat.reduceAdd,Nat.reduceMul,Nat.reduceEqDiff],by simp only[g10,ruU,entryE,Nat.reduceLT,Nat.reduceAdd,Nat.reduceMul,Nat.reduceEqDiff],by simp only[g14,ruU,entryE,Nat.reduceLT,Nat.reduceAdd,Nat.reduceMul,Nat.reduceEqDiff],by simp only[g16,ruU,entryE,Nat.reduceLT,Nat.reduceAdd,Nat.reduceMul,Nat.reduceEqDiff]; rw[hrv],by simp only[g17,ruU,entryE,Nat.reduceLT,Nat.reduceAdd,Nat.reduceMul,Nat.reduceEqDiff]⟩
    clear g3 g5 g6 g6e g10 g14 g16 g17 E
    rintro E Y ⟨hY,g3,g5,g6,g10,g14,g16,g17⟩
    rw[hY]
    have g6e:=g6
    rw[evo]at g6e
    obtain⟨ri,rfl⟩:∃ n:Nat,rv=n:=⟨rv.toNat,by omega⟩
    rw[Int.toNat_natCast]at hwr
    have hril:ri<h.length:=by omega
    obtain⟨b,hb⟩:∃ b,h[ri]?=some b:=⟨_,zA6 hril⟩
    obtain⟨a,ha⟩:∃ a,NR[ri]?=some a:=⟨_,zA6 (by omega)⟩
    have hal:=hnl.2 a (zB9 ha)
    have hbl:=ok2.wid b (zB9 hb)
    have hb60:=hhw b (zB9 hb)
    rw[ha,hb]at hwr
    obtain⟨rva,hrva,rsa⟩:=tkm1 ri a ha
    obtain⟨rvb,hrvb,rsb⟩:=tkm2 ri b hb
    have j1:=grid_ia (len:=NR.length) (n:=m1) (off:=of1') (s:=sp1') (cap:=cp1) (i:=(ri:Int)) rfl (by omega)
    have j2:=grid_ia (len:=h.length) (n:=m2) (off:=of2') (s:=sp2') (cap:=cp2) (i:=(ri:Int)) rfl hril
    have f1:=grid_load (e:=ty1) (o:=qo1) hrva
    have f2:=grid_load (e:=ty2) (o:=qo2) hrvb
    have z5:decide (ob.kind=5)=false:=decide_eq_false n5
    have z6:decide (ob.kind=6)=false:=decide_eq_false n6
    have zr0:decide ((ri:Int)<0)=false:=decide_eq_false (by omega)
    have zr1:decide ((h.length:Int)≤(ri:Int))=false:=decide_eq_false (by omega)
    obtain⟨d3,hd3⟩:∃ d,decide (ob.kind=3)=d:=⟨_,rfl⟩
    obtain⟨d4,hd4⟩:∃ d,decide (ob.kind=4)=d:=⟨_,rfl⟩
    cases hwd:(d3||d4) with
    |true =>
     have hab:¬a=b:=fun e=>hwr ⟨by
      rcases Bool.or_eq_true_iff.1 hwd with h|h
      ·left; rw[h]at hd3; exact of_decide_eq_true hd3
      ·right; rw[h]at hd4; exact of_decide_eq_true hd4,by rw[e]⟩
     have hdd3:d3=true∨(d3=false∧d4=true):=by cases d3<;>cases d4<;>simp_all
     rcases hdd3 with rfl|⟨rfl,rfl⟩
     all_goals
      simp (maxDischargeDepth:=6) only[g3,g5,g6e,g10,g14,g16,g17,hu,ia,okm,onl,v0,qk_old,hd3,hd4,xD,ruW,putL,Nat.reduceLeDiff,xF,ruU,entryE,Nat.reduceLT,Nat.reduceAdd,Nat.reduceMul,Nat.reduceEqDiff]
      refine w_drawB [] [(6,154),(14,162),(18,166),(25,173),(27,175)] (by kernel_rfl) rfl (by kernel_rfl) fun ops anc hA hG=>?_
      simp only[all2_cons]at hG
      simp (maxDischargeDepth:=6) only[g3,g5,g6e,g10,g14,g16,g17,hu,ia,okm,onl,v0,qk_old,z5,z6,zr0,zr1,bU1e,bUbe,lu1,lub,j1,j2,km1,km2,m1l,m2l,f1,f2,hG,xD,ruD,ruW,putL,Nat.reduceLeDiff,xF,ruU,entryE,Nat.reduceLT,Nat.reduceAdd,Nat.reduceMul,Nat.reduceEqDiff]
      refine genV_quiet (v:=.bool false) (rowF a rva++rowF b rvb) (by simp only[ruU,entryE,Nat.reduceLT,Nat.reduceAdd,Nat.reduceMul,Nat.reduceEqDiff]) (by kernel_rfl) (by decide) (fun m hm=>?_) (fun G hn hg=>?_) (by simp[Meets]) ?_
      ·rcases zB4.1 hm with hm|hm
       ·exact rsa.at_.f m hm
       ·exact rsb.at_.f m hm
      ·simp only[ruU,entryE,Nat.reduceLT,Nat.reduceAdd,Nat.reduceMul,Nat.reduceEqDiff]
       have:=sameCells_c G rva rvb a b (rsa.at_.ofF (zD2 hn.symm) fun m hm=>hg m (zD4 _ hm)) (rsb.at_.ofF (zD2 hn.symm) fun m hm=>hg m (zD5 _ hm)) (by omega)
       rw[decide_eq_false hab]at this
       exact this
      simp (maxDischargeDepth:=6) only[g3,g5,g6e,g10,g14,g16,g17,hG,wrap_succ (show j<1000000 by omega),xD,ruD,ruW,putL,Nat.reduceLeDiff,xF,ruU,entryE,Nat.reduceLT,Nat.reduceAdd,Nat.reduceMul,Nat.reduceEqDiff]
      exact loopC_next ⟨(j+1,(ri:Int)),by simp only; omega,rfl,by simp only[g3,ruU,entryE,Nat.reduceLT,Nat.reduceAdd,Nat.reduceMul,Nat.reduceEqDiff],by simp only[g5,ruU,entryE,Nat.reduceLT,Nat.reduceAdd,Nat.reduceMul,Nat.reduceEqDiff],by simp only[g6,ruU,entryE,Nat.reduceLT,Nat.reduceAdd,Nat.reduceMul,Nat.reduceEqDiff],by simp only[g10,ruU,entryE,Nat.reduceLT,Nat.reduceAdd,Nat.reduceMul,Nat.reduceEqDiff],by simp only[g14,ruU,entryE,Nat.reduceLT,Nat.reduceAdd,Nat.reduceMul,Nat.reduceEqDiff],by simp only[g16,ruU,entryE,Nat.reduceLT,Nat.reduceAdd,Nat.reduceMul,Nat.reduceEqDiff],by simp only[ruU,entryE,Nat.reduceLT,Nat.reduceAdd,Nat.reduceMul,Nat.reduceEqDiff],by simp only; omega,r',hst⟩
    |false =>
     have hdd3:d3=false∧d4=false:=by cases d3<;>cases d4<;>simp_all
     obtain⟨rfl,rfl⟩:=hdd3
     simp (maxDischargeDepth:=6) only[g3,g5,g6e,g10,g14,g16,g17,hu,ia,okm,onl,v0,qk_old,hd3,hd4,xD,ruW,putL,Nat.reduceLeDiff,xF,ruU,entryE,Nat.reduceLT,Nat.reduceAdd,Nat.reduceMul,Nat.reduceEqDiff]
     refine w_drawB [] [(6,154),(14,162),(18,166),(25,173),(27,175)] (by kernel_rfl) rfl (by kernel_rfl) fun ops anc hA hG=>?_
     simp only[all2_cons]at hG
     simp (maxDischargeDepth:=6) only[g3,g5,g6e,g10,g14,g16,g17,hu,ia,okm,onl,v0,qk_old,z5,z6,zr0,zr1,bU1e,bUbe,lu1,lub,hG,wrap_succ (show j<1000000 by omega),xD,ruD,ruW,putL,Nat.reduceLeDiff,xF,ruU,entryE,Nat.reduceLT,Nat.reduceAdd,Nat.reduceMul,Nat.reduceEqDiff]
     exact loopC_next ⟨(j+1,(ri:Int)),by simp only; omega,rfl,by simp only[g3,ruU,entryE,Nat.reduceLT,Nat.reduceAdd,Nat.reduceMul,Nat.reduceEqDiff],by simp only[g5,ruU,entryE,Nat.reduceLT,Nat.reduceAdd,Nat.reduceMul,Nat.reduceEqDiff],by simp only[g6,ruU,entryE,Nat.reduceLT,Nat.reduceAdd,Nat.reduceMul,Nat.reduceEqDiff],by simp only[g10,ruU,entryE,Nat.reduceLT,Nat.reduceAdd,Nat.reduceMul,Nat.reduceEqDiff],by simp only[g14,ruU,entryE,Nat.reduceLT,Nat.reduceAdd,Nat.reduceMul,Nat.reduceEqDiff],by simp only[g16,ruU,entryE,Nat.reduceLT,Nat.reduceAdd,Nat.reduceMul,Nat.reduceEqDiff],by simp only[ruU,entryE,Nat.reduceLT,Nat.reduceAdd,Nat.reduceMul,Nat.reduceEqDiff],by simp only; omega,r',hst⟩
   clear r3 r5 r6 r10 r14 r16 r17 E'
   rintro E Y ⟨hY,g5,g6,g14⟩
   rw[hY]
   have tU:Tab U:=t.of (mHU.get 0 (by omega) (by simp)) (mHU.get 1 (by omega) (by simp))
   have htL:TxS L:=fun q hq=>(hlr▸htx:TxS l) q (by rw[hlL]; exact zD5 _ hq)
   have hcostL:=costB_c (ext U []) tU (by show 1<U.next; omega) pv L opsU (by omega) htL
   have hrc:=rows_cost NR h 0 lk0 (fun l hl=>chk_isR hc2 l hl)
   have hcL:costR L≤8*(D:Int):=by
    rw[←hL,costR_app,cur_cost]
    rw[hD]at hrc
    omega
   have hDl:=difs_le NR h hhw
   rw[hD]at hDl
   have w8:IntKind.i64.wrap (8*(D:Int))=8*(D:Int):=wrap_sm (by omega) (by omega)
   have k8:decide (costR L≤8*(D:Int))=true:=decide_eq_true hcL
   simp (maxDischargeDepth:=6) only[g5,g6,g14,xD,ruW,putL,Nat.reduceLeDiff,xF,ruU,entryE,Nat.reduceLT,Nat.reduceAdd,Nat.reduceMul,Nat.reduceEqDiff]
   refine hcostL.to ?_
   simp (maxDischargeDepth:=6) only[g5,g6,g14,w8,k8,Tryd.results8,xD,ruW,putL,Nat.reduceLeDiff,xF,ruU,entryE,Nat.reduceLT,Nat.reduceAdd,Nat.reduceMul,Nat.reduceEqDiff]
   exact⟨rfl,mHU⟩
 |some o =>
  obtain⟨tt,bb,ii,kk,hroll,hk56,-⟩:=shift_some hso hgh
  have hnow:NR=(appV g r c [o]).1:=by rw[←hNR]; unfold nowR; rw[hso]
  have hlo:l=o::L:=by rw[hlL]; rfl
  have ho0:o0=o:=by rw[hlo]at hl0; exact (List.cons.inj hl0).1.symm
  have hok56:o.kind=5∨o.kind=6:=by rw[hroll]; exact hk56
  obtain⟨y0,hall0,hy0,-,-⟩:=shift_does hso hgh hc1
  have hav:appV g r c [o]=(NR,y0.atR,y0.atC (widG g),0,0):=by
   rw[hnow,hy0]
   unfold appV
   rw[if_pos hc1,hall0]
  obtain⟨d5,h5'⟩:∃ d,decide (o0.kind=5)=d:=⟨_,rfl⟩
  obtain⟨d6,h6'⟩:∃ d,decide (o0.kind=6)=d:=⟨_,rfl⟩
  have hdd:d5=true∨(d5=false∧d6=true):=by
   rcases hok56 with hk|hk
   ·left; rw[←h5']; exact decide_eq_true (by rw[ho0]; exact hk)
   ·right; rw[←h5',←h6']; exact⟨decide_eq_false (by rw[ho0]; omega),decide_eq_true (by rw[ho0]; exact hk)⟩
  rcases hdd with rfl|⟨rfl,rfl⟩
  all_goals simp (maxDischargeDepth:=6) only[hw,hwb,lw0,bR0e,hs1e,k1,k4,i1,q0,k1m,n1l,n1l',qk_old,h5',h6',decide_true,not_true,decide_false,xD,ruW,putL,Nat.reduceLeDiff,xF,ruU,entryE,Nat.reduceLT,Nat.reduceAdd,Nat.reduceMul,Nat.reduceEqDiff]
  all_goals
   generalize hV:ext R _=V
   have mV:Mod [] R V:=hV▸Mod.ext okR
   have nV:V.next=w+1:=by rw[←hV,ext_next,hw]; rfl
   have bVb:bk V (w+0)=some ⟨24,false,[u1,.int .i64 r,.int .i64 c]⟩:=by rw[←hV,bk_at hw (by simp),e1]; rfl
   clear hV
   have okV:=mV.ok okR
   have mHV:=mHR.trans mV
   have bV0:=(mV.bk (n:=x+0) (by omega) (by simp)).trans bR0
   have bV1:=(mV.bk (n:=x+1) (by omega) (by simp)).trans bR1
   have op1V:=op1R.mod0 mV
   obtain⟨us,sl1,rs1,⟨as1,cs1,es1⟩,hid1,hsc1⟩:=(op1V.slE hlne).slice o_und o_sz (by decide) (x:=none) (y:=some (.int .i64 1)) (lo:=0) (hi:=1) rfl (by simp[bound]) (by omega) (by omega)
   obtain⟨us2,sl2,rs2,⟨as2,cs2,es2⟩,hid2,hsc2⟩:=(op1V.slE hlne).slice o_und o_sz (by decide) (x:=some (.int .i64 1)) (y:=none) (lo:=1) (hi:=l.length) (by simp[bound]) rfl (by omega) (by omega)
   have rs1':OpsAt V us [o]:=by
    have:=rs1 (by omega)
    rw[hlo,ops_head.1]at this
    exact SlE.ops this (by simp)
   have hlL2:l.length=L.length+1:=by rw[hlo]; rfl
   have rs2':OpsAt V us2 L:=by
    have:=rs2 (by have:=List.length_pos_iff.2 hLne; omega)
    rw[hlL2,hlo,ops_head.2]at this
    exact SlE.ops this hLne
   obtain⟨F1,hF1,hFG⟩:=(h1.mod0 mHV).at_.foot hg0
   obtain⟨F,hF⟩:∃ F,F=F1++[n1]:=⟨_,rfl⟩
   have hFF:∀ n∈F,V.get n≠none∧n<V.next:=fun n hn=>by
    rw[hF]at hn
    rcases zB4.1 hn with hn|hn
    ·exact hF1 n hn
    ·exact op1V.ne n (by simpa[idsV]using hn)
   have hrn:=restrict_next V F
   have hrg:∀ n∈F,(V.restrict F).get n=V.get n:=fun n hn=>by rw[restrict_get,if_pos hn]
   obtain⟨gR,_⟩:=hFG (V.restrict F) (by rw[hrn.1]; exact zA5 _) (fun n hn=>hrg n (hF▸zD4 _ hn))
   have oR:OpsAt (V.restrict F) us [o]:=rs1'.of (by rw[hrn.1]; exact zA5 _) fun n hn=>hrg n (hF▸zD5 _ (by have:=hid1 n hn; simpa[idsV]using this))
   obtain⟨out,gg,hcs,hap⟩:=apply_s (V.restrict F) u1 us g r c [o] gR oR (by rw[hrn.1,hrn.2.1]; exact zA5 _) (by rw[hrn.1,nV]; exact scb_mono (by omega) _ hs1) (fun l hl=>by have:=hgw l hl; omega) (by omega) (fun q hq=>by rw[zA8]at hq; subst hq; exact hok56) (by simp)
   obtain⟨mg,ua,rva,Na,rfl,hNa,own⟩:=hap.val
   rw[hav]at hcs own
   simp only at hcs own
   rw[hrn.1,nV]at hNa
   have lV0:x+0<w+1:=by omega
   rw[show V=ext V [] from rfl]
   refine w_drawB [(4,3),(5,3),(6,3),(7,3),(9,0),(9,3),(9,8),(10,3),(11,3)] [] (by kernel_rfl) (by kernel_rfl) rfl fun ops anc hA hG=>?_
   simp only[all2_cons]at hA
   simp (maxDischargeDepth:=6) only[nV,bV0,lV0,hA,wd_slice,xD,ruD,ruW,putL,Nat.reduceLeDiff,xF,ruU,entryE,Nat.reduceLT,Nat.reduceAdd,Nat.reduceMul,Nat.reduceEqDiff]
   refine genV_sl (v:=us) [n1] rfl rfl rfl rfl (zA9 rfl) (fun n hn=>(op1V.ne n (by simpa[idsV]using hn)).1) (fun G hG=>by simp only[bnds_none,bnds_some,ruU,entryE,Nat.reduceLT,Nat.reduceAdd,Nat.reduceMul,Nat.reduceEqDiff]; exact sl1 G (fun n hn=>hG n (by simpa[idsV]using hn))) (by simp[Meets]) ?_
   simp (maxDischargeDepth:=6) only[nV,bV0,lV0,hA,wd_slice,xD,ruD,ruW,putL,Nat.reduceLeDiff,xF,ruU,entryE,Nat.reduceLT,Nat.reduceAdd,Nat.reduceMul,Nat.reduceEqDiff]
   refine genV_mod (H:=ext V []) (W:=[]) F okV (by simp only[ruU,entryE,Nat.reduceLT,Nat.reduceAdd,Nat.reduceMul,Nat.reduceEqDiff]) (by kernel_rfl) (fun n hn=>(hFF n hn).1) (fun n hn=>(hFF n hn).2) (fun _ h=>by simp at h) (v:=.tuple #[.agg #[ua,.int .i64 y0.atR,.int .i64 (y0.atC (widG g))],.int .i64 0,.int .i64 0]) (g:=gg) (by simp only[ruU,entryE,Nat.reduceLT,Nat.reduceAdd,Nat.reduceMul,Nat.reduceEqDiff]; exact hcs) mg (by simp only[all2_cons,all2_nil,hA,true_or,and_true]; simp) ?_
   intro Z D mZ hFZ hNZ hnZ hDZ
   have hD0:D=[]:=List.eq_nil_iff_forall_not_mem.2 (fun q hq=>by simpa using hDZ q hq)
   subst hD0
   replace mZ:Mod [] V Z:=mZ
   have hzn:=mZ.next
   have hnZ':Z.next=gg.next:=hnZ
   have ownZ:OwnG Na Z ua rva NR:=own.of (by omega) (fun n h3 h4 _=>hNZ n (by show V.next≤n; omega) h4)
   have okZ:=mZ.ok okV
   obtain⟨aua,cua,eua⟩:=ownZ.grid.sl
   obtain⟨z,hz⟩:∃ n,Z.next=n:=⟨_,rfl⟩
   have hzb:Z.base≤z:=hz▸okZ
   have hsua:scb z ua=true:=by
    rcases ownZ.at_ with⟨_,h⟩|⟨m,s,c',o,e,_,_,hm,_⟩
    ·rw[h]; rfl
    ·rw[e]; exact blt_of (show m<z by omega)
   rw[show Z=ext Z [] from rfl,eua]
   rw[eua]at hsua
   simp (maxDischargeDepth:=6) only[hz,hzb,hsua,hnZ',k1,hA,decide_true,not_true,decide_false,xD,ruD,ruW,putL,Nat.reduceLeDiff,xF,ruU,entryE,Nat.reduceLT,Nat.reduceAdd,Nat.reduceMul,Nat.reduceEqDiff]
   refine⟨.inr fun _=>⟨.inr (by omega),by simp[idsV]⟩,.inr (by omega),?_⟩
   rw[←eua]
   generalize hW:ext Z _=W
   have mW:Mod [] Z W:=hW▸Mod.ext okZ
   have nW:W.next=z+1:=by rw[←hW,ext_next,hz]; rfl
   have bWz:bk W (z+0)=some ⟨24,false,[ua,.int .i64 y0.atR,.int .i64 (y0.atC (widG g))]⟩:=by rw[←hW,bk_at hz (by simp)]; rfl
   clear hW hA hG
   have okW:=mW.ok okZ
   have mVW:=mZ.trans mW
   have bWb:=(mVW.bk (n:=w+0) (by omega) (by simp)).trans bVb
   have bW1:=(mVW.bk (n:=x+1) (by omega) (by simp)).trans bV1
   have bW1e:=bW1
   rw[e2]at bW1e
   have bWze:=bWz
   rw[eua]at bWze
   have lWz:z+0<z+1:=by omega
   have lWb:w+0<z+1:=by omega
   have lW1:x+1<z+1:=by omega
   have lne:¬x+1=w+0:=by omega
   have hsua':scb (z+1) (.slice aua NR.length cua)=true:=scb_mono (by omega) _ hsua
   have k5:decide (¬(NR.length:Int)=(h.length:Int))=false:=decide_eq_false (by rw[hNR]at hnl; omega)
   have bWbe:=bWb
   rw[show W=ext W [] from rfl]
   refine w_drawB [(3,0),(4,2)] [] (by kernel_rfl) (by kernel_rfl) rfl fun ops anc hA hG=>?_
   simp only[all2_cons]at hA
   simp (maxDischargeDepth:=6) only[nW,bWze,lWz,hA,wd_slice,xD,ruD,ruW,putL,Nat.reduceLeDiff,xF,ruU,entryE,Nat.reduceLT,Nat.reduceAdd,Nat.reduceMul,Nat.reduceEqDiff]
   refine genV_sl (v:=us2) [n1] rfl rfl rfl rfl (zA9 rfl) (fun n hn=>by
    have:=op1V.ne n (by simpa[idsV]using hn)
    rw[show (ext W []).get n=V.get n from mVW.get n this.2 (by simp)]
    exact this.1) (fun G hG=>by
    simp only[bnds_none,bnds_some,ruU,entryE,Nat.reduceLT,Nat.reduceAdd,Nat.reduceMul,Nat.reduceEqDiff]
    exact sl2 G fun n hn=>(hG n (by simpa[idsV]using hn)).trans (mVW.get n (op1V.ne n hn).2 (by simp))) (by simp[Meets]) ?_
   rw[es2]at *
   simp (maxDischargeDepth:=6) only[nW,bWze,bWbe,bW1e,lWz,lWb,lW1,lne,hsua',k5,hA,wd_slice,decide_true,not_true,decide_false,xD,ruD,ruW,putL,Nat.reduceLeDiff,xF,ruU,entryE,Nat.reduceLT,Nat.reduceAdd,Nat.reduceMul,Nat.reduceEqDiff]
   refine⟨.inr (by omega),?_⟩
   rw[←eua]
   generalize hU:uw W (w+0) 0 _=U
   have mU:Mod [w+0] W U:=hU▸Mod.uw (by simp)
   have bUb:bk U (w+0)=some ⟨24,false,[ua,.int .i64 y0.atR,.int .i64 (y0.atC (widG g))]⟩:=by rw[←hU,bk_uw_eq,bWb]; rfl
   clear hU hA hG
   have hUn:=mU.next
   have mHU:Mod [] H U:=(mHV.trans mVW).step mU hok fun n hn=>.inr (by simp only[zA8]at hn; omega)
   have bU1:=(mU.bk (n:=x+1) (by omega) (by simp only[zA8]; omega)).trans bW1
   have opsU:OpsAt U (.slice as2 (l.length-1) cs2) L:=(rs2'.mod0 mVW).of mU.next fun n hn=>mU.get n (by have:=(op1V.ne n (hid2 n hn)).2; omega) (by have:=hid2 n hn; simp only[idsV,zA8]at this; simp only[zA8]; omega)
   have gridU:GridR U ua NR:=((ownZ.of mW.next fun n h3 h4 _=>mW.get n h4 (by simp)).of mU.next fun n h3 h4 _=>mU.get n (by omega) (by simp only[zA8]; omega)).r (fun e=>by have h3:=hnl.1; rw[hNR,e,zC3]at h3; exact hg0 (zC5 h3.symm))
   obtain⟨pv,hpv⟩:∃ v,v=Value.slice as2 (l.length-1) cs2:=⟨_,rfl⟩
   rw[←hpv]at opsU
   refine w_env fun E hE=>?_
   have g3:E 3=.pointer (some ⟨x+1,0,none⟩):=by rw[hE]; simp only[ruU,entryE,Nat.reduceLT,Nat.reduceAdd,Nat.reduceMul,Nat.reduceEqDiff]
   have g5:E 5=.bool true:=by rw[hE]; simp only[ruU,entryE,Nat.reduceLT,Nat.reduceAdd,Nat.reduceMul,Nat.reduceEqDiff]
   have g6:E 6=pv:=by rw[hE,hpv]; simp only[ruU,entryE,Nat.reduceLT,Nat.reduceAdd,Nat.reduceMul,Nat.reduceEqDiff]
   have g10:E 10=.pointer (some ⟨w+0,0,none⟩):=by rw[hE]; simp only[ruU,entryE,Nat.reduceLT,Nat.reduceAdd,Nat.reduceMul,Nat.reduceEqDiff]
   have g14:E 14=.int .i64 ((0:Nat):Int):=by rw[hE]; (simp only[ruU,entryE,Nat.reduceLT,Nat.reduceAdd,Nat.reduceMul,Nat.reduceEqDiff]<;>rfl)
   have g15:E 15=.int .i64 ((0:Nat):Int):=by rw[hE]; (simp only[ruU,entryE,Nat.reduceLT,Nat.reduceAdd,Nat.reduceMul,Nat.reduceEqDiff]<;>rfl)
   clear hE
   obtain⟨u,hu⟩:∃ n,U.next=n:=⟨_,rfl⟩
   have lu1:x+1<u:=by omega
   have lub:w+0<u:=by omega
   obtain⟨D,hD⟩:∃ D,difs NR h=D:=⟨_,rfl⟩
   rw[hNR]at hnl
   have g2U:=(h2.r hh0).mod0 mHU
   obtain⟨m1,of1',sp1',cp1,ty1,qo1,M1,evu,km1,m1l,lem1,tkm1⟩:=id gridU
   obtain⟨m2,of2',sp2',cp2,ty2,qo2,M2,evh,km2,m2l,lem2,tkm2⟩:=id g2U
   rw[hu]at m1l m2l
   have bUbe:=bUb
   rw[evu]at bUbe
   have bU1e:=bU1
   rw[evh]at bU1e
   refine blockC_meet (fun E' Y=>Y=ext U []∧E' 3=.pointer (some ⟨x+1,0,none⟩)∧E' 5=.bool true∧E' 6=pv∧E' 10=.pointer (some ⟨w+0,0,none⟩)∧E' 14=.int .i64 (D:Int)) ?_ ?_
   ·refine w_loop (fun (q:Nat × Nat) E' Y=>Y=ext U []∧E' 3=.pointer (some ⟨x+1,0,none⟩)∧E' 5=.bool true∧E' 6=pv∧E' 10=.pointer (some ⟨w+0,0,none⟩)∧E' 14=.int .i64 (q.2:Int)∧E' 15=.int .i64 (q.1:Int)∧q.1≤h.length∧q.2+difs (NR.drop q.1) (h.drop q.1)=D∧q.2≤60*q.1) (fun q=>h.length-q.1) (0,0)
     ⟨rfl,g3,g5,g6,g10,g14,g15,zB0 _,by simpa using hD,zB0 _⟩ ?_
    clear g3 g5 g6 g10 g14 g15 E
    rintro⟨i,n⟩ E Y ⟨hY,g3,g5,g6,g10,g14,g15,hi,hn,hn60⟩
    simp only at g14 g15 hi hn hn60
    rw[hY]
    by_cases hil:i<h.length
    case neg =>
     have hc0:decide ((i:Int)<(h.length:Int))=false:=decide_eq_false (by omega)
     rw[difs_end (by omega),zC7]at hn
     simp (maxDischargeDepth:=6) only[g3,g5,g6,g10,g14,g15,hu,lu1,bU1e,hc0,xD,ruW,putL,Nat.reduceLeDiff,xF,ruU,entryE,Nat.reduceLT,Nat.reduceAdd,Nat.reduceMul,Nat.reduceEqDiff]
     exact joinR_normal ⟨rfl,by simp only[g3,ruU,entryE,Nat.reduceLT,Nat.reduceAdd,Nat.reduceMul,Nat.reduceEqDiff],by simp only[g5,ruU,entryE,Nat.reduceLT,Nat.reduceAdd,Nat.reduceMul,Nat.reduceEqDiff],by simp only[g6,ruU,entryE,Nat.reduceLT,Nat.reduceAdd,Nat.reduceMul,Nat.reduceEqDiff],by simp only[g10,ruU,entryE,Nat.reduceLT,Nat.reduceAdd,Nat.reduceMul,Nat.reduceEqDiff],by simp only[g14,ruU,entryE,Nat.reduceLT,Nat.reduceAdd,Nat.reduceMul,Nat.reduceEqDiff]; rw[hn]⟩
    have hc0:decide ((i:Int)<(h.length:Int))=true:=decide_eq_true (by omega)
    obtain⟨b,hb⟩:∃ b,h[i]?=some b:=⟨_,zA6 hil⟩
    obtain⟨a,ha⟩:∃ a,NR[i]?=some a:=⟨_,zA6 (by omega)⟩
    have hal:=hnl.2 a (zB9 ha)
    have hbl:=ok2.wid b (zB9 hb)
    have hb60:=hhw b (zB9 hb)
    obtain⟨rva,hrva,rsa⟩:=tkm1 i a ha
    obtain⟨rvb,hrvb,rsb⟩:=tkm2 i b hb
    have j1:=grid_ia (len:=NR.length) (n:=m1) (off:=of1') (s:=sp1') (cap:=cp1) (i:=(i:Int)) rfl (by omega)
    have j2:=grid_ia (len:=h.length) (n:=m2) (off:=of2') (s:=sp2') (cap:=cp2) (i:=(i:Int)) rfl hil
    have f1:=grid_load (e:=ty1) (o:=qo1) hrva
    have f2:=grid_load (e:=ty2) (o:=qo2) hrvb
    rw[difs_step ha hb]at hn
    have hdn:=dif_n a b b.length 0
    obtain⟨dd,hdd2⟩:∃ d,dif a b 0 b.length=d:=⟨_,rfl⟩
    rw[hdd2]at hn hdn
    have wdd:IntKind.i64.wrap ((n:Int)+(dd:Int))=((n+dd:Nat):Int):=(wrap_sm (by omega) (by omega)).trans (by omega)
    simp (maxDischargeDepth:=6) only[g3,g5,g6,g10,g14,g15,hu,lu1,bU1e,hc0,xD,ruW,putL,Nat.reduceLeDiff,xF,ruU,entryE,Nat.reduceLT,Nat.reduceAdd,Nat.reduceMul,Nat.reduceEqDiff]
    refine w_drawB [] [] (by kernel_rfl) rfl rfl fun ops anc hA hG=>?_
    simp (maxDischargeDepth:=6) only[g3,g5,g6,g10,g14,g15,hu,lu1,lub,bU1e,bUbe,j1,j2,km1,km2,m1l,m2l,f1,f2,qk_old,xD,ruD,ruW,putL,Nat.reduceLeDiff,xF,ruU,entryE,Nat.reduceLT,Nat.reduceAdd,Nat.reduceMul,Nat.reduceEqDiff]
    refine genV_quiet (v:=.int .i64 (dd:Int)) (rowF a rva++rowF b rvb) (by simp only[ruU,entryE,Nat.reduceLT,Nat.reduceAdd,Nat.reduceMul,Nat.reduceEqDiff]) (by kernel_rfl) (by decide) (fun m hm=>?_) (fun G hn hg=>?_) (by simp[Meets]) ?_
    ·rcases zB4.1 hm with hm|hm
     ·exact rsa.at_.f m hm
     ·exact rsb.at_.f m hm
    ·simp only[ruU,entryE,Nat.reduceLT,Nat.reduceAdd,Nat.reduceMul,Nat.reduceEqDiff]
     have:=unlike_c G rva rvb a b (rsa.at_.ofF (zD2 hn.symm) fun m hm=>hg m (zD4 _ hm)) (rsb.at_.ofF (zD2 hn.symm) fun m hm=>hg m (zD5 _ hm)) (by omega) (by omega)
     rw[show a.length=b.length by omega,hdd2]at this
     exact this
    simp (maxDischargeDepth:=6) only[g3,g5,g6,g10,g14,g15,wdd,wrap_succ (show i<1000000 by omega),xD,ruD,ruW,putL,Nat.reduceLeDiff,xF,ruU,entryE,Nat.reduceLT,Nat.reduceAdd,Nat.reduceMul,Nat.reduceEqDiff]
    exact loopC_next ⟨(i+1,n+dd),by simp only; omega,rfl,by simp only[g3,ruU,entryE,Nat.reduceLT,Nat.reduceAdd,Nat.reduceMul,Nat.reduceEqDiff],by simp only[g5,ruU,entryE,Nat.reduceLT,Nat.reduceAdd,Nat.reduceMul,Nat.reduceEqDiff],by simp only[g6,ruU,entryE,Nat.reduceLT,Nat.reduceAdd,Nat.reduceMul,Nat.reduceEqDiff],by simp only[g10,ruU,entryE,Nat.reduceLT,Nat.reduceAdd,Nat.reduceMul,Nat.reduceEqDiff],by simp only[ruU,entryE,Nat.reduceLT,Nat.reduceAdd,Nat.reduceMul,Nat.reduceEqDiff],by simp only[ruU,entryE,Nat.reduceLT,Nat.reduceAdd,Nat.reduceMul,Nat.reduceEqDiff],by simp only; omega,by simp only; omega,by simp only; omega⟩
   clear g3 g5 g6 g10 g14 g15 E
   rintro E Y ⟨hY,g3,g5,g6,g10,g14⟩
   rw[hY]
   rcases id opsU with⟨hh,_⟩|⟨_,on,oof,osp,ocap,oe,oo,OM,evo,okm,onl,ole,otk⟩
   ·exact absurd hh hLne
   rw[hu]at onl
   have hLl:L.length≤3000:=by have:=congrArg List.length hlL; rw[zB6]at this; omega
   obtain⟨rf,hrf⟩:=steps_all (g:=NR) (h:=h) (p:=lk0) (r2:=r2) (c2:=c2) (by omega) (List.length_pos_iff.2 hh0) (by
    rcases (chk_all hc2).2 with hp|hp
    ·exact .inl ⟨hp.1,hp.2.1⟩
    ·exact .inr (by omega))
   rw[hL]at hrf
   simp (maxDischargeDepth:=6) only[g3,g5,g6,g10,g14,xD,ruW,putL,Nat.reduceLeDiff,xF,ruU,entryE,Nat.reduceLT,Nat.reduceAdd,Nat.reduceMul,Nat.reduceEqDiff]
   refine w_env fun E' hE=>?_
   have r3:E' 3=.pointer (some ⟨x+1,0,none⟩):=by rw[hE]; simp only[g3,ruU,entryE,Nat.reduceLT,Nat.reduceAdd,Nat.reduceMul,Nat.reduceEqDiff]
   have r5:E' 5=.bool true:=by rw[hE]; simp only[g5,ruU,entryE,Nat.reduceLT,Nat.reduceAdd,Nat.reduceMul,Nat.reduceEqDiff]
   have r6:E' 6=pv:=by rw[hE]; simp only[g6,ruU,entryE,Nat.reduceLT,Nat.reduceAdd,Nat.reduceMul,Nat.reduceEqDiff]
   have r10:E' 10=.pointer (some ⟨w+0,0,none⟩):=by rw[hE]; simp only[g10,ruU,entryE,Nat.reduceLT,Nat.reduceAdd,Nat.reduceMul,Nat.reduceEqDiff]
   have r14:E' 14=.int .i64 (D:Int):=by rw[hE]; simp only[g14,ruU,entryE,Nat.reduceLT,Nat.reduceAdd,Nat.reduceMul,Nat.reduceEqDiff]
   have r16:E' 16=.int .i64 0:=by rw[hE]; (simp only[ruU,entryE,Nat.reduceLT,Nat.reduceAdd,Nat.reduceMul,Nat.reduceEqDiff]<;>rfl)
   have r17:E' 17=.int .i64 ((0:Nat):Int):=by rw[hE]; (simp only[ruU,entryE,Nat.reduceLT,Nat.reduceAdd,Nat.reduceMul,Nat.reduceEqDiff]<;>rfl)
   clear hE g3 g5 g6 g10 g14 E
   refine blockC_meet (fun E' Y=>Y=ext U []∧E' 5=.bool true∧E' 6=pv∧E' 14=.int .i64 (D:Int)) ?_ ?_
   ·refine w_loop (fun (q:Nat × Int) E' Y=>Y=ext U []∧E' 3=.pointer (some ⟨x+1,0,none⟩)∧E' 5=.bool true∧E' 6=pv∧E' 10=.pointer (some ⟨w+0,0,none⟩)∧E' 14=.int .i64 (D:Int)∧E' 16=.int .i64 q.2∧E' 17=.int .i64 (q.1:Int)∧q.1≤L.length∧∃ r',stepsR NR h (L.drop q.1) q.2=some r') (fun q=>L.length-q.1) (0,0)
     ⟨rfl,r3,r5,r6,r10,r14,r16,r17,zB0 _,rf,hrf⟩ ?_
    clear r3 r5 r6 r10 r14 r16 r17 E'
    rintro⟨j,row⟩ E Y ⟨hY,g3,g5,g6,g10,g14,g16,g17,hj,r',hst⟩
    simp only at g16 g17 hj hst
    rw[hY]
    have g6e:=g6
    rw[evo]at g6e
    by_cases hjl:j<L.length
    case neg =>
     have hc0:decide ((j:Int)<(L.length:Int))=false:=decide_eq_false (by omega)
     simp (maxDischargeDepth:=6) only[g3,g5,g6e,g10,g14,g16,g17,hc0,xD,ruW,putL,Nat.reduceLeDiff,xF,ruU,entryE,Nat.reduceLT,Nat.reduceAdd,Nat.reduceMul,Nat.reduceEqDiff]
     exact joinR_normal ⟨rfl,by simp only[g5,ruU,entryE,Nat.reduceLT,Nat.reduceAdd,Nat.reduceMul,Nat.reduceEqDiff],by simp only[g6,ruU,entryE,Nat.reduceLT,Nat.reduceAdd,Nat.reduceMul,Nat.reduceEqDiff],by simp only[g14,ruU,entryE,Nat.reduceLT,Nat.reduceAdd,Nat.reduceMul,Nat.reduceEqDiff]⟩
    have hc0:decide ((j:Int)<(L.length:Int))=true:=decide_eq_true (by omega)
    obtain⟨ob,hob⟩:∃ o,L[j]?=some o:=⟨_,zA6 hjl⟩
    have hdr:L.drop j=ob::L.drop (j+1):=by
     rw[zF0 hjl]
     rw[zA6 hjl]at hob
     rw[Option.some.inj hob]
    rw[hdr,stepsR]at hst
    obtain⟨rr,hrr⟩:∃ rr,stepR NR h row ob=some rr:=by
     cases hs:stepR NR h row ob with
     |none=>rw[hs]at hst; cases hst
     |some rr=>exact⟨rr,rfl⟩
    rw[hrr,zA3]at hst
    obtain⟨rv,hrv⟩:∃ rv,(if ob.kind=1 then ob.row else row)=rv:=⟨_,rfl⟩
    have hcond:¬ob.kind=5∧¬ob.kind=6∧0≤rv∧rv<(h.length:Int)∧¬((ob.kind=3∨ob.kind=4)∧NR[rv.toNat]?=h[rv.toNat]?)∧rv=rr:=by
     unfold stepR at hrr
     rw[hrv]at hrr
     split at hrr
     ·cases hrr
     ·rename_i hn
      simp only[not_or]at hn
      exact⟨hn.1,hn.2.1,by omega,by omega,hn.2.2.2.2,Option.some.inj hrr⟩
    obtain⟨n5,n6,rv0,rv1,hwr,rfl⟩:=hcond
    have ia:=op_ia (len:=L.length) (n:=on) (off:=oof) (s:=osp) (cap:=ocap) (i:=(j:Int)) rfl hjl
    have v0:=op_cell (t:=3) (e:=oe) (o:=oo) (j:=0) (by kernel_rfl) hob rfl otk
    have v1:=op_cell (t:=3) (e:=oe) (o:=oo) (j:=1) (by kernel_rfl) hob rfl otk
    rw[zC7]at v0
    obtain⟨d1,hd1⟩:∃ d,decide (ob.kind=1)=d:=⟨_,rfl⟩
    simp (maxDischargeDepth:=6) only[g3,g5,g6e,g10,g14,g16,g17,hu,hc0,ia,okm,onl,v0,qk_old,hd1,xD,ruW,putL,Nat.reduceLeDiff,xF,ruU,entryE,Nat.reduceLT,Nat.reduceAdd,Nat.reduceMul,Nat.reduceEqDiff]
    refine condC_meet (fun E' Y=>Y=ext U []∧E' 3=.pointer (some ⟨x+1,0,none⟩)∧E' 5=.bool true∧E' 6=pv∧E' 10=.pointer (some ⟨w+0,0,none⟩)∧E' 14=.int .i64 (D:Int)∧E' 16=.int .i64 rv∧E' 17=.int .i64 (j:Int)) ?_ ?_
    ·cases d1 with
     |true =>
      rw[if_pos (of_decide_eq_true hd1)]at hrv
      have v1':=v1
      rw[Nat.add_assoc]at v1'
      simp (maxDischargeDepth:=6) only[g3,g5,g6e,g10,g14,g16,g17,hu,ia,okm,onl,v0,v1,v1',qk_old,xD,ruW,putL,Nat.reduceLeDiff,xF,ruU,entryE,Nat.reduceLT,Nat.reduceAdd,Nat.reduceMul,Nat.reduceEqDiff]
      exact joinR_normal ⟨rfl,by simp only[g3,ruU,entryE,Nat.reduceLT,Nat.reduceAdd,Nat.reduceMul,Nat.reduceEqDiff],by simp only[g5,ruU,entryE,Nat.reduceLT,Nat.reduceAdd,Nat.reduceMul,Nat.reduceEqDiff],by simp only[g6,ruU,entryE,Nat.reduceLT,Nat.reduceAdd,Nat.reduceMul,Nat.reduceEqDiff],by simp only[g10,ruU,entryE,Nat.reduceLT,Nat.reduceAdd,Nat.reduceMul,Nat.reduceEqDiff],by simp only[g14,ruU,entryE,Nat.reduceLT,Nat.reduceAdd,Nat.reduceMul,Nat.reduceEqDiff],by simp only[ruU,entryE,Nat.reduceLT,Nat.reduceAdd,Nat.reduceMul,Nat.reduceEqDiff]; rw[hrv],by simp only[g17,ruU,entryE,Nat.reduceLT,Nat.reduceAdd,Nat.reduceMul,Nat.reduceEqDiff]⟩
     |false =>
      rw[if_neg (of_decide_eq_false hd1)]at hrv
      simp (maxDischargeDepth:=6) only[xD,ruW,putL,Nat.reduceLeDiff,xF,ruU,entryE,Nat.reduceLT,Nat.reduceAdd,Nat.reduceMul,Nat.reduceEqDiff]
      exact joinR_normal ⟨rfl,by simp only[g3,ruU,entryE,Nat.reduceLT,Nat.reduceAdd,Nat.reduceMul,Nat.reduceEqDiff],by simp only[g5,ruU,entryE,Nat.reduceLT,Nat.reduceAdd,Nat.reduceMul,Nat.reduceEqDiff],by simp only[g6,ruU,entryE,Nat.reduceLT,Nat.reduceAdd,Nat.reduceMul,Nat.reduceEqDiff],by simp only[g10,ruU,entryE,Nat.reduceLT,Nat.reduceAdd,Nat.reduceMul,Nat.reduceEqDiff],by simp only[g14,ruU,entryE,Nat.reduceLT,Nat.reduceAdd,Nat.reduceMul,Nat.reduceEqDiff],by simp only[g16,ruU,entryE,Nat.reduceLT,Nat.reduceAdd,Nat.reduceMul,Nat.reduceEqDiff]; rw[hrv],by simp only[g17,ruU,entryE,Nat.reduceLT,Nat.reduceAdd,Nat.reduceMul,Nat.reduceEqDiff]⟩
    clear g3 g5 g6 g6e g10 g14 g16 g17 E
    rintro E Y ⟨hY,g3,g5,g6,g10,g14,g16,g17⟩
    rw[hY]
    have g6e:=g6
    rw[evo]at g6e
    obtain⟨ri,rfl⟩:∃ n:Nat,rv=n:=⟨rv.toNat,by omega⟩
    rw[Int.toNat_natCast]at hwr
    have hril:ri<h.length:=by omega
    obtain⟨b,hb⟩:∃ b,h[ri]?=some b:=⟨_,zA6 hril⟩
    obtain⟨a,ha⟩:∃ a,NR[ri]?=some a:=⟨_,zA6 (by omega)⟩
    have hal:=hnl.2 a (zB9 ha)
    have hbl:=ok2.wid b (zB9 hb)
    have hb60:=hhw b (zB9 hb)
    rw[ha,hb]at hwr
    obtain⟨rva,hrva,rsa⟩:=tkm1 ri a ha
    obtain⟨rvb,hrvb,rsb⟩:=tkm2 ri b hb
    have j1:=grid_ia (len:=NR.length) (n:=m1) (off:=of1') (s:=sp1') (cap:=cp1) (i:=(ri:Int)) rfl (by omega)
    have j2:=grid_ia (len:=h.length) (n:=m2) (off:=of2') (s:=sp2') (cap:=cp2) (i:=(ri:Int)) rfl hril
    have f1:=grid_load (e:=ty1) (o:=qo1) hrva
    have f2:=grid_load (e:=ty2) (o:=qo2) hrvb
    have z5:decide (ob.kind=5)=false:=decide_eq_false n5
    have z6:decide (ob.kind=6)=false:=decide_eq_false n6
    have zr0:decide ((ri:Int)<0)=false:=decide_eq_false (by omega)
    have zr1:decide ((h.length:Int)≤(ri:Int))=false:=decide_eq_false (by omega)
    obtain⟨d3,hd3⟩:∃ d,decide (ob.kind=3)=d:=⟨_,rfl⟩
    obtain⟨d4,hd4⟩:∃ d,decide (ob.kind=4)=d:=⟨_,rfl⟩
    cases hwd:(d3||d4) with
    |true =>
     have hab:¬a=b:=fun e=>hwr ⟨by
      rcases Bool.or_eq_true_iff.1 hwd with h|h
      ·left; rw[h]at hd3; exact of_decide_eq_true hd3
      ·right; rw[h]at hd4; exact of_decide_eq_true hd4,by rw[e]⟩
     have hdd3:d3=true∨(d3=false∧d4=true):=by cases d3<;>cases d4<;>simp_all
     rcases hdd3 with rfl|⟨rfl,rfl⟩
     all_goals
      simp (maxDischargeDepth:=6) only[g3,g5,g6e,g10,g14,g16,g17,hu,ia,okm,onl,v0,qk_old,hd3,hd4,xD,ruW,putL,Nat.reduceLeDiff,xF,ruU,entryE,Nat.reduceLT,Nat.reduceAdd,Nat.reduceMul,Nat.reduceEqDiff]
      refine w_drawB [] [(6,154),(14,162),(18,166),(25,173),(27,175)] (by kernel_rfl) rfl (by kernel_rfl) fun ops anc hA hG=>?_
      simp only[all2_cons]at hG
      simp (maxDischargeDepth:=6) only[g3,g5,g6e,g10,g14,g16,g17,hu,ia,okm,onl,v0,qk_old,z5,z6,zr0,zr1,bU1e,bUbe,lu1,lub,j1,j2,km1,km2,m1l,m2l,f1,f2,hG,xD,ruD,ruW,putL,Nat.reduceLeDiff,xF,ruU,entryE,Nat.reduceLT,Nat.reduceAdd,Nat.reduceMul,Nat.reduceEqDiff]
      refine genV_quiet (v:=.bool false) (rowF a rva++rowF b rvb) (by simp only[ruU,entryE,Nat.reduceLT,Nat.reduceAdd,Nat.reduceMul,Nat.reduceEqDiff]) (by kernel_rfl) (by decide) (fun m hm=>?_) (fun G hn hg=>?_) (by simp[Meets]) ?_
      ·rcases zB4.1 hm with hm|hm
       ·exact rsa.at_.f m hm
       ·exact rsb.at_.f m hm
      ·simp only[ruU,entryE,Nat.reduceLT,Nat.reduceAdd,Nat.reduceMul,Nat.reduceEqDiff]
       have:=sameCells_c G rva rvb a b (rsa.at_.ofF (zD2 hn.symm) fun m hm=>hg m (zD4 _ hm)) (rsb.at_.ofF (zD2 hn.symm) fun m hm=>hg m (zD5 _ hm)) (by omega)
       rw[decide_eq_false hab]at this
       exact this
      simp (maxDischargeDepth:=6) only[g3,g5,g6e,g10,g14,g16,g17,hG,wrap_succ (show j<1000000 by omega),xD,ruD,ruW,putL,Nat.reduceLeDiff,xF,ruU,entryE,Nat.reduceLT,Nat.reduceAdd,Nat.reduceMul,Nat.reduceEqDiff]
      exact loopC_next ⟨(j+1,(ri:Int)),by simp only; omega,rfl,by simp only[g3,ruU,entryE,Nat.reduceLT,Nat.reduceAdd,Nat.reduceMul,Nat.reduceEqDiff],by simp only[g5,ruU,entryE,Nat.reduceLT,Nat.reduceAdd,Nat.reduceMul,Nat.reduceEqDiff],by simp only[g6,ruU,entryE,Nat.reduceLT,Nat.reduceAdd,Nat.reduceMul,Nat.reduceEqDiff],by simp only[g10,ruU,entryE,Nat.reduceLT,Nat.reduceAdd,Nat.reduceMul,Nat.reduceEqDiff],by simp only[g14,ruU,entryE,Nat.reduceLT,Nat.reduceAdd,Nat.reduceMul,Nat.reduceEqDiff],by simp only[g16,ruU,entryE,Nat.reduceLT,Nat.reduceAdd,Nat.reduceMul,Nat.reduceEqDiff],by simp only[ruU,entryE,Nat.reduceLT,Nat.reduceAdd,Nat.reduceMul,Nat.reduceEqDiff],by simp only; omega,r',hst⟩
    |false =>
     have hdd3:d3=false∧d4=false:=by cases d3<;>cases d4<;>simp_all
     obtain⟨rfl,rfl⟩:=hdd3
     simp (maxDischargeDepth:=6) only[g3,g5,g6e,g10,g14,g16,g17,hu,ia,okm,onl,v0,qk_old,hd3,hd4,xD,ruW,putL,Nat.reduceLeDiff,xF,ruU,entryE,Nat.reduceLT,Nat.reduceAdd,Nat.reduceMul,Nat.reduceEqDiff]
     refine w_drawB [] [(6,154),(14,162),(18,166),(25,173),(27,175)] (by kernel_rfl) rfl (by kernel_rfl) fun ops anc hA hG=>?_
     simp only[all2_cons]at hG
     simp (maxDischargeDepth:=6) only[g3,g5,g6e,g10,g14,g16,g17,hu,ia,okm,onl,v0,qk_old,z5,z6,zr0,zr1,bU1e,bUbe,lu1,lub,hG,wrap_succ (show j<1000000 by omega),xD,ruD,ruW,putL,Nat.reduceLeDiff,xF,ruU,entryE,Nat.reduceLT,Nat.reduceAdd,Nat.reduceMul,Nat.reduceEqDiff]
     exact loopC_next ⟨(j+1,(ri:Int)),by simp only; omega,rfl,by simp only[g3,ruU,entryE,Nat.reduceLT,Nat.reduceAdd,Nat.reduceMul,Nat.reduceEqDiff],by simp only[g5,ruU,entryE,Nat.reduceLT,Nat.reduceAdd,Nat.reduceMul,Nat.reduceEqDiff],by simp only[g6,ruU,entryE,Nat.reduceLT,Nat.reduceAdd,Nat.reduceMul,Nat.reduceEqDiff],by simp only[g10,ruU,entryE,Nat.reduceLT,Nat.reduceAdd,Nat.reduceMul,Nat.reduceEqDiff],by simp only[g14,ruU,entryE,Nat.reduceLT,Nat.reduceAdd,Nat.reduceMul,Nat.reduceEqDiff],by simp only[g16,ruU,entryE,Nat.reduceLT,Nat.reduceAdd,Nat.reduceMul,Nat.reduceEqDiff],by simp only[ruU,entryE,Nat.reduceLT,Nat.reduceAdd,Nat.reduceMul,Nat.reduceEqDiff],by simp only; omega,r',hst⟩
   clear r3 r5 r6 r10 r14 r16 r17 E'
   rintro E Y ⟨hY,g5,g6,g14⟩
   rw[hY]
   have tU:Tab U:=t.of (mHU.get 0 (by omega) (by simp)) (mHU.get 1 (by omega) (by simp))
   have htL:TxS L:=fun q hq=>(hlr▸htx:TxS l) q (by rw[hlL]; exact zD5 _ hq)
   have hcostL:=costB_c (ext U []) tU (by show 1<U.next; omega) pv L opsU (by omega) htL
   have hrc:=rows_cost NR h 0 lk0 (fun l hl=>chk_isR hc2 l hl)
   have hcL:costR L≤8*(D:Int):=by
    rw[←hL,costR_app,cur_cost]
    rw[hD]at hrc
    omega
   have hDl:=difs_le NR h hhw
   rw[hD]at hDl
   have w8:IntKind.i64.wrap (8*(D:Int))=8*(D:Int):=wrap_sm (by omega) (by omega)
   have k8:decide (costR L≤8*(D:Int))=true:=decide_eq_true hcL
   simp (maxDischargeDepth:=6) only[g5,g6,g14,xD,ruW,putL,Nat.reduceLeDiff,xF,ruU,entryE,Nat.reduceLT,Nat.reduceAdd,Nat.reduceMul,Nat.reduceEqDiff]
   refine hcostL.to ?_
   simp (maxDischargeDepth:=6) only[g5,g6,g14,w8,k8,Tryd.results8,xD,ruW,putL,Nat.reduceLeDiff,xF,ruU,entryE,Nat.reduceLT,Nat.reduceAdd,Nat.reduceMul,Nat.reduceEqDiff]
   exact⟨rfl,mHU⟩
end Go.Proofs.YtaojjfebkldmnaaDoor
