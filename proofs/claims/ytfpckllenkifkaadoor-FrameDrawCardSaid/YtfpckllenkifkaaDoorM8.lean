/- Parts of the proof, one behind the other. -/
import Derived.Test.YtfpckllenkifkaaDoorM6
import Derived.Test.YtfpckllenkifkaaDoorM7
import Derived.Test.YtfpckllenkifkaaDoorRows
import Derived.ProofKit
import Derived.Carry
import Derived.OpenShut
import Derived.LaidMore
import Derived.Lay
set_option linter.all false
set_option maxRecDepth 10000
set_option maxHeartbeats 16000000
open And renaming intro -> zA0
open Option renaming bind_eq_bind -> zA1, bind_eq_some_iff -> zA2, bind_some -> zA3, map_some -> zA8, map_eq_some_iff -> zB0
open Bool renaming and_eq_true -> zA4, false_eq_true -> zC1, not_true -> zC2, not_false -> zD8, false_and -> zE0, and_true -> zE6, and_self -> zE8
open List renaming getElem?_eq_getElem -> zA5, mem_singleton -> zA9, mem_cons -> zB2, mem_cons_of_mem -> zB3, length_cons -> zB4, mem_of_getElem? -> zB5, map_cons -> zB7, mem_cons_self -> zB9, mem_append -> zC3, drop_zero -> zC7, length_append -> zC8, nil_append -> zC9, length_nil -> zD0, all_eq_true -> zD1, getElem?_eq_none -> zD2, getElem?_cons_zero -> zD3, length_drop -> zD4, length_replicate -> zD6, eq_nil_of_length_eq_zero -> zD7, getElem?_eq_some_iff -> zE1, getElem?_cons_succ -> zE2, length_take -> zE3, append_nil -> zE4, mem_map -> zE7, drop_drop -> zE9, take_length -> zF0, map_congr_left -> zF1, take_of_length_le -> zF2, flatMap_cons -> zF3, getElem?_take -> zF4, drop_eq_nil_of_le -> zF5, length_map -> zF6, foldl_cons -> zF7, mem_flatMap -> zF8, getD_eq_getElem?_getD -> zF9
open Nat renaming le_refl -> zA6, zero_le -> zA7, le_of_ble_eq_true -> zB1, zero_add -> zB6, le_trans -> zB8, lt_or_ge -> zC0, lt_of_lt_of_le -> zC4, lt_succ_self -> zC5, ble_eq -> zC6, add_zero -> zD5, min -> zD9, zero_mul -> zE5

namespace Go.Proofs.YtfpckllenkifkaaDoor
open Go.Ax
theorem awake_c (H:AHeap):Pure 7 [] H (.bool true):=callS_ans mixed kno7 rfl awakeK_true H
theorem law3_c (q:Bool) (H:AHeap) (t:TabX H) (f:Fr) (pv bv:Value) (hf:FrR q H pv bv f) (hpos:∀ p∈f.panes,∀ r∈p.rows,r.pos.length<=17592186043904) (hok:H.base<=H.next) :
  CallA Tryd.prog 3 [.agg ⟨frL pv bv f⟩] H (fun out X=>out=.ok (.bool true)/\Mod [] H X):=by
 obtain⟨x,hx⟩:=Go.Ax.exq H.next
 obtain⟨pa,pc,ep⟩:=hf.panes.sl
 obtain⟨ba,bc,eb⟩:=hf.bars.sl
 have sp:=hf.sp
 have sb:=hf.sb
 rw[hx,ep]at sp
 rw[hx,eb]at sb
 refine callE_fn mixed Tryd.func3 rfl Tryd.ntmps3 (zB1 rfl) ?_
 obtain⟨G,hG⟩:=Go.Ax.exq (ext H [⟨25,false,frL pv bv f⟩])
 have mG:Mod [] H G:=hG▸Mod.ext hok
 have nG:G.next=x+1:=by rw[<-hG,ext_next,hx]; rfl
 have okG:=mG.ok hok
 have gb:G.base<=x+1:=nG▸okG
 have kG:bk G (x+0)=some ⟨25,false,frL pv bv f⟩:=by rw[<-hG,bk_at hx (by simp)]; rfl
 have x0:x+0<x+1:=by omega
 have hlg:=large_c q G f pv bv (hf.mod0 mG)
 obtain⟨lg,hlgB⟩:∃ b,lgB f=b:=⟨_,rfl⟩
 rw[hlgB]at hlg
 have z25:zeroOf Tryd.prog 25=some (.agg #[.int .i64 0,.int .i64 0,.slice none 0 0,.slice none 0 0,.string ⟨#[]⟩,.int .i64 0]):=by kernel_rfl
 have z31:zeroOf Tryd.prog 31=some (.agg #[.slice none 0 0,.int .i64 0,.int .i64 0]):=by kernel_rfl
 rw[ep,eb]at hG kG hlg ⊢
 unfold frL at hG kG hlg ⊢
 simp only[hx,sp,sb,ruW,Nat.reduceLeDiff,xF,ruU,entryE,Nat.reduceLT,Nat.reduceAdd,Nat.reduceEqDiff]
 rw[hG]
 refine hlg.to ?_
 rw[show G=ext G [] from rfl]
 cases lg with
 |true =>
  simp only[ruW,xF,ruU,Nat.reduceLT]
  refine CallS.to (show Pure 7 _ (ext G []) _ from awake_c G) ?_
  simp only[Tryd.results3,ruW,ruU,Nat.reduceLT]
  exact⟨trivial,mG⟩
 |false =>
 have bd:=lgB_bd hlgB
 simp only[nG,x0,kG,qk_old,ruW,Nat.reduceLeDiff,xF,ruU,Nat.reduceLT,Nat.reduceAdd,Nat.reduceEqDiff]
 have hco:=copied_c q G f pv bv (hf.mod0 mG) bd hpos okG
 rw[ep,eb]at hco
 unfold frL at hco
 refine CallA.mono (show CallA Tryd.prog 8 _ (ext G []) _ from hco) ?_
 rintro out C ⟨mC,pv',bv',rfl,hfC⟩
 obtain⟨c,hc⟩:=Go.Ax.exq C.next
 have okC:=mC.ok okG
 have cb:C.base<=c:=hc▸okC
 have xc:x+1<=c:=by have:=mC.next; omega
 obtain⟨pa',pc',ep'⟩:=hfC.panes.sl
 obtain⟨ba',bc',eb'⟩:=hfC.bars.sl
 have sp':=hfC.sp
 have sb':=hfC.sb
 rw[hc,ep']at sp'
 rw[hc,eb']at sb'
 have kC:=(mC.bk (n:=x+0) (by omega) (by simp)).trans kG
 rw[ep',eb',show C=ext C [] from rfl]
 obtain⟨C1,hC1⟩:=Go.Ax.exq (ext C [⟨25,false,frL pv' bv' f⟩])
 have m1:Mod [] C C1:=hC1▸Mod.ext okC
 have nC1:C1.next=c+1:=by rw[<-hC1,ext_next,hc]; rfl
 have ok1:=m1.ok okC
 have tG:=t.mod0 mG
 have tC1:=(tG.mod0 mC).mod0 m1
 have hd1:=draw_c C1 tC1 f pv' bv' (hfC.mod0 m1) bd ok1
 rw[ep',eb']at hC1 hd1
 unfold frL at hC1 hd1
 simp only[hc,cb,sp',sb',z25,ruW,putL,Nat.reduceLeDiff,xF,ruU,Nat.reduceLT,Nat.reduceAdd,Nat.reduceEqDiff]
 rw[hC1]
 refine CallA.mono (show CallA Tryd.prog 9 _ C1 _ from hd1) ?_
 rintro out D hD
 obtain⟨mD,N1,v1,rvs1,hN1,o1,rfl,hl1,hw1⟩:=hD.see
 obtain⟨ga,gc,ev1⟩:=o1.grid.sl
 obtain⟨R,hR⟩:∃ g,resG f=g:=⟨_,rfl⟩
 obtain⟨rr,hrr⟩:∃ g,(resC f).1=g:=⟨_,rfl⟩
 obtain⟨rc2,hrc2⟩:∃ g,(resC f).2=g:=⟨_,rfl⟩
 obtain⟨re,hre⟩:∃ g,resE f=g:=⟨_,rfl⟩
 rw[hR]at o1 ev1 hl1 hw1
 rw[hrr,hrc2,hre]
 obtain⟨d,hdn⟩:∃ c,D.next=c:=⟨_,rfl⟩
 have okD:=mD.ok ok1
 have db:D.base<=d:=hdn▸okD
 have cd:c+1<=d:=by have:=mD.next; omega
 have mCD:=m1.trans mD
 have kD:=(mCD.bk (n:=x+0) (by omega) (by simp)).trans kC
 have kDc:=(mD.bk (n:=c+0) (by omega) (by simp)).trans (show bk C1 (c+0)=some ⟨25,false,[.int .i64 f.height,.int .i64 f.width,.slice pa' f.panes.length pc',.slice ba' f.bars.length bc',.string f.echo,.int .i64 f.ecol]⟩ by rw[<-hC1,bk_at hc (by simp)]; rfl)
 have scv1:scb d v1=true:=by
  rcases o1.at_ with⟨_,e⟩|⟨m,s',c',o,e,_,_,hlt,_⟩
  ·rw[e]; rfl
  ·rw[e]; exact blt_of (hdn▸hlt)
 obtain⟨D2,hD2⟩:=Go.Ax.exq (ext D [⟨31,false,[v1,.int .i64 rr,.int .i64 rc2]⟩])
 have m2:Mod [] D D2:=hD2▸Mod.ext okD
 have nD2:D2.next=d+1:=by rw[<-hD2,ext_next,hdn]; rfl
 have ok2:=m2.ok okD
 have kD2:bk D2 (d+0)=some ⟨31,false,[v1,.int .i64 rr,.int .i64 rc2]⟩:=by rw[<-hD2,bk_at hdn (by simp)]; rfl
 have mHD2:Mod [] H D2:=((mG.trans mC).trans mCD).trans m2
 have hrd:=rfDraw_c q D2 (t.mod0 mHD2) f pv bv (hf.mod0 mHD2) bd ok2
 have xd:x+0<d:=by omega
 have cdd:c+0<d:=by omega
 rw[ev1]at scv1 hD2 kD2 ⊢
 rw[ep,eb]at hrd
 unfold frL at hrd
 rw[show D=ext D [] from rfl]
 simp only[hdn,db,scv1,z31,kD,xd,qk_old,ruW,putL,Nat.reduceLeDiff,xF,ruU,Nat.reduceLT,Nat.reduceAdd,Nat.reduceEqDiff]
 rw[hD2,show D2=ext D2 [] from rfl]
 refine CallA.mono (show CallA Tryd.prog 10 _ (ext D2 []) _ from hrd) ?_
 rintro out S hS
 obtain⟨mS,N2,v2,rvs2,hN2,o2,rfl,hl2,hw2⟩:=hS.see
 rw[hR]at o2 hl2 hw2
 rw[hrr,hrc2,hre]
 obtain⟨gd,ge,ev2⟩:=o2.grid.sl
 obtain⟨s,hsn⟩:∃ c,S.next=c:=⟨_,rfl⟩
 have okS:=mS.ok ok2
 have sb2:S.base<=s:=hsn▸okS
 have ds:d+1<=s:=by have:=mS.next; omega
 have scv2:scb s v2=true:=by
  rcases o2.at_ with⟨_,e⟩|⟨m,s',c',o,e,_,_,hlt,_⟩
  ·rw[e]; rfl
  ·rw[e]; exact blt_of (hsn▸hlt)
 obtain⟨S2,hS2⟩:=Go.Ax.exq (ext S [⟨31,false,[v2,.int .i64 rr,.int .i64 rc2]⟩])
 have m3:Mod [] S S2:=hS2▸Mod.ext okS
 have nS2:S2.next=s+1:=by rw[<-hS2,ext_next,hsn]; rfl
 have ok3:=m3.ok okS
 have kS2:bk S2 (s+0)=some ⟨31,false,[v2,.int .i64 rr,.int .i64 rc2]⟩:=by rw[<-hS2,bk_at hsn (by simp)]; rfl
 have mDS2:Mod [] D S2:=(m2.trans mS).trans m3
 have o1S:OwnG N1 S2 v1 rvs1 R:=o1.of mDS2.next fun n _ hn _=>mDS2.get n hn (by simp)
 have o2S:OwnG N2 S2 v2 rvs2 R:=o2.of m3.next fun n _ hn _=>m3.get n hn (by simp)
 have kd2:=((mS.trans m3).bk (n:=d+0) (by omega) (by simp)).trans kD2
 have kc2:=(mDS2.bk (n:=c+0) (by omega) (by simp)).trans kDc
 have hss:=sameScreens_c S2 v1 v2 R R rr rc2 rr rc2 o1S.grid o2S.grid (by omega) (fun l hl=>by have:=hw1 l hl; omega)
 have hdt:decide (R=R/\rr=rr/\rc2=rc2)=true:=by simp
 rw[hdt]at hss
 have hee:decide (re=re)=true:=by simp
 have hT:∀ i:Decidable True,@decide True i=true:=fun i=>by simp
 rw[ev2]at scv2 hS2 kS2 hss ⊢
 rw[ev1]at hss
 have q1:d+0<s+1:=by omega
 have q2:s+0<s+1:=by omega
 have q3:c+0<s+1:=by omega
 rw[show S=ext S [] from rfl]
 simp only[hsn,sb2,scv2,z31,ruW,putL,Nat.reduceLeDiff,xF,ruU,Nat.reduceLT,Nat.reduceAdd,Nat.reduceEqDiff]
 rw[hS2,show S2=ext S2 [] from rfl]
 simp only[nS2,q1,q2,kd2,kS2,qk_old,ruW,Nat.reduceLeDiff,xF,ruU,Nat.reduceLT,Nat.reduceAdd,Nat.reduceEqDiff]
 refine CallS.to (show Pure 11 _ (ext S2 []) _ from hss) ?_
 have hov:=over_c N1 S2 v1 rvs1 R rr rc2 o1S ok3 (fun l hl=>by have:=hw1 l hl; omega) (by omega)
 rw[ev1]at hov
 simp only[nS2,q1,kd2,hT,qk_old,ruW,Nat.reduceLeDiff,xF,ruU,Nat.reduceLT,Nat.reduceAdd,Nat.reduceEqDiff]
 refine CallA.mono (show CallA Tryd.prog 12 _ (ext S2 []) _ from hov) ?_
 rintro out T ⟨rfl,mT⟩
 have hfl:∀ n∈rvs1.flatMap idsV,N1<=n/\n<d:=fun n hn=>by have:=o1.ids n hn; omega
 have okT:=mT.ok ok3
 obtain⟨tn,htn⟩:∃ c,T.next=c:=⟨_,rfl⟩
 have st:s+1<=tn:=by have:=mT.next; omega
 have mC1T:Mod [] C1 T:=(mD.trans mDS2).step mT ok1 fun n hn=>.inr (by have:=hfl n hn; omega)
 have mCT:Mod [] C T:=m1.trans mC1T
 have mHT:Mod [] H T:=(mG.trans mC).trans mCT
 have kcT:=(mT.bk (n:=c+0) (by omega) (fun hn=>by have:=hfl _ hn; omega)).trans kc2
 have ksT:=(mT.bk (n:=s+0) (by omega) (fun hn=>by have:=hfl _ hn; omega)).trans kS2
 have o2T:OwnG N2 T v2 rvs2 R:=o2S.of mT.next fun n hN hn _=>mT.get n hn (fun h=>by have:=hfl n h; omega)
 have hd2:=draw_c T (t.mod0 mHT) f pv' bv' (hfC.mod0 mCT) bd okT
 rw[ep',eb']at hd2
 unfold frL at hd2
 have q4:c+0<tn:=by omega
 rw[show T=ext T [] from rfl]
 simp only[htn,q4,kcT,qk_old,ruW,Nat.reduceLeDiff,xF,ruU,Nat.reduceLT,Nat.reduceAdd,Nat.reduceEqDiff]
 refine CallA.mono (show CallA Tryd.prog 9 _ (ext T []) _ from hd2) ?_
 rintro out U hU
 obtain⟨mU,N3,v3,rvs3,hN3,o3,rfl,hl3,hw3⟩:=hU.see
 rw[hR]at o3 hl3 hw3
 rw[hrr,hrc2,hre]
 obtain⟨gu,gv,ev3⟩:=o3.grid.sl
 obtain⟨u,hun⟩:∃ c,U.next=c:=⟨_,rfl⟩
 have okU:=mU.ok okT
 have ub:U.base<=u:=hun▸okU
 have tu:tn<=u:=by have:=mU.next; omega
 have scv3:scb u v3=true:=by
  rcases o3.at_ with⟨_,e⟩|⟨m,s',c',o,e,_,_,hlt,_⟩
  ·rw[e]; rfl
  ·rw[e]; exact blt_of (hun▸hlt)
 obtain⟨U2,hU2⟩:=Go.Ax.exq (ext U [⟨31,false,[v3,.int .i64 rr,.int .i64 rc2]⟩])
 have m5:Mod [] U U2:=hU2▸Mod.ext okU
 have nU2:U2.next=u+1:=by rw[<-hU2,ext_next,hun]; rfl
 have ok5:=m5.ok okU
 have kU2:bk U2 (u+0)=some ⟨31,false,[v3,.int .i64 rr,.int .i64 rc2]⟩:=by rw[<-hU2,bk_at hun (by simp)]; rfl
 have mTU2:=mU.trans m5
 have o3U:OwnG N3 U2 v3 rvs3 R:=o3.of m5.next fun n _ hn _=>m5.get n hn (by simp)
 have o2U:OwnG N2 U2 v2 rvs2 R:=o2T.of mTU2.next fun n _ hn _=>mTU2.get n hn (by simp)
 have ks2:=(mTU2.bk (n:=s+0) (by omega) (by simp)).trans ksT
 have hs2:=sameScreens_c U2 v3 v2 R R rr rc2 rr rc2 o3U.grid o2U.grid (by omega) (fun l hl=>by have:=hw1 l hl; omega)
 rw[hdt]at hs2
 rw[ev3]at scv3 hU2 kU2 hs2 ⊢
 rw[ev2]at hs2
 have r2:s+0<u+1:=by omega
 rw[show U=ext U [] from rfl]
 simp only[hun,ub,scv3,z31,ruW,putL,Nat.reduceLeDiff,xF,ruU,Nat.reduceLT,Nat.reduceAdd,Nat.reduceEqDiff]
 rw[hU2,show U2=ext U2 [] from rfl]
 try simp only[nU2,r2,ks2,qk_old,ruW,Nat.reduceLeDiff,xF,ruU,Nat.reduceLT,Nat.reduceAdd,Nat.reduceEqDiff]
 refine CallS.to (show Pure 11 _ (ext U2 []) _ from hs2) ?_
 simp only[ruW,xF,ruU,Nat.reduceLT,Nat.reduceEqDiff]
 refine CallS.to (show Pure 7 _ (ext U2 []) _ from awake_c U2) ?_
 simp only[Tryd.results3,ruW,ruU,Nat.reduceLT,Nat.reduceEqDiff]
 exact⟨trivial,mHT.trans mTU2⟩
open Go.ChangeShapes Go.WideShapes Go.ChangeAt Go.RowKit Go.Ax
section
variable {P : Program} {w : World} {r : Reach} {base : Nat}
theorem ok_int {t:TypeId} {v:Value} (ht:P.underlying t=some (.int .i64)) (h:Value.okWide P w r base t v):∃ n,v=.int .i64 n:=by
 unfold Value.okWide at h
 rw[ht]at h
 unfold Cell.okWide Cell.ok at h
 cases v<;>simp[ht]at h
 exact⟨_,by rw[h.1]⟩
theorem ok_string {t:TypeId} {v:Value} (ht:P.underlying t=some .string) (h:Value.okWide P w r base t v):∃ s,v=.string s:=by
 unfold Value.okWide at h
 rw[ht]at h
 unfold Cell.okWide Cell.ok at h
 cases v<;>simp[ht]at h
 exact⟨_,rfl⟩
end
theorem trodAll_carry {K:Type} {enc:TypeId × Value->K} {P:Program} (hl:laidOutB P=true) {W W':World} (hb:Below W.heap.size W W'):∀ {ts:List TypeId} {vs:List Value} {ds:List (DataW K)} {ps:List MemPlace},
  (ts.all fun t=>P.readableRec t&&Nat.blt t P.types.size)=true->DataW.TrodAll enc P W 0 (fun _=>true) true ts vs ds ps->(∀ x∈ps,x.block<W.heap.size)->DataW.TrodAll enc P W' 0 (fun b=>decide (b<W.heap.size)) true ts vs ds ps
 |[],[],[],ps,_,h,_=>h
 |t::ts,v::vs,d::ds,ps,ht,h,hp=>by
  obtain⟨p,q,h1,h2,rfl⟩:=h
  simp only[List.all_cons,zA4]at ht
  exact⟨p,q,Below.trod hl ht.1.1 (blt_lt ht.1.2) h1 hb (fun x hx=>hp x (by simp[hx])),trodAll_carry hl hb (by simpa using ht.2) h2 (fun x hx=>hp x (by simp[hx])),rfl⟩
theorem Tryd.own:ownKnob Tryd.prog.godebug=none:=by kernel_rfl
theorem Tryd.laidOut:laidOutB Tryd.prog=true:=by kernel_rfl
theorem u3:Tryd.prog.underlying 3=some (.int .i64):=by kernel_rfl
def Laid (w:World) (e1 e2:TypeId):Prop:=(∃ c,w.heap[0]?=some (.cells c e1 (0,0))/\c.toList=dc fstD)/\∃ c,w.heap[1]?=some (.cells c e2 (0,0))/\c.toList=dc accD
theorem bk_put_eq {H:AHeap} {g:Nat} {e:TypeId} {vs:List Value}:bk (H.put g (some (tabO e vs))) g=some ⟨e,false,vs⟩:=by
 refine blk_bk ⟨RV.ofList vs,?_,RV.n_ofList _,fun i hi=>?_⟩
 ·simp only[cellsAt,AHeap.get_put,if_true,tabO]
 ·rw[RV.get_ofList]
open Go.ChangeShapes Go.WideShapes Go.ChangeAt Go.RowKit Go.Ax
theorem tabs_laidD {w:World} (h:laidMet Tryd.prog Rows.frameDrawRow.laid w):∃ e1 e2,Laid w e1 e2:=by
 obtain⟨c1,t1,a1,b1⟩:=laid_tab h (name := "unicode/utf8.first") (d:=fstD) (.tail _ (.tail _ (.tail _ (.tail _ (.head _))))) (g:=0) (t:=138) (e:=5) (ts:=[5]) (D:=1000) (n:=256) (by kernel_rfl) (by kernel_rfl) (by kernel_rfl) (by kernel_rfl) (by kernel_rfl) (by kernel_rfl) (by kernel_rfl) (blt_lt (by kernel_rfl))
 obtain⟨c2,t2,a2,b2⟩:=laid_tab h (name := "unicode/utf8.acceptRanges") (d:=accD) (.tail _ (.tail _ (.tail _ (.head _)))) (g:=1) (t:=141) (e:=140) (ts:=[5,5]) (D:=1000) (n:=16) (by kernel_rfl) (by kernel_rfl) (by kernel_rfl) (by kernel_rfl) (by kernel_rfl) (by kernel_rfl) (by kernel_rfl) (blt_lt (by kernel_rfl))
 exact⟨t1,t2,⟨c1,a1,b1⟩,c2,a2,b2⟩
theorem Laid.ro {W:World} {e1 e2:TypeId} (hl:Laid W e1 e2):∃ ρ H,Ro Tryd.prog ρ H W/\Tab H/\1<H.next:=by
 have h2:2<=Tryd.prog.globals.size:=zB1 (by kernel_rfl)
 obtain⟨N,hN⟩:=Go.Ax.exq Tryd.prog.globals.size
 rw[hN]at h2
 have r:Rel Tryd.prog (enR N 0 0) (AHeap.none (N+1)) W:=⟨zA6 _,⟨by rw[hN]; exact Nat.le_succ N,fun g hg=>by
   have:g≠N:=by omega
   exact⟨if_neg this,if_neg this⟩⟩,fun m _ hm=>absurd (none_get _ m) hm,fun n o ho=>(by rw[none_get]at ho; cases ho),fun n o ho=>(by rw[none_get]at ho; cases ho)⟩
 obtain⟨⟨c1,a1,b1⟩,c2,a2,b2⟩:=hl
 have r1:=rel_tab r (g:=0) (by omega) rfl (fun n h1 h2=>absurd (none_get _ n) h1) a1 b1 (by kernel_rfl)
 have r2:=rel_tab r1 (g:=1) (by omega) rfl (fun n h1 h3=>by
  rw[AHeap.get_put]at h1
  by_cases e:n=0
  ·subst e
   rw[show (enR N 0 0).blk 0=0 from if_neg (by omega)]at h3
   exact absurd h3 (by decide)
  ·rw[if_neg e]at h1; exact absurd (none_get _ n) h1) a2 b2 (by kernel_rfl)
 refine⟨_,_,⟨r2,rfl,rfl,fun n hn=>.inr ?_⟩,⟨e1,e2,?_,bk_put_eq⟩,by show 1<N+1; omega⟩
 ·rw[AHeap.get_put,AHeap.get_put]at hn
  by_cases h1:n=1
  ·subst h1
   refine⟨by omega,c2,e2,a2,fun v hv=>?_⟩
   rw[b2]at hv
   exact zD1.1 (show (dc accD).all isU8=true by kernel_rfl) v hv
  ·rw[if_neg h1]at hn
   by_cases h0:n=0
   ·subst h0
    refine⟨by omega,c1,e1,a1,fun v hv=>?_⟩
    rw[b1]at hv
    exact zD1.1 (show (dc fstD).all isU8=true by kernel_rfl) v hv
   ·rw[if_neg h0]at hn
    exact absurd (none_get _ n) hn
 ·rw[bk_get (G:=(AHeap.none (N+1)).put 0 (some (tabO e1 (dc fstD)))) (by rw[AHeap.get_put,if_neg (by decide)])]
  exact bk_put_eq
section
variable {W : World} {ρ : Ren} {H : AHeap}
theorem slAt_sc (R:Rel Tryd.prog ρ H W) {sz len:Nat} {u:Value} {vs:List Value} (h:SlAt H sz u vs len):scbL H.next vs=true:=by
 obtain⟨h1,a,c,rfl,h0|⟨n,e,rfl,hn,hb,hc⟩⟩:=h
 ·subst h0
  rw[zE5]at h1
  rw[zD7 h1]
  rfl
 ·exact R.rk_sc hb
theorem its_rd (R:Rel Tryd.prog ρ H W) {α:Type} {A A':List Value->α->Prop} {sz:Nat} {u:Value} {l:List α} (h:ItemsAt H sz A u l) (hA:∀ cs a,scbL H.next cs=true->A cs a->A' cs a):ItR H sz A' u l:=by
 obtain⟨vs,h1,h2⟩:=h
 exact⟨vs,SlAt.rdF h1,fun i a hi=>hA _ _ (scbL_sub (slAt_sc R h1) fun v hv=>List.mem_of_mem_drop (List.mem_of_mem_take hv)) (h2 i a hi)⟩
theorem rw_rd {cs:List Value} {r:Rw} (hs:scbL H.next cs=true) (h:RwAt H cs r):RwC H cs r:=by
 obtain⟨cv,pv,rfl,h1,h2,_⟩:=h
 exact⟨cv,pv,rfl,SlAt.rdF h1,SlAt.rdF h2,scbL_mem hs (by simp),scbL_mem hs (by simp)⟩
theorem pn_rd (R:Rel Tryd.prog ρ H W) {cs:List Value} {p:Pn} (hs:scbL H.next cs=true) (h:PnAt H cs p):PnC false H cs p:=by
 obtain⟨rv,rfl,h1,_⟩:=h
 exact⟨rv,rfl,its_rd R h1 fun _ _=>rw_rd,scbL_mem hs (by simp),fun h=>by cases h⟩
theorem items_mem {α:Type} {sz:Nat} {A:List Value->α->Prop} {u:Value} {l:List α} (h:ItemsAt H sz A u l) {a:α} (ha:a∈l):∃ cs,A cs a:=by
 obtain⟨vs,h1,h2⟩:=h
 obtain⟨i,hi⟩:=List.getElem?_of_mem ha
 exact⟨_,h2 i a hi⟩
theorem fr_rd (R:Rel Tryd.prog ρ H W) {cs:List Value} {f:Fr} (hs:scbL H.next cs=true) (h:FrAt H cs f):∃ pv bv,cs=frL pv bv f/\FrR false H pv bv f/\∀ p∈f.panes,∀ r∈p.rows,r.pos.length<=17592186043904:=by
 obtain⟨pv,bv,rfl,h1,h2⟩:=h
 refine⟨pv,bv,rfl,⟨its_rd R h1 fun _ _ hc=>pn_rd R hc,its_rd R h2 fun _ _ _ h=>h,scbL_mem hs (by simp),scbL_mem hs (by simp)⟩,fun p hp r hr=>?_⟩
 obtain⟨_,_,_,h3,_⟩:=items_mem h1 hp
 obtain⟨_,_,_,_,_,_,h4⟩:=items_mem h3 hr
 exact h4
end
end Go.Proofs.YtfpckllenkifkaaDoor
