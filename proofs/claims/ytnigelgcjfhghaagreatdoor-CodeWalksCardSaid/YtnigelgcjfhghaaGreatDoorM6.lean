/- Parts of the proof, one behind the other. -/
import Derived.Test.YtnigelgcjfhghaaGreatDoorM5
import Derived.Test.YtnigelgcjfhghaaGreatDoorM4
import Derived.Test.YtnigelgcjfhghaaGreatDoorM3
set_option linter.all false
set_option maxRecDepth 10000
set_option maxHeartbeats 16000000
open And renaming intro -> zA0
open Option renaming bind_eq_bind -> zA1, bind_eq_some_iff -> zA2, bind_some -> zA3, map_some -> zA6, map_eq_some_iff -> zB2
open List renaming mem_singleton -> zA4, getElem?_eq_getElem -> zA5, length_cons -> zA8, getD_eq_getElem?_getD -> zA9, mem_cons -> zB0, map_cons -> zB4, mem_append -> zB7, mem_cons_self -> zB8, mem_cons_of_mem -> zB9, length_nil -> zC5, length_append -> zC6, length_singleton -> zC7, length_map -> zC8, flatMap_cons -> zD1, all_eq_true -> zD4, mem_map -> zD5, nil_append -> zD6, getElem?_cons_succ -> zD7, length_take -> zE1, append_nil -> zE2, getElem?_eq_none -> zE3, not_mem_nil -> zE4, getElem?_map -> zE5, getElem?_eq_some_iff -> zE6, eq_nil_of_length_eq_zero -> zE7, take_of_length_le -> zE8, getElem?_cons_zero -> zE9, drop_zero -> zF0, mem_of_getElem? -> zF2, map_nil -> zF3, getElem_mem -> zF4, map_append -> zF5
open Bool renaming and_eq_true -> zA7, false_eq_true -> zC1, and_self -> zC9, or_eq_false_iff -> zF6
open Nat renaming le_refl -> zB1, le_of_ble_eq_true -> zB3, zero_le -> zC0, le_trans -> zC2, zero_add -> zC3, lt_succ_self -> zC4, mul_one -> zD0, lt_of_lt_of_le -> zD2, lt_or_ge -> zD3, eq_of_beq_eq_true -> zD8, ble_eq -> zD9, add_zero -> zE0, le_of_eq -> zF1
open Int renaming toNat_natCast -> zB5, cast_ofNat_Int -> zB6

namespace Go.Proofs.YtnigelgcjfhghaaGreatDoor
open Go.Ax
set_option maxRecDepth 100000
theorem after102_c (H:AHeap) (pos:Int) (op:Nat) (av:Value) (args:List Int) (s:St) (fv:Value) (hop:op<28) (ha:RdAt H 1 av (iv args) args.length) (hal:args.length<=1000000) (h0:op=4\/op=9->0<args.length/\0<=args.getD 0 0/\args.getD 0 0<=65535) (h8:op=8->0<args.length/\0<=args.getD 0 0/\args.getD 0 0<=65535)
  (hf:FrAt 176 H fv s.fs) (hfl:s.fs.length<=1000000) (hne:op=19\/op=20->s.fs≠[]) (hh:-1000000000<=s.h/\s.h<=1000000000) (hb9:-1000000000<=s.b/\s.b<=1000000000) (hok:H.base<=H.next) (sav:scb H.next av=true) :
  CallA Tryz.prog 102 [.agg ⟨[.int .i64 pos,.int .i64 (op:Int),av]⟩,stC s fv] H (fun out X=>∃ v1 v2,out=.ok (.tuple #[stC (aftR op args s).1 v1,stC (aftR op args s).2 v2])/\FrAt 176 X v1 (aftR op args s).1.fs/\FrAt 176 X v2 (aftR op args s).2.fs/\Mod [] H X):=by
 obtain⟨b,hb⟩:=Go.Ax.exq H.next
 have hbase:H.base<=b:=hb▸hok
 obtain⟨a0,c0,e0⟩:=ha.sl
 obtain⟨f0,fc,ef⟩:=hf.sl
 have sfv:=hf.sc
 rw[hb,e0]at sav
 rw[hb,ef]at sfv
 have sfv1:=scb_mono (show b<=b+1 by omega) _ sfv
 have hT:∀ i:Decidable True,@decide True i=true:=fun i=>by simp
 have hF:∀ i:Decidable False,@decide False i=false:=fun i=>by simp
 refine callE_fn mixed Tryz.func102 rfl Tryz.ntmps102 (zB3 rfl) ?_
 rw[e0,ef]
 unfold stC
 simp only[hb,sav,sfv1,ruW,Nat.reduceLeDiff,xF,ruU,entryE,Nat.reduceLT,Nat.reduceAdd,Nat.reduceEqDiff]
 generalize hX:ext H _=X
 have mX:Mod [] H X:=hX▸Mod.ext hok
 have nX:X.next=b+4:=by rw[<-hX,ext_next,hb]; rfl
 have k0:bk X (b+0)=some ⟨59,false,[.int .i64 pos,.int .i64 (op:Int),.slice a0 args.length c0]⟩:=by rw[<-hX,bk_at hb (by simp)]; rfl
 have k1:bk X (b+1)=some ⟨93,false,[.int .i64 s.h,.int .i64 s.b,.slice f0 s.fs.length fc]⟩:=by rw[<-hX,bk_at hb (by simp)]; rfl
 have k2:bk X (b+2)=some ⟨93,false,[.int .i64 0,.int .i64 0,.slice none 0 0]⟩:=by rw[<-hX,bk_at hb (by simp)]; rfl
 have k3:bk X (b+3)=some ⟨93,false,[.int .i64 0,.int .i64 0,.slice none 0 0]⟩:=by rw[<-hX,bk_at hb (by simp)]; rfl
 clear hX
 have okX:=mX.ok hok
 have haX:=ha.mod0 mX
 have hfX:=hf.mod0 mX
 rw[e0]at haX
 obtain⟨pq,hpq⟩:=Go.Ax.exq (effR op args)
 have hbd:=eff_bd op args h0
 rw[show X=ext X [] from rfl]
 refine (eff124_c (ext X []) pos op (.slice a0 args.length c0) args hop haX h0).to ?_
 rw[hpq]at hbd ⊢
 obtain⟨p,q⟩:=pq
 simp only at hbd ⊢
 have hw1:IntKind.i64.wrap (q-p)=q-p:=wrap_sm (by omega) (by omega)
 have hw2:IntKind.i64.wrap (s.h+(q-p))=s.h-p+q:=(wrap_sm (by omega) (by omega)).trans (by omega)
 obtain⟨h',hh'⟩:∃ h',s.h-p+q=h':=⟨_,rfl⟩
 rw[hh']at hw2
 obtain⟨x,hx⟩:=Go.Ax.exq X.next
 have hxb:b+4=x:=nX.symm.trans hx
 have xb:X.base<=x:=hx▸okX
 have l0:b+0<x:=by omega
 have l1:b+1<x:=by omega
 have l2:b+2<x:=by omega
 have l3:b+3<x:=by omega
 have sf4:=scb_mono (show b<=x+1 by omega) _ sfv
 have sf5:=scb_mono (show b<=x+0 by omega) _ sfv
 simp only[hx,xb,k1,l1,hw1,hw2,sf4,qk_old,ruW,putL,Nat.reduceLeDiff,xF,ruU,Nat.reduceLT,Nat.reduceAdd,Nat.reduceEqDiff]
 generalize hY0:ext _ _=Y0
 have hxu:(uw X (b+1) 0 [.int .i64 h']).next=x:=by rw[uw_next,hx]
 have m0:Mod [b+1] X Y0:=hY0▸(Mod.uw (by simp)).trans (Mod.ext (by rw[uw_base,uw_next]; exact okX))
 have n0:Y0.next=x+1:=by rw[<-hY0,ext_next,hxu]; rfl
 have q4:bk Y0 (x+0)=some ⟨93,false,[.int .i64 s.h,.int .i64 s.b,.slice f0 s.fs.length fc]⟩:=by rw[<-hY0,bk_at hxu (by simp)]; rfl
 have q1:bk Y0 (b+1)=some ⟨93,false,[.int .i64 h',.int .i64 s.b,.slice f0 s.fs.length fc]⟩:=by rw[<-hY0,bk_old (by rw[hxu]; exact l1),bk_uw_eq,k1]; rfl
 have hb1:∀ i,i<4->i≠1->b+i∉[b+1]:=fun i h1 h2 h=>by simp only[zA4]at h; omega
 have q0:=(m0.bk (n:=b+0) (by omega) (hb1 0 (by decide) (by decide))).trans k0
 have q2:=(m0.bk (n:=b+2) (by omega) (hb1 2 (by decide) (by decide))).trans k2
 have q3:=(m0.bk (n:=b+3) (by omega) (hb1 3 (by decide) (by decide))).trans k3
 clear hY0 k0 k1 k2 k3
 have ok0:=m0.ok okX
 obtain⟨y,hy⟩:=Go.Ax.exq Y0.next
 have hyx:x+1=y:=n0.symm.trans hy
 have yb0:Y0.base<=y:=hy▸ok0
 have j0:b+0<y:=by omega
 have j1:b+1<y:=by omega
 have j2:b+2<y:=by omega
 have j3:b+3<y:=by omega
 have j4:x+0<y:=by omega
 have syv:=scb_mono (show b<=y by omega) _ sfv
 have syw:=scb_mono (show b<=y+0 by omega) _ sfv
 rw[show Y0=ext Y0 [] from rfl]
 refine w_drawB [(2,0),(3,1),(3,0),(3,2)] [] (by kernel_rfl) (by kernel_rfl) rfl fun ops anc hA hG=>?_
 simp only[all2_cons]at hA
 generalize hc:Code.seq (Code.region 5 _ _) _=code
 simp only[hy,q1,q2,q3,j1,j2,j3,syw,hA,qk_old,ruD,ruW,putL,Nat.reduceLeDiff,xF,ruU,Nat.reduceLT,Nat.reduceAdd,Nat.reduceEqDiff]
 subst hc
 rw[ext_nil]
 refine w_env fun E hE=>?_
 have g2:E 2=.pointer (some ⟨b+0,0,none⟩):=by rw[hE]; rfl
 have g3:E 3=.pointer (some ⟨b+1,0,none⟩):=by rw[hE]; rfl
 have g4:E 4=.pointer (some ⟨b+2,0,none⟩):=by rw[hE]; rfl
 have g5:E 5=.pointer (some ⟨b+3,0,none⟩):=by rw[hE]; rfl
 have g8:E 8=.pointer (some ⟨x+0,0,none⟩):=by rw[hE]; rfl
 clear hE
 generalize hY:uw (uw Y0 _ _ _) _ _ _=Y
 have mY1:Mod [b+2,b+3] Y0 Y:=hY▸(Mod.uw (by simp)).trans (Mod.uw (by simp))
 have nY:Y.next=y:=by rw[<-hY,uw_next,uw_next,hy]
 have h23:b+2≠b+3:=by omega
 have k2:bk Y (b+2)=some ⟨93,false,[.int .i64 h',.int .i64 s.b,.slice f0 s.fs.length fc]⟩:=by rw[<-hY,bk_uw_ne h23,bk_uw_eq,q2]; rfl
 have k3:bk Y (b+3)=some ⟨93,false,[.int .i64 h',.int .i64 s.b,.slice f0 s.fs.length fc]⟩:=by rw[<-hY,bk_uw_eq,bk_uw_ne h23.symm,q3]; rfl
 have hb23:∀ n,n<b+2\/b+4<=n->n∉[b+2,b+3]:=fun n h hn=>by simp only[zB0,zE4,or_false]at hn; omega
 have k0:=(mY1.bk (by omega) (hb23 (b+0) (by omega))).trans q0
 have k1:=(mY1.bk (by omega) (hb23 (b+1) (by omega))).trans q1
 have k4:=(mY1.bk (by omega) (hb23 (x+0) (by omega))).trans q4
 clear hY q0 q1 q2 q3 q4 yb0
 have okY:=mY1.ok ok0
 replace hy:=nY
 have yb:Y.base<=y:=hy▸okY
 have mXY:Mod [b+1,b+2,b+3] X Y:=(m0.mono (by simp)).trans (mY1.mono (by simp))
 have mY:Mod [] H Y:=mX.step mXY hok fun n hn=>.inr (by simp only[zB0,zE4,or_false]at hn; omega)
 have hlow:∀ n,n<b->n∉[b+1,b+2,b+3]:=fun n h hn=>by simp only[zB0,zE4,or_false]at hn; omega
 have haY:=ha.mod0 mY
 have hfY:=hf.mod0 mY
 rw[e0]at haY
 rw[ef]at hfY hfX hf
 have dn:∀ i j,i<4->j<4->i≠j->(b+i=b+j)=False:=fun i j _ _ h=>eq_false (by omega)
 have hwh:IntKind.i64.wrap (h'+1)=h'+1:=wrap_sm (by omega) (by omega)
 have hwb:IntKind.i64.wrap (s.b+1)=s.b+1:=wrap_sm (by omega) (by omega)
 have hfid:∀ n∈idsV (.slice f0 s.fs.length fc),n<b\/y<=n:=fun n hn=>.inl (by have:=(hf.ne n hn).2; omega)
 have fin2:∀ Z F,Mod [] Y Z->Mod [b+2,b+3] Z F->(∀ v fs,FrAt 176 Z v fs->(∀ n∈idsV v,n<b\/y<=n)->FrAt 176 F v fs)/\Mod [] H F:=fun Z F mZ mF=>⟨fun v fs hv hi=>hv.mod mF fun n hn=>by
  have:=hi n hn
  simp only[zB0,zE4,or_false]
  omega,(mY.trans mZ).step mF hok fun n hn=>.inr (by simp only[zB0,zE4,or_false]at hn; omega)⟩
 rw[show Y=ext Y [] from rfl]
 by_cases hA:op=13\/op=14
 ·have haft:aftR op args s=(⟨h',s.b,s.fs⟩,⟨s.h,s.b,s.fs⟩):=by
   unfold aftR
   rw[hpq,if_pos hA]
   simp only[hh']
  rw[haft]
  rcases hA with rfl|rfl
  all_goals
   simp only[zB6]at k0
   simp only[Int.reduceEq,hy,k0,k3,k4,j0,j3,j4,g2,g5,g8,hT,hF,not_false_eq_true,syw,qk_old,ruW,putL,Nat.reduceLeDiff,xF,ruU,Nat.reduceLT,Nat.reduceAdd,Nat.reduceEqDiff]
   refine w_drawB [(2,0),(3,1),(3,0),(3,2)] [] (by kernel_rfl) (by kernel_rfl) rfl fun ops anc hA hG=>?_
   simp only[all2_cons]at hA
   simp only[hy,k2,k3,j2,j3,g4,g5,hA,dn,not_false_eq_true,syw,qk_old,Tryz.results102,ruD,ruW,putL,Nat.reduceLeDiff,xF,ruU,Nat.reduceLT,Nat.reduceAdd,Nat.reduceEqDiff]
   rw[ext_nil]
   refine (fun hm=>⟨_,_,rfl,(fin2 Y _ Mod.refl hm).1 _ _ hfY hfid,(fin2 Y _ Mod.refl hm).1 _ _ hfY hfid,(fin2 Y _ Mod.refl hm).2⟩) ?_
   exact ((Mod.uw (by simp)).trans (Mod.uw (by simp))).trans (Mod.uw (by simp))
 by_cases h7:op=7
 ·subst h7
  have haft:aftR 7 args s=(⟨h',s.b+1,s.fs⟩,⟨h',s.b,s.fs⟩):=by
   unfold aftR
   rw[hpq,if_neg (by omega),if_pos rfl]
   simp only[hh']
  rw[haft]
  ·simp only[zB6]at k0
   simp only[Int.reduceEq,hy,k0,k2,j0,j2,g2,g4,hT,hF,not_false_eq_true,hwb,qk_old,ruW,putL,Nat.reduceLeDiff,xF,ruU,Nat.reduceLT,Nat.reduceAdd,Nat.reduceEqDiff]
   refine w_drawB [(2,0),(3,1),(3,0),(3,2)] [] (by kernel_rfl) (by kernel_rfl) rfl fun ops anc hA hG=>?_
   simp only[all2_cons]at hA
   simp only[hy,k2,k3,j2,j3,g4,g5,hA,dn,not_false_eq_true,syw,qk_old,Tryz.results102,ruD,ruW,putL,Nat.reduceLeDiff,xF,ruU,Nat.reduceLT,Nat.reduceAdd,Nat.reduceEqDiff]
   rw[ext_nil]
   refine (fun hm=>⟨_,_,rfl,(fin2 Y _ Mod.refl hm).1 _ _ hfY hfid,(fin2 Y _ Mod.refl hm).1 _ _ hfY hfid,(fin2 Y _ Mod.refl hm).2⟩) ?_
   exact ((Mod.uw (by simp)).trans (Mod.uw (by simp))).trans (Mod.uw (by simp))
 by_cases c8:op=8
 ·subst c8
  obtain⟨hl,hx0,hx1⟩:=h8 rfl
  obtain⟨n,off,sp,c,e,o,M,e2,n1,r1,m1⟩:=haY.one hl
  have e3:=e2
  simp only[Value.slice.injEq]at e3
  obtain⟨rfl,-,rfl⟩:=e3
  rw[iv_get,zA5 hl,zA6]at m1
  have hg:args.getD 0 0=args[0]:=by rw[zA9,zA5 hl]; rfl
  have i1:aIndexAddr Tryz.prog 35 (.slice (some ⟨n,off,sp⟩) args.length c0) (.int .i64 0)=some (.pointer (some ⟨n,off+0,none⟩)):=ia_of (i:=0) u35 s3 hl
  rw[hy]at n1
  rw[hg]at hx0 hx1
  have hw:IntKind.i64.wrap (s.b-args[0])=s.b-args[0]:=wrap_sm (by omega) (by omega)
  have haft:aftR 8 args s=(⟨h',s.b-args[0],s.fs⟩,⟨h',s.b,s.fs⟩):=by
   unfold aftR
   rw[hpq,if_neg (by omega),if_neg (by omega),if_pos rfl,hg]
   simp only[hh']
  rw[haft]
  ·simp only[zB6]at k0
   simp only[Int.reduceEq,hy,k0,j0,g2,hT,hF,not_false_eq_true,qk_old,ruW,xF,ruU,Nat.reduceLT,Nat.reduceAdd,Nat.reduceEqDiff]
   refine w_drawB [(8,0),(8,1),(8,2),(8,3),(8,4),(8,5),(8,6),(8,7)] [] (by kernel_rfl) (by kernel_rfl) rfl fun ops anc hA hG=>?_
   simp only[all2_cons]at hA
   simp only[hy,k0,k2,j0,j2,g2,g4,not_false_eq_true,i1,n1,r1,m1,hw,hA,qk_old,ruD,ruW,putL,Nat.reduceLeDiff,xF,ruU,Nat.reduceLT,Nat.reduceAdd,Nat.reduceEqDiff]
   refine w_drawB [(2,0),(3,1),(3,0),(3,2)] [] (by kernel_rfl) (by kernel_rfl) rfl fun ops anc hA hG=>?_
   simp only[all2_cons]at hA
   simp only[hy,k2,k3,j2,j3,g4,g5,hA,dn,not_false_eq_true,syw,qk_old,Tryz.results102,ruD,ruW,putL,Nat.reduceLeDiff,xF,ruU,Nat.reduceLT,Nat.reduceAdd,Nat.reduceEqDiff]
   rw[ext_nil]
   refine (fun hm=>⟨_,_,rfl,(fin2 Y _ Mod.refl hm).1 _ _ hfY hfid,(fin2 Y _ Mod.refl hm).1 _ _ hfY hfid,(fin2 Y _ Mod.refl hm).2⟩) ?_
   exact ((Mod.uw (by simp)).trans (Mod.uw (by simp))).trans (Mod.uw (by simp))
 have hopen:=fun (G:AHeap) (k:Int) (hG:FrAt 176 G (.slice f0 s.fs.length fc) s.fs) (okG:G.base<=G.next)=>open129_c G ⟨h',s.b,s.fs⟩ (.slice f0 s.fs.length fc) k hG hfl okG
 simp only[stC]at hopen
 by_cases hD:op=16\/op=17
 ·obtain⟨f,hf'⟩:∃ f:Fr,f=⟨(op:Int),h',s.b⟩:=⟨_,rfl⟩
  have haft:aftR op args s=(⟨h',s.b,s.fs++[f]⟩,⟨h'+1,s.b,s.fs⟩):=by
   unfold aftR
   rw[hpq,if_neg (by omega),if_neg (by omega),if_neg (by omega),if_pos (by omega)]
   simp only[hh',hf']
  rw[haft]
  have hcall:=hopen Y (op:Int) hfY okY
  rw[<-hf']at hcall
  rcases hD with rfl|rfl
  all_goals
   simp only[zB6]at k0 hcall
   simp only[Int.reduceEq,hy,k0,k1,j0,j1,g2,g3,hT,hF,not_false_eq_true,qk_old,ruW,Nat.reduceLeDiff,xF,ruU,Nat.reduceLT,Nat.reduceAdd,Nat.reduceEqDiff]
   rw[ext_nil]
   refine hcall.mono ?_
   rintro _ Z ⟨w,rfl,fw,mZ,hwlo⟩
   obtain⟨z,hz⟩:=Go.Ax.exq Z.next
   have okZ:=mZ.ok okY
   have lz:y<=z:=by have:=mZ.next; omega
   have hfZ:=hfY.mod0 mZ
   have hwid:∀ n∈idsV w,n<b\/y<=n:=fun n hn=>.inr (by have:=hwlo n hn; omega)
   have sw:=fw.sc
   obtain⟨wa,wc,ew⟩:=fw.sl
   rw[ew,hz]at sw
   rw[ew]at fw hwid
   have sw0:=scb_mono (show z<=z+0 by omega) _ sw
   have szw:=scb_mono (show b<=z+0 by omega) _ sfv
   replace k0:=(mZ.bk (by omega) (by simp)).trans k0
   replace k1:=(mZ.bk (by omega) (by simp)).trans k1
   replace k2:=(mZ.bk (by omega) (by simp)).trans k2
   replace k3:=(mZ.bk (by omega) (by simp)).trans k3
   replace k4:=(mZ.bk (by omega) (by simp)).trans k4
   replace j0:b+0<z:=by omega
   replace j1:b+1<z:=by omega
   replace j2:b+2<z:=by omega
   replace j3:b+3<z:=by omega
   replace j4:x+0<z:=by omega
   rw[ew]
   rw[show Z=ext Z [] from rfl]
   simp only[hz,k2,k3,j2,j3,g4,g5,dn,not_false_eq_true,sw0,hwh,qk_old,ruW,putL,Nat.reduceLeDiff,xF,ruU,Nat.reduceLT,Nat.reduceAdd,Nat.reduceEqDiff]
   refine w_drawB [(2,0),(3,1),(3,0),(3,2)] [] (by kernel_rfl) (by kernel_rfl) rfl fun ops anc hA hG=>?_
   simp only[all2_cons]at hA
   simp only[hz,k2,k3,j2,j3,g4,g5,hA,dn,not_false_eq_true,sw0,szw,qk_old,Tryz.results102,ruD,ruW,putL,Nat.reduceLeDiff,xF,ruU,Nat.reduceLT,Nat.reduceAdd,Nat.reduceEqDiff]
   rw[ext_nil]
   refine (fun hm=>⟨_,_,rfl,(fin2 Z _ mZ hm).1 _ _ fw hwid,(fin2 Z _ mZ hm).1 _ _ hfZ hfid,(fin2 Z _ mZ hm).2⟩) ?_
   exact (((Mod.uw (by simp)).trans (Mod.uw (by simp))).trans (Mod.uw (by simp))).trans (Mod.uw (by simp))
 by_cases hE:op=18
 ·obtain⟨f,hf'⟩:∃ f:Fr,f=⟨18,h',s.b⟩:=⟨_,rfl⟩
  obtain⟨g,hg'⟩:∃ g:Fr,g=⟨19,h',s.b⟩:=⟨_,rfl⟩
  subst hE
  have haft:aftR 18 args s=(⟨h',s.b,s.fs++[f]⟩,⟨h'+1,s.b,s.fs++[g]⟩):=by
   unfold aftR
   rw[hpq,if_neg (by omega),if_neg (by omega),if_neg (by omega),if_neg (by omega),if_pos rfl]
   simp only[hh',hf',hg']
  rw[haft]
  have hcall:=hopen Y 18 hfY okY
  rw[<-hf']at hcall
  simp only[zB6]at k0
  simp only[Int.reduceEq,hy,k0,k1,j0,j1,g2,g3,hT,hF,not_false_eq_true,qk_old,ruW,Nat.reduceLeDiff,xF,ruU,Nat.reduceLT,Nat.reduceAdd,Nat.reduceEqDiff]
  rw[ext_nil]
  refine hcall.mono ?_
  rintro _ Z ⟨w,rfl,fw,mZ,hwlo⟩
  obtain⟨z,hz⟩:=Go.Ax.exq Z.next
  have okZ:=mZ.ok okY
  have lz:y<=z:=by have:=mZ.next; omega
  have hfZ:=hfY.mod0 mZ
  have hwid:∀ n∈idsV w,n<b\/y<=n:=fun n hn=>.inr (by have:=hwlo n hn; omega)
  have sw:=fw.sc
  obtain⟨wa,wc,ew⟩:=fw.sl
  rw[ew,hz]at sw
  rw[ew]at fw hwid
  have sw0:=scb_mono (show z<=z+0 by omega) _ sw
  replace k0:=(mZ.bk (by omega) (by simp)).trans k0
  replace k1:=(mZ.bk (by omega) (by simp)).trans k1
  replace k2:=(mZ.bk (by omega) (by simp)).trans k2
  replace k3:=(mZ.bk (by omega) (by simp)).trans k3
  replace k4:=(mZ.bk (by omega) (by simp)).trans k4
  replace j0:b+0<z:=by omega
  replace j1:b+1<z:=by omega
  replace j2:b+2<z:=by omega
  replace j3:b+3<z:=by omega
  replace j4:x+0<z:=by omega
  rw[ew]
  rw[show Z=ext Z [] from rfl]
  simp only[hz,k1,k2,j1,j2,g3,g4,dn,not_false_eq_true,sw0,qk_old,ruW,putL,Nat.reduceLeDiff,xF,ruU,Nat.reduceLT,Nat.reduceAdd,Nat.reduceEqDiff]
  rw[ext_nil]
  obtain⟨U,hU⟩:=Go.Ax.exq (uw Z (b+2) 0 [.int .i64 h',.int .i64 s.b,.slice wa (s.fs++[f]).length wc])
  rw[hU]
  have mU:Mod [b+2] Z U:=hU▸Mod.uw (by simp)
  have nU:U.next=z:=by rw[<-hU,uw_next,hz]
  replace k2:bk U (b+2)=some ⟨93,false,[.int .i64 h',.int .i64 s.b,.slice wa (s.fs++[f]).length wc]⟩:=by rw[<-hU,bk_uw_eq,k2]; rfl
  have hb2:∀ n,n≠b+2->n∉[b+2]:=fun n h hn=>by simp only[zA4]at hn; exact h hn
  replace k0:=(mU.bk (by omega) (hb2 (b+0) (by omega))).trans k0
  replace k1:=(mU.bk (by omega) (hb2 (b+1) (by omega))).trans k1
  replace k3:=(mU.bk (by omega) (hb2 (b+3) (by omega))).trans k3
  replace k4:=(mU.bk (by omega) (hb2 (x+0) (by omega))).trans k4
  clear hU
  have hfU:=hfZ.mod mU fun n hn=>hb2 n (by have:=hfid n hn; omega)
  have fwU:=fw.mod mU fun n hn=>hb2 n (by have:=hwid n hn; omega)
  have okU:=mU.ok okZ
  have hcal2:=hopen U 19 hfU okU
  rw[<-hg']at hcal2
  refine hcal2.mono ?_
  rintro _ T ⟨r,rfl,fr,mT,hrlo⟩
  obtain⟨t,ht⟩:=Go.Ax.exq T.next
  have okT:=mT.ok okU
  have lt:z<=t:=by have:=mT.next; omega
  have fwT:=fwU.mod0 mT
  have hrid:∀ n∈idsV r,n<b\/y<=n:=fun n hn=>.inr (by have:=hrlo n hn; omega)
  have sr:=fr.sc
  obtain⟨ra,rc,er⟩:=fr.sl
  rw[er,ht]at sr
  rw[er]at fr hrid
  have sr0:=scb_mono (show t<=t+0 by omega) _ sr
  have sw2:=scb_mono (show z<=t+0 by omega) _ sw
  replace k0:=(mT.bk (by omega) (by simp)).trans k0
  replace k1:=(mT.bk (by omega) (by simp)).trans k1
  replace k2:=(mT.bk (by omega) (by simp)).trans k2
  replace k3:=(mT.bk (by omega) (by simp)).trans k3
  replace k4:=(mT.bk (by omega) (by simp)).trans k4
  replace j0:b+0<t:=by omega
  replace j1:b+1<t:=by omega
  replace j2:b+2<t:=by omega
  replace j3:b+3<t:=by omega
  replace j4:x+0<t:=by omega
  rw[er]
  rw[show T=ext T [] from rfl]
  simp only[ht,k3,j3,g5,not_false_eq_true,sr0,hwh,qk_old,ruW,putL,Nat.reduceLeDiff,xF,ruU,Nat.reduceLT,Nat.reduceAdd,Nat.reduceEqDiff]
  refine w_drawB [(2,0),(3,1),(3,0),(3,2)] [] (by kernel_rfl) (by kernel_rfl) rfl fun ops anc hA hG=>?_
  simp only[all2_cons]at hA
  simp only[ht,k2,k3,j2,j3,g4,g5,hA,dn,not_false_eq_true,sw2,sr0,qk_old,Tryz.results102,ruD,ruW,putL,Nat.reduceLeDiff,xF,ruU,Nat.reduceLT,Nat.reduceAdd,Nat.reduceEqDiff]
  rw[ext_nil]
  have mUT:Mod [b+2] Z T:=mU.trans (mT.mono (by simp))
  have fin3:∀ F,Mod [b+2,b+3] T F->(∀ v fs,FrAt 176 T v fs->(∀ n∈idsV v,n<b\/y<=n)->FrAt 176 F v fs)/\Mod [] H F:=fun F mF=>⟨fun v fs hv hi=>hv.mod mF fun n hn=>by
   have:=hi n hn
   simp only[zB0,zE4,or_false]
   omega,((mY.trans mZ).step mUT hok fun n hn=>.inr (by simp only[zA4]at hn; omega)).step mF hok fun n hn=>.inr (by simp only[zB0,zE4,or_false]at hn; omega)⟩
  refine (fun hm=>⟨_,_,rfl,(fin3 _ hm).1 _ _ fwT hwid,(fin3 _ hm).1 _ _ fr hrid,(fin3 _ hm).2⟩) ?_
  exact (((Mod.uw (by simp)).trans (Mod.uw (by simp))).trans (Mod.uw (by simp))).trans (Mod.uw (by simp))
 by_cases h19:op=19\/op=20
 ·have hne':=hne h19
  have hpos:0<s.fs.length:=List.length_pos_iff.2 hne'
  obtain⟨t,ht⟩:=Go.Ax.exq (topS s)
  have ht':topS ⟨h',s.b,s.fs⟩=t:=ht
  have hwl:IntKind.i64.wrap ((s.fs.length:Int)-1)=((s.fs.length-1:Nat):Int):=(wrap_sm (by omega) (by omega)).trans (by omega)
  obtain⟨ca,cc,fcut,cid,hcut⟩:=hfY.cut (st:=91) u91 s176 hne'
  have hdl:s.fs.dropLast.length=s.fs.length-1:=List.length_dropLast
  have hcid:∀ n∈idsV (.slice ca (s.fs.length-1) cc),n<b\/y<=n:=fun n hn=>hfid n (cid n hn)
  have scu:=fcut.sc
  rw[hy]at scu
  have scu0:=scb_mono (show y<=y+0 by omega) _ scu
  have scu1:=scb_mono (show y<=y+1 by omega) _ scu
  have hsl:∀ L,aSlice Tryz.prog (ext Y L) 91 (.slice f0 s.fs.length fc) none (some (.int .i64 ((s.fs.length-1:Nat):Int))) none=some (.slice ca (s.fs.length-1) cc,ext Y L):=fun L=>hcut _ fun n hn=>ext_get_old (hfY.ne n hn).2
  rcases h19 with rfl|rfl
  ·have haft:aftR 19 args s=(⟨h',s.b,if t.kind=18 then s.fs.dropLast++[⟨19,t.height,t.bound⟩] else s.fs.dropLast⟩,⟨h',s.b,s.fs⟩):=by
    unfold aftR
    rw[hpq,if_neg (by omega),if_neg (by omega),if_neg (by omega),if_neg (by omega),if_neg (by omega),if_pos rfl]
    simp only[hh',ht]
   rw[haft]
   have htc:=top127_c (ext Y []) ⟨h',s.b,s.fs⟩ (.slice f0 s.fs.length fc) hfY.rd hfl
   rw[ht']at htc
   simp only[stC,frV]at htc
   obtain⟨d18,hd18⟩:∃ d,decide (t.kind=18)=d:=⟨_,rfl⟩
   simp only[zB6]at k0
   simp only[Int.reduceEq,hy,k0,k1,j0,j1,g2,g3,hT,hF,not_false_eq_true,qk_old,ruW,Nat.reduceLeDiff,xF,ruU,Nat.reduceLT,Nat.reduceAdd,Nat.reduceEqDiff]
   refine htc.to ?_
   simp only[hy,yb,k1,k2,j1,j2,g3,g4,not_false_eq_true,hwl,hsl,scu1,hd18,qk_old,ruW,putL,Nat.reduceLeDiff,xF,ruU,Nat.reduceLT,Nat.reduceAdd,Nat.reduceEqDiff]
   obtain⟨U,hU⟩:=Go.Ax.exq (ext (uw Y (b+2) 2 [.slice ca (s.fs.length-1) cc]) [⟨176,false,[.int .i64 t.kind,.int .i64 t.height,.int .i64 t.bound]⟩])
   rw[hU]
   have hyu:(uw Y (b+2) 2 [.slice ca (s.fs.length-1) cc]).next=y:=by rw[uw_next,hy]
   have mU:Mod [b+2] Y U:=hU▸(Mod.uw (by simp)).trans (Mod.ext (by rw[uw_base,uw_next]; exact okY))
   have nU:U.next=y+1:=by rw[<-hU,ext_next,hyu]; rfl
   have u6:bk U (y+0)=some ⟨176,false,[.int .i64 t.kind,.int .i64 t.height,.int .i64 t.bound]⟩:=by rw[<-hU,bk_at hyu (by simp)]; rfl
   replace k2:bk U (b+2)=some ⟨93,false,[.int .i64 h',.int .i64 s.b,.slice ca (s.fs.length-1) cc]⟩:=by rw[<-hU,bk_old (by rw[hyu]; exact j2),bk_uw_eq,k2]; rfl
   have hb2:∀ n,n≠b+2->n∉[b+2]:=fun n h hn=>by simp only[zA4]at hn; exact h hn
   replace k0:=(mU.bk (by omega) (hb2 (b+0) (by omega))).trans k0
   replace k1:=(mU.bk (by omega) (hb2 (b+1) (by omega))).trans k1
   replace k3:=(mU.bk (by omega) (hb2 (b+3) (by omega))).trans k3
   replace k4:=(mU.bk (by omega) (hb2 (x+0) (by omega))).trans k4
   have hfU:=hfY.mod mU fun n hn=>hb2 n (by have:=hfid n hn; omega)
   have fcU:=fcut.mod mU fun n hn=>hb2 n (by have:=hcid n hn; omega)
   have okU:=mU.ok okY
   obtain⟨u,hu⟩:=Go.Ax.exq U.next
   clear hU
   have suw:=scb_mono (show b<=u+0 by omega) _ sfv
   have scw:=scb_mono (show y<=u+0 by omega) _ scu
   replace j0:b+0<u:=by omega
   replace j1:b+1<u:=by omega
   replace j2:b+2<u:=by omega
   replace j3:b+3<u:=by omega
   replace j4:x+0<u:=by omega
   have fin4:∀ Z F,Mod [] U Z->Mod [b+2,b+3] Z F->(∀ v fs,FrAt 176 Z v fs->(∀ n∈idsV v,n<b\/y<=n)->FrAt 176 F v fs)/\Mod [] H F:=fun Z F mZ mF=>⟨fun v fs hv hi=>hv.mod mF fun n hn=>by
    have:=hi n hn
    simp only[zB0,zE4,or_false]
    omega,((mY.step mU hok fun n hn=>.inr (by simp only[zA4]at hn; omega)).trans mZ).step mF hok fun n hn=>.inr (by simp only[zB0,zE4,or_false]at hn; omega)⟩
   rw[show U=ext U [] from rfl]
   cases d18 with
   |false =>
    rw[if_neg (of_decide_eq_false hd18)]
    simp only[ruW]
    refine w_drawB [(2,0),(3,1),(3,0),(3,2)] [] (by kernel_rfl) (by kernel_rfl) rfl fun ops anc hA hG=>?_
    simp only[all2_cons]at hA
    simp only[hu,k2,k3,j2,j3,g4,g5,hA,dn,not_false_eq_true,suw,scw,qk_old,Tryz.results102,ruD,ruW,putL,Nat.reduceLeDiff,xF,ruU,Nat.reduceLT,Nat.reduceAdd,Nat.reduceEqDiff]
    rw[ext_nil]
    refine (fun hm=>⟨_,_,rfl,(fin4 U _ Mod.refl hm).1 _ _ fcU hcid,(fin4 U _ Mod.refl hm).1 _ _ hfU hfid,(fin4 U _ Mod.refl hm).2⟩) ?_
    exact (Mod.uw (by simp)).trans (Mod.uw (by simp))
   |true =>
    rw[if_pos (of_decide_eq_true hd18)]
    simp only[ruW]
    refine w_drawB [(2,1),(9,2),(9,8),(9,1),(9,4),(9,6),(10,9),(10,8),(10,2),(11,9),(11,0),(11,1),(11,2),(11,3),(11,4),(11,5),(11,6),(11,7),(11,8)] [] (by kernel_rfl) (by kernel_rfl) rfl fun ops anc hA hG=>?_
    simp only[all2_cons]at hA
    simp only[hu,k2,j2,g4,not_false_eq_true,qk_old,ruD,ruW,xF,ruU,Nat.reduceLT,Nat.reduceAdd,Nat.reduceEqDiff]
    have hrn:=restrict_next U (idsV (.slice ca (s.fs.length-1) cc))
    have fcR:FrAt 176 (U.restrict (idsV (.slice ca (s.fs.length-1) cc))) (.slice ca (s.fs.length-1) cc) s.fs.dropLast:=fcU.of (by rw[hrn.1]; exact zB1 _) fun m hm=>by rw[restrict_get,if_pos hm]
    obtain⟨_,g,hc,w,rfl,cw,mg,hwlo⟩:=clone130_c (U.restrict (idsV (.slice ca (s.fs.length-1) cc))) (.slice ca (s.fs.length-1) cc) s.fs.dropLast fcR (by omega) (by rw[hrn.1,hrn.2.1]; exact zB1 _)
    rw[hrn.1]at hwlo
    refine genV_mod (W:=[]) (v:=w) (g:=g) (idsV (.slice ca (s.fs.length-1) cc)) okU rfl (by kernel_rfl) (fun n hn=>(fcU.ne n hn).1) (fun n hn=>(fcU.ne n hn).2) (by simp) (by simp only[ruU]; exact hc) mg (by simp only[all2_cons,all2_nil,hA,true_or,and_true]) ?_
    intro Z D mZ hgF hgN hnZ hD
    have hD0:D=[]:=List.eq_nil_iff_forall_not_mem.2 fun n hn=>by have:=hD n hn; simp at this
    subst hD0
    replace mZ:Mod [] U Z:=mZ
    replace hnZ:Z.next=g.next:=hnZ
    have cwZ:ClAt Z w s.fs.dropLast:=cw.of (zF1 hnZ.symm) fun n hn=>hgN n (hwlo n hn) (cw.ne n hn).2
    clear hgF hgN
    obtain⟨z,hz⟩:=Go.Ax.exq Z.next
    have okZ:=mZ.ok okU
    have zb:Z.base<=z:=hz▸okZ
    have lz:u<=z:=by have:=mZ.next; omega
    replace k0:=(mZ.bk (by omega) (by simp)).trans k0
    replace k1:=(mZ.bk (by omega) (by simp)).trans k1
    replace k2:=(mZ.bk (by omega) (by simp)).trans k2
    replace k3:=(mZ.bk (by omega) (by simp)).trans k3
    replace k4:=(mZ.bk (by omega) (by simp)).trans k4
    replace j0:b+0<z:=by omega
    replace j1:b+1<z:=by omega
    replace j2:b+2<z:=by omega
    replace j3:b+3<z:=by omega
    replace j4:x+0<z:=by omega
    replace u6:=(mZ.bk (by omega) (by simp)).trans u6
    replace j6:y+0<z:=by omega
    obtain⟨f,hf'⟩:∃ f:Fr,f=⟨19,t.height,t.bound⟩:=⟨_,rfl⟩
    have hfv:frV f=[.int .i64 19,.int .i64 t.height,.int .i64 t.bound]:=by rw[hf']; rfl
    rw[<-hf']
    have hyU:y+0<U.next+0:=by omega
    rw[show Z=ext Z [] from rfl]
    simp only[hz,u6,j6,hyU,not_false_eq_true,qk_old,ruD,ruW,xF,ruU,Nat.reduceLT,Nat.reduceAdd,Nat.reduceEqDiff]
    refine⟨.inr fun _ n hn=>.inr (by simp only[zE2,idsV,zA4]at hn; omega),?_⟩
    have hwi:∀ n∈idsV w,u<=n:=fun n hn=>by have:=hwlo n hn; omega
    have fin5:∀ (G:AHeap) (v:Value),FrAt 176 G v (s.fs.dropLast++[f])->Mod (idsV w) (ext Z [⟨176,false,[.int .i64 19,.int .i64 t.height,.int .i64 t.bound]⟩]) G->(∀ n∈idsV v,z<=n)->G.next=z+2->G.base<=z+2/\b+0<z+2/\b+1<z+2/\b+2<z+2/\b+3<z+2/\x+0<z+2/\bk G (b+0)=some ⟨59,false,[.int .i64 pos,.int .i64 19,.slice a0 args.length c0]⟩/\bk G (b+1)=some ⟨93,false,[.int .i64 h',.int .i64 s.b,.slice f0 s.fs.length fc]⟩/\bk G (b+2)=some ⟨93,false,[.int .i64 h',.int .i64 s.b,.slice ca (s.fs.length-1) cc]⟩/\bk G (b+3)=some ⟨93,false,[.int .i64 h',.int .i64 s.b,.slice f0 s.fs.length fc]⟩/\bk G (x+0)=some ⟨93,false,[.int .i64 s.h,.int .i64 s.b,.slice f0 s.fs.length fc]⟩/\Mod [] U G:=fun G v hv mG hvi hG=>by
     have mZE:Mod [] Z (ext Z [⟨176,false,[.int .i64 19,.int .i64 t.height,.int .i64 t.bound]⟩]):=Mod.ext okZ
     have hlo:∀ n,n<u->n∉idsV w:=fun n h hn=>by have:=hwi n hn; omega
     refine⟨hG▸mG.ok (mZE.ok okZ),by omega,by omega,by omega,by omega,by omega,?_,?_,?_,?_,?_,(mZ.trans mZE).step mG okU fun n hn=>.inr (by have:=hwi n hn; omega)⟩
     ·exact (mG.bk (by rw[ext_next]; omega) (hlo _ (by omega))).trans ((mZE.bk (by omega) (by simp)).trans k0)
     ·exact (mG.bk (by rw[ext_next]; omega) (hlo _ (by omega))).trans ((mZE.bk (by omega) (by simp)).trans k1)
     ·exact (mG.bk (by rw[ext_next]; omega) (hlo _ (by omega))).trans ((mZE.bk (by omega) (by simp)).trans k2)
     ·exact (mG.bk (by rw[ext_next]; omega) (hlo _ (by omega))).trans ((mZE.bk (by omega) (by simp)).trans k3)
     ·exact (mG.bk (by rw[ext_next]; omega) (hlo _ (by omega))).trans ((mZE.bk (by omega) (by simp)).trans k4)
    have kE:bk (ext Z [⟨176,false,[.int .i64 19,.int .i64 t.height,.int .i64 t.bound]⟩]) (z+0)=some ⟨176,false,[.int .i64 19,.int .i64 t.height,.int .i64 t.bound]⟩:=by rw[bk_at hz (by simp)]; rfl
    have hfc:frC s.fs.dropLast++frV f=frC (s.fs.dropLast++[f]):=by rw[frC_append]; simp[frC]
    rcases cwZ with hv|⟨hd0,m,rfl,hm1,hm2⟩
    ·obtain⟨ln,hln⟩:=Go.Ax.exq s.fs.dropLast.length
     have hsm:small (ln+1) 24=true:=by simp only[small,zA7,zD9]; omega
     rw[hln]at hv
     have hvE:VsAt (ext Z [⟨176,false,[.int .i64 19,.int .i64 t.height,.int .i64 t.bound]⟩]) 176 3 w (frC s.fs.dropLast) ln:=hv.of (by rw[ext_next]; omega) (fun n hn=>ext_get_old (hv.ne n hn).2)
     refine wd_appV (v:=w) (vs:=frC s.fs.dropLast) (cnt:=ln) (sz:=3) (e:=176) (by1:=24) (n:=z+0) (off:=0) (cnt2:=1) (cap:=1) (s:=some 0) (z:=.agg #[.int .i64 0,.int .i64 0,.int .i64 0]) (ws:=frV f) u91 s176 by176 z176 rfl i91 rfl rfl (by decide) hvE (rk_of kE) (by rw[ext_next,hz]; simp) (by simp) (by rw[hfv]; rfl) rfl (by decide) hsm (scbL_append (frC_sc _ _) rfl) ((Mod.ext (W:=[]) okZ).ok okZ) (by simp only[all2_cons,all2_nil,hA,true_or,and_true]) fun G D vG mG hD nG=>?_
     rw[hfc,show ln+1=(s.fs.dropLast++[f]).length by simp[hln]]at vG
     rw[ext_next,hz]at vG nG ⊢
     have fG:=FrAt.vs vG
     simp only[zC7]at nG vG fG ⊢
     rw[show (s.fs.dropLast++[f]).length=ln+1 by simp[hln]]at fG
     obtain⟨yb',i0,i1,i2,i3,i4,p0,p1,p2,p3,p4,mUG⟩:=fin5 G _ fG mG (fun n hn=>by simp only[idsV,zA4]at hn; omega) nG
     have hfG:FrAt 176 G (.slice f0 s.fs.length fc) s.fs:=hfU.mod0 mUG
     have suv':=scb_mono (show b<=z+2 by omega) _ sfv
     have suw':=scb_mono (show b<=z+2+0 by omega) _ sfv
     obtain⟨q,hq⟩:=Go.Ax.exq (z+2)
     rw[hq]at yb' i0 i1 i2 i3 i4 nG suv' suw'
     have hslz:scb q (.slice (some ⟨z+1,0,none⟩) (ln+1) (ln+1))=true:=by simp only[scb]; exact blt_of (by omega)
     have hslw:scb (q+0) (.slice (some ⟨z+1,0,none⟩) (ln+1) (ln+1))=true:=hslz
     rw[show G=ext G [] from rfl]
     simp only[nG,i2,p2,g4,hA,not_false_eq_true,hslw,ruD,ruW,putL,Nat.reduceLeDiff,xF,ruU,Nat.reduceLT,Nat.reduceAdd,Nat.reduceEqDiff]
     refine w_drawB [(2,0),(3,1),(3,0),(3,2)] [] (by kernel_rfl) (by kernel_rfl) rfl fun ops anc hA hG=>?_
     simp only[all2_cons]at hA
     simp only[nG,p2,p3,i2,i3,g4,g5,hA,dn,not_false_eq_true,hslw,suv',qk_old,Tryz.results102,ruD,ruW,putL,Nat.reduceLeDiff,xF,ruU,Nat.reduceLT,Nat.reduceAdd,Nat.reduceEqDiff]
     rw[ext_nil]
     refine (fun hm=>⟨_,_,rfl,(fin4 G _ mUG hm).1 _ _ fG (fun n hn=>by simp only[idsV,zA4]at hn; omega),(fin4 G _ mUG hm).1 _ _ hfG hfid,(fin4 G _ mUG hm).2⟩) ?_
     exact ((Mod.uw (by simp)).trans (Mod.uw (by simp))).trans (Mod.uw (by simp))
    ·have hA0:=fun (G:AHeap) (hG:G.next=z+1) (hr:bk G (z+0)=some ⟨176,false,[.int .i64 19,.int .i64 t.height,.int .i64 t.bound]⟩)=>app_ex0 (X:=G) (st:=91) (n:=z+0) (off:=0) (cnt:=1) (cap:=1) (m:=m) (s:=some 0) (bl:=⟨176,false,[.int .i64 19,.int .i64 t.height,.int .i64 t.bound]⟩) (ws:=[.int .i64 19,.int .i64 t.height,.int .i64 t.bound]) u91 s176 by176 z176 rfl i91 (rk_of hr) (by simp) rfl (by decide) rfl rfl (by decide)
     have nE:(ext Z [⟨176,false,[.int .i64 19,.int .i64 t.height,.int .i64 t.bound]⟩]).next=z+1:=by rw[ext_next,hz]; rfl
     refine wd_appE (v:=.slice (some ⟨z+1,0,none⟩) 1 1) (M:=[⟨176,true,[.int .i64 19,.int .i64 t.height,.int .i64 t.bound]⟩]) [z+0] rfl (by decide) (fun n hn=>by simp only[zA4]at hn; subst hn; exact bk_ne kE) (fun G h1 h2=>?_) (by simp only[all2_cons,all2_nil,Meets,hA,true_or,and_true]) ?_
     ·simp only[ruU,Nat.reduceEqDiff]
      have:=hA0 G (by rw[h1,nE]) ((bk_get (h2 (z+0) (by simp))).trans kE)
      rw[h1,nE]at this
      exact this
     generalize hG':ext (ext Z _) _=G
     have mG:Mod (idsV (.slice (some ⟨m,0,some 0⟩) 0 0)) (ext Z [⟨176,false,[.int .i64 19,.int .i64 t.height,.int .i64 t.bound]⟩]) G:=hG'▸Mod.ext ((Mod.ext (W:=[]) okZ).ok okZ)
     have nG:G.next=z+2:=by rw[<-hG',ext_next,nE]; rfl
     have kG:bk G (z+1+0)=some ⟨176,true,[.int .i64 19,.int .i64 t.height,.int .i64 t.bound]⟩:=by rw[<-hG',bk_at nE (by simp)]; rfl
     clear hG'
     have fG:FrAt 176 G (.slice (some ⟨z+1,0,none⟩) 1 1) (s.fs.dropLast++[f]):=by
      rw[hd0]
      exact .inr ⟨z+1,1,_,rfl,zB1 _,kG,by omega,by simp,by rw[zD6]; simp only[zC7,frC,zD1,List.flatMap_nil,hfv]; rfl⟩
     obtain⟨yb',i0,i1,i2,i3,i4,p0,p1,p2,p3,p4,mUG⟩:=fin5 G _ fG mG (fun n hn=>by simp only[idsV,zA4]at hn; omega) nG
     have hfG:FrAt 176 G (.slice f0 s.fs.length fc) s.fs:=hfU.mod0 mUG
     have suv':=scb_mono (show b<=z+2 by omega) _ sfv
     have suw':=scb_mono (show b<=z+2+0 by omega) _ sfv
     obtain⟨q,hq⟩:=Go.Ax.exq (z+2)
     rw[hq]at yb' i0 i1 i2 i3 i4 nG suv' suw'
     have hslz:scb q (.slice (some ⟨z+1,0,none⟩) 1 1)=true:=by simp only[scb]; exact blt_of (by omega)
     have hslw:scb (q+0) (.slice (some ⟨z+1,0,none⟩) 1 1)=true:=hslz
     rw[show G=ext G [] from rfl]
     simp only[nG,i2,p2,g4,hA,not_false_eq_true,hslw,ruD,ruW,putL,Nat.reduceLeDiff,xF,ruU,Nat.reduceLT,Nat.reduceAdd,Nat.reduceEqDiff]
     refine w_drawB [(2,0),(3,1),(3,0),(3,2)] [] (by kernel_rfl) (by kernel_rfl) rfl fun ops anc hA hG=>?_
     simp only[all2_cons]at hA
     simp only[nG,p2,p3,i2,i3,g4,g5,hA,dn,not_false_eq_true,hslw,suv',qk_old,Tryz.results102,ruD,ruW,putL,Nat.reduceLeDiff,xF,ruU,Nat.reduceLT,Nat.reduceAdd,Nat.reduceEqDiff]
     rw[ext_nil]
     refine (fun hm=>⟨_,_,rfl,(fin4 G _ mUG hm).1 _ _ fG (fun n hn=>by simp only[idsV,zA4]at hn; omega),(fin4 G _ mUG hm).1 _ _ hfG hfid,(fin4 G _ mUG hm).2⟩) ?_
     exact ((Mod.uw (by simp)).trans (Mod.uw (by simp))).trans (Mod.uw (by simp))
  ·have haft:aftR 20 args s=(⟨h',s.b,s.fs.dropLast⟩,⟨h',s.b,s.fs⟩):=by
    unfold aftR
    rw[hpq,if_neg (by omega),if_neg (by omega),if_neg (by omega),if_neg (by omega),if_neg (by omega),if_neg (by omega),if_pos rfl]
    simp only[hh']
   rw[haft]
   have hcY:FrAt 176 Y (.slice ca (s.fs.length-1) cc) s.fs.dropLast:=fcut
   simp only[zB6]at k0
   simp only[Int.reduceEq,hy,k0,k1,k2,j0,j1,j2,g2,g3,g4,hT,hF,not_false_eq_true,hwl,hsl,scu0,qk_old,ruW,putL,Nat.reduceLeDiff,xF,ruU,Nat.reduceLT,Nat.reduceAdd,Nat.reduceEqDiff]
   refine w_drawB [(2,0),(3,1),(3,0),(3,2)] [] (by kernel_rfl) (by kernel_rfl) rfl fun ops anc hA hG=>?_
   simp only[all2_cons]at hA
   simp only[hy,k2,k3,j2,j3,g4,g5,hA,dn,not_false_eq_true,syw,scu0,qk_old,Tryz.results102,ruD,ruW,putL,Nat.reduceLeDiff,xF,ruU,Nat.reduceLT,Nat.reduceAdd,Nat.reduceEqDiff]
   rw[ext_nil]
   refine (fun hm=>⟨_,_,rfl,(fin2 Y _ Mod.refl hm).1 _ _ hcY hcid,(fin2 Y _ Mod.refl hm).1 _ _ hfY hfid,(fin2 Y _ Mod.refl hm).2⟩) ?_
   exact ((Mod.uw (by simp)).trans (Mod.uw (by simp))).trans (Mod.uw (by simp))
 have haft:aftR op args s=(⟨h',s.b,s.fs⟩,⟨h',s.b,s.fs⟩):=by
  unfold aftR
  rw[hpq,if_neg (by omega),if_neg (by omega),if_neg (by omega),if_neg (by omega),if_neg (by omega),if_neg (by omega),if_neg (by omega)]
  simp only[hh']
 rw[haft]
 have hcs:op=0\/op=1\/op=2\/op=3\/op=4\/op=5\/op=6\/op=9\/op=10\/op=11\/op=12\/op=15\/op=21\/op=22\/op=23\/op=24\/op=25\/op=26\/op=27:=by omega
 rcases hcs with rfl|rfl|rfl|rfl|rfl|rfl|rfl|rfl|rfl|rfl|rfl|rfl|rfl|rfl|rfl|rfl|rfl|rfl|rfl
 all_goals
  simp only[zB6]at k0
  simp only[Int.reduceEq,hy,k0,j0,g2,hF,not_false_eq_true,qk_old,ruW,xF,ruU,Nat.reduceLT,Nat.reduceAdd,Nat.reduceEqDiff]
  refine w_drawB [(2,0),(3,1),(3,0),(3,2)] [] (by kernel_rfl) (by kernel_rfl) rfl fun ops anc hA hG=>?_
  simp only[all2_cons]at hA
  simp only[hy,k2,k3,j2,j3,g4,g5,hA,dn,not_false_eq_true,syw,qk_old,Tryz.results102,ruD,ruW,putL,Nat.reduceLeDiff,xF,ruU,Nat.reduceLT,Nat.reduceAdd,Nat.reduceEqDiff]
  rw[ext_nil]
  refine (fun hm=>⟨_,_,rfl,(fin2 Y _ Mod.refl hm).1 _ _ hfY hfid,(fin2 Y _ Mod.refl hm).1 _ _ hfY hfid,(fin2 Y _ Mod.refl hm).2⟩) ?_
  exact (Mod.uw (by simp)).trans (Mod.uw (by simp))
set_option maxRecDepth 100000
def posQ (q:List Int) (k:Int):Nat:=(q.filter fun x=>decide (x<k)).length
theorem posQ_of:∀ {q:List Int} {k:Int} {p:Nat},p<=q.length->(∀ i (h:i<q.length),i<p->q[i]<k)->(∀ i (h:i<q.length),p<=i->k<=q[i])->posQ q k=p
 |[],k,p,hp,_,_=>by simp only[zC5]at hp; simp[posQ]; omega
 |x::r,k,0,hp,h1,h2=>by
  have hx:=h2 0 (by simp) (by omega)
  simp only[List.getElem_cons_zero]at hx
  have ih:=posQ_of (q:=r) (k:=k) (p:=0) (by omega) (fun i h hi=>absurd hi (by omega)) (fun i h _=>by have:=h2 (i+1) (by simp only[zA8]; omega) (by omega); simpa using this)
  simp only[posQ]at ih
  rw[posQ,List.filter_cons,if_neg (by simp; omega)]
  exact ih
 |x::r,k,p+1,hp,h1,h2=>by
  have hx:=h1 0 (by simp) (by omega)
  simp only[List.getElem_cons_zero]at hx
  have ih:=posQ_of (q:=r) (k:=k) (p:=p) (by simp only[zA8]at hp; omega) (fun i h hi=>by have:=h1 (i+1) (by simp only[zA8]; omega) (by omega); simpa using this) (fun i h hi=>by have:=h2 (i+1) (by simp only[zA8]; omega) (by omega); simpa using this)
  simp only[posQ]at ih
  rw[posQ,List.filter_cons,if_pos (by simpa using hx),zA8,ih]
theorem u80:Tryz.prog.underlying 80=some (.int .u64):=by kernel_rfl
theorem u3:Tryz.prog.underlying 3=some (.int .i64):=by kernel_rfl
theorem search97_c (H:AHeap) (v:Value) (q:List Int) (k:Int) (hv:RdAt H 1 v (iv q) q.length) (hl:q.length<=1000000) (hs:q.Pairwise (· < ·)):∃ f:Bool,Pure 97 [v,.int .i64 k] H (.tuple #[.int .i64 (posQ q k:Int),.bool f]):=by
 obtain⟨b,hb⟩:=Go.Ax.exq H.next
 obtain⟨a0,c0,e0⟩:=hv.sl
 have hmono:∀ i j (hi:i<q.length) (hj:j<q.length),i<j->q[i]<q[j]:=fun i j hi hj hij=>List.pairwise_iff_getElem.1 hs i j hi hj hij
 obtain⟨F,hF⟩:∃ F:Bool,(if h:posQ q k<q.length then decide (q[posQ q k]=k) else false)=F:=⟨_,rfl⟩
 refine⟨F,?_⟩
 refine callS_fn mixed Tryz.func97 rfl Tryz.ntmps97 (zB3 rfl) fun wf hsc=>?_
 rw[e0]
 simp only[ruW,xF,ruU,entryE,Nat.reduceLT,Nat.reduceAdd,Nat.reduceEqDiff]
 refine w_env fun E hE=>?_
 have g0:E 0=v:=by rw[hE,e0]; simp only[ruU,Nat.reduceEqDiff]
 have g1:E 1=.int .i64 k:=by rw[hE]; rfl
 have g6:E 6=.int .i64 (q.length:Int):=by rw[hE]; rfl
 have g7:E 7=.int .i64 ((0:Nat):Int):=by rw[hE]; rfl
 have g8:E 8=.int .i64 (q.length:Int):=by rw[hE]; rfl
 clear hE
 refine w_loop (fun (z:Nat × Nat) E' H'=>H'=ext H []/\z.1<=z.2/\z.2<=q.length/\(∀ i (h:i<q.length),i<z.1->q[i]<k)/\(∀ i (h:i<q.length),z.2<=i->k<=q[i])/\E' 0=v/\E' 1=.int .i64 k/\E' 6=.int .i64 (q.length:Int)/\E' 7=.int .i64 (z.1:Int)/\E' 8=.int .i64 (z.2:Int)) (fun z=>z.2-z.1) (0,q.length) ⟨rfl,zC0 _,zB1 _,fun i _ h=>absurd h (by omega),fun i h1 h2=>absurd h2 (by omega),g0,g1,g6,g7,g8⟩ ?_
 clear g0 g1 g6 g7 g8 E
 rintro⟨i,j⟩ E H' ⟨hH,hij,hjl,hlo,hhi,g0,g1,g6,g7,g8⟩
 simp only at hij hjl hlo hhi g7 g8
 rw[hH]
 by_cases hd:i=j
 ·subst hd
  have hdd:decide ((i:Int)<(i:Int))=false:=decide_eq_false (by omega)
  have hp:=posQ_of hjl hlo hhi
  rw[hp]at hF ⊢
  obtain⟨d1,hd1⟩:∃ d,decide ((i:Int)<(q.length:Int))=d:=⟨_,rfl⟩
  cases d1 with
  |false =>
   have hge:=of_decide_eq_false hd1
   rw[dif_neg (by omega)]at hF
   subst hF
   simp only[g6,g7,g8,hdd,hd1,Tryz.results97,ruW,ruU,Nat.reduceLT,Nat.reduceEqDiff]
   exact Fin.pureE rfl rfl
  |true =>
   have hlt:i<q.length:=by have:=of_decide_eq_true hd1; omega
   rw[dif_pos hlt]at hF
   obtain⟨n,off,s,c,e,o,M,e1,n1,r1,m1⟩:=hv.one hlt
   rw[e1]at g0
   have i1:=ia_of (P:=Tryz.prog) (k:=.i64) (i:=i) (n:=n) (off:=off) (len:=q.length) (cap:=c) (s:=s) u35 s3 hlt
   rw[zD0]at i1
   rw[iv_get,zA5 hlt,zA6]at m1
   rw[hb]at n1
   cases F with
   |true =>
    simp only[g0,g1,g6,g7,g8,hb,hdd,hd1,i1,n1,r1,m1,hF,qk_old,Tryz.results97,ruW,xF,ruU,Nat.reduceLT,Nat.reduceEqDiff]
    exact Fin.pureE rfl rfl
   |false =>
    simp only[g0,g1,g6,g7,g8,hb,hdd,hd1,i1,n1,r1,m1,hF,qk_old,ruW,xF,ruU,Nat.reduceLT,Nat.reduceEqDiff]
    refine (nan120_c (ext H []) q[i]).to ?_
    simp only[Tryz.results97,ruW,ruU,Nat.reduceLT,Nat.reduceEqDiff]
    exact Fin.pureE rfl rfl
 ·have hlt:i<j:=by omega
  have hdd:decide ((i:Int)<(j:Int))=true:=decide_eq_true (by omega)
  obtain⟨m,hm⟩:=Go.Ax.exq ((i+j) / 2)
  have hmj:m<q.length:=by omega
  have hw1:IntKind.i64.wrap ((i:Int)+(j:Int))=((i+j:Nat):Int):=(wrap_sm (by omega) (by omega)).trans (by omega)
  have hc1:∀ G:AHeap,aConvert Tryz.prog G 3 80 (.int .i64 ((i+j:Nat):Int))=some (.int .u64 ((i+j:Nat):Int),G):=fun G=>by
   rw[cv_int u3 u80]
   have:IntKind.u64.wrap ((i+j:Nat):Int)=((i+j:Nat):Int):=by
    simp only[IntKind.wrap,IntKind.signed,IntKind.bits]
    simp
    omega
   rw[this]
  have hsh:bShr .u64 ((i+j:Nat):Int) 1=(m:Int):=by
   simp only[bShr,IntKind.bits]
   rw[show (2:Int) ^ min 1 64=2 by decide,Int.fdiv_eq_ediv_of_nonneg _ (by omega)]
   omega
  have hsh':bitV .shr (.int .u64 ((i+j:Nat):Int)) (.int .u64 1)=some (.int .u64 (m:Int)):=by rw[bit_shr (by omega)]; rw[show (1:Int).toNat=1 from rfl,hsh]
  have hc2:∀ G:AHeap,aConvert Tryz.prog G 80 3 (.int .u64 (m:Int))=some (.int .i64 (m:Int),G):=fun G=>by
   rw[cv_int u80 u3,wrap_nat (by omega)]
  obtain⟨n,off,s,c,e,o,M,e1,n1,r1,m1⟩:=hv.one hmj
  rw[e1]at g0
  have i1:=ia_of (P:=Tryz.prog) (k:=.i64) (i:=m) (n:=n) (off:=off) (len:=q.length) (cap:=c) (s:=s) u35 s3 hmj
  rw[zD0]at i1
  rw[iv_get,zA5 hmj,zA6]at m1
  rw[hb]at n1
  obtain⟨xa,hxa⟩:=Go.Ax.exq (q[m])
  rw[hxa]at m1
  have hwm:IntKind.i64.wrap ((m:Int)+1)=((m+1:Nat):Int):=wrap_succ (by omega)
  simp only[g0,g1,g7,g8,hb,hdd,hw1,hc1,hc2,hsh',i1,n1,r1,m1,w_convert,w_shr,qk_old,ruW,xF,ruU,Nat.reduceLT,Nat.reduceEqDiff]
  refine (less119_c (ext H []) xa k).to ?_
  obtain⟨dl,hdl⟩:∃ d,decide (xa<k)=d:=⟨_,rfl⟩
  rw[hdl]
  cases dl with
  |true =>
   have hx:=of_decide_eq_true hdl
   simp only[hwm,ruW,ruU,Nat.reduceLT,Nat.reduceEqDiff]
   refine loopC_next ⟨(m+1,j),by simp only; omega,rfl,by simp only; omega,hjl,fun a ha hai=>?_,hhi,?_,?_,?_,?_,?_⟩
   ·by_cases ham:a=m
    ·subst ham; rw[hxa]; exact hx
    ·have:=hmono a m ha hmj (by simp only at hai; omega)
     omega
   ·rw[e1]; simp only[g0,ruU,Nat.reduceEqDiff]
   ·exact g1
   ·exact g6
   ·rfl
   ·exact g8
  |false =>
   have hx:=of_decide_eq_false hdl
   simp only[ruW,ruU,Nat.reduceLT,Nat.reduceEqDiff]
   refine loopC_next ⟨(i,m),by simp only; omega,rfl,by simp only; omega,by simp only; omega,hlo,fun a ha hai=>?_,?_,?_,?_,?_,?_⟩
   ·by_cases ham:a=m
    ·subst ham; rw[hxa]; omega
    ·have:=hmono m a hmj ha (by simp only at hai; omega)
     omega
   ·rw[e1]; simp only[g0,ruU,Nat.reduceEqDiff]
   ·exact g1
   ·exact g6
   ·exact g7
   ·rfl
set_option maxRecDepth 100000
def QAt (H:AHeap) (v:Value) (q:List Int):Prop :=
 (q=[]/\v=.slice none 0 0) \/
 (q=[]/\∃ n off o M,v=.slice (some ⟨n,off,some (o+1)⟩) 0 0/\bk H n=some ⟨3,true,M⟩/\n<H.next/\off<=M.length) \/
 (0<q.length/\∃ n off M,v=.slice (some ⟨n,off,none⟩) q.length q.length/\bk H n=some ⟨3,true,M⟩/\n<H.next/\off+q.length<=M.length/\(M.drop off).take q.length=iv q)
section
variable {H G : AHeap} {v : Value} {q : List Int}
theorem QAt.of (h:QAt H v q) (hn:H.next<=G.next) (hg:∀ n∈idsV v,G.get n=H.get n):QAt G v q:=by
 rcases h with⟨rfl,rfl⟩|⟨rfl,n,off,o,M,rfl,hb,hl,hle⟩|⟨h0,n,off,M,rfl,hb,hl,hle,ht⟩
 ·exact .inl ⟨rfl,rfl⟩
 ·exact .inr (.inl ⟨rfl,n,off,o,M,rfl,(bk_get (hg n (by simp[idsV]))).trans hb,by omega,hle⟩)
 ·exact .inr (.inr ⟨h0,n,off,M,rfl,(bk_get (hg n (by simp[idsV]))).trans hb,by omega,hle,ht⟩)
theorem QAt.ne (h:QAt H v q):∀ n∈idsV v,H.get n≠none/\n<H.next:=by
 rcases h with⟨rfl,rfl⟩|⟨rfl,n,off,o,M,rfl,hb,hl,hle⟩|⟨h0,n,off,M,rfl,hb,hl,hle,ht⟩
 ·intro n hn; simp[idsV]at hn
 all_goals
  intro k hk
  simp only[idsV,zA4]at hk
  subst hk
  exact⟨bk_ne hb,hl⟩
theorem QAt.sc (h:QAt H v q):scb H.next v=true:=by
 rcases h with⟨rfl,rfl⟩|⟨rfl,n,off,o,M,rfl,hb,hl,hle⟩|⟨h0,n,off,M,rfl,hb,hl,hle,ht⟩
 ·rfl
 all_goals simp only[scb]; exact blt_of hl
theorem QAt.rd (h:QAt H v q):RdAt H 1 v (iv q) q.length:=by
 rcases h with⟨rfl,rfl⟩|⟨rfl,n,off,o,M,rfl,hb,hl,hle⟩|⟨h0,n,off,M,rfl,hb,hl,hle,ht⟩
 ·exact RdAt.nil
 ·exact RdAt.nil
 ·exact⟨by simp[iv],.inr ⟨h0,n,off,none,_,3,true,M,rfl,rk_of hb,hl,by omega,by rw[zD0]; exact ht⟩⟩
theorem QAt.sl (h:QAt H v q):∃ a,v=.slice a q.length q.length:=by
 rcases h with⟨rfl,rfl⟩|⟨rfl,n,off,o,M,rfl,hb,hl,hle⟩|⟨h0,n,off,M,rfl,hb,hl,hle,ht⟩<;>exact⟨_,rfl⟩
end
theorem by3:bytesOf Tryz.prog 3=some 8:=by kernel_rfl
theorem z3:zeroOf Tryz.prog 3=some (.int .i64 0):=by kernel_rfl
theorem i35:intTy Tryz.prog 35=some false:=by kernel_rfl
theorem iv_one (q:List Int):(iv q).all one=true:=by
 induction q with
 |nil=>rfl
 |cons a r ih=>simp only[iv,zB4,List.all_cons]at ih ⊢; rw[ih]; rfl
theorem QAt.cut {H:AHeap} {v:Value} {k:Int} {q:List Int} (h:QAt H v (k::q)):∃ w,QAt H w q/\(∀ n∈idsV w,n∈idsV v)/\∀ G:AHeap,(∀ n∈idsV v,G.get n=H.get n)->aSlice Tryz.prog G 35 v (some (.int .i64 1)) none none=some (w,G):=by
 rcases h with⟨h,_⟩|⟨h,_⟩|⟨h0,n,off,M,rfl,hb,hl,hle,ht⟩
 ·cases h
 ·cases h
 ·have hopen:∀ G:AHeap,(∀ m∈idsV (.slice (some ⟨n,off,none⟩) (k::q).length (k::q).length),G.get m=H.get m)->isOpen G n=some true:=fun G hg=>isOpen_bk ((bk_get (hg n (by simp[idsV]))).trans hb)
  simp only[zA8]at hle ht
  cases hq:q with
  |nil =>
   refine⟨.slice (some ⟨n,off+1*1,some (off+1)⟩) 0 0,.inr (.inl ⟨rfl,n,off+1*1,off,M,rfl,hb,hl,by omega⟩),fun m hm=>hm,fun G hg=>?_⟩
   have ho:=hopen G (by rw[hq]; exact hg)
   simp only[aSlice,u35,s3,aSlice2,bound,zA1,zA3,exactAt,ho,zA6,Bool.not_true,zA8,zC5]
   simp
  |cons k2 r =>
   refine⟨.slice (some ⟨n,off+1*1,none⟩) (k2::r).length (k2::r).length,.inr (.inr ⟨by simp,n,off+1*1,M,rfl,hb,hl,by rw[hq]at hle; simp only[zA8]at hle ⊢; omega,?_⟩),fun m hm=>hm,fun G hg=>?_⟩
   ·rw[hq]at ht
    have h2:=congrArg (fun z=>z.drop 1) ht
    simp only[List.drop_take,List.drop_drop]at h2
    rw[show (iv (k::k2::r)).drop 1=iv (k2::r) from rfl]at h2
    rw[<-h2,Nat.one_mul]
    congr 1
   ·have ho:=hopen G (by rw[hq]; exact hg)
    simp only[aSlice,u35,s3,aSlice2,bound,zA1,zA3,exactAt,ho,zA6,Bool.not_true,zA8]
    simp
theorem q_new {G:AHeap} {n:Nat} {l:List Int} (hok:G.base<=G.next) (hn:n<G.next):∃ G',aNew (G.upd n none) 3 (iv l) true=some G'/\Mod [n] G G'/\G'.next=G.next+1/\bk G' G.next=some ⟨3,true,iv l⟩:=by
 have h1:Mod [n] G (G.upd n none):=Mod.upd (by simp)
 have hnx:(G.upd n none).next=G.next:=rfl
 have h2:=new_ext (H:=G.upd n none) (L:=[]) (e:=3) (l:=iv l) (o:=true) (scbL_iv _ l)
 rw[ext_nil]at h2
 refine⟨_,h2,h1.trans (Mod.ext (h1.ok hok)),by rw[ext_next,hnx]; rfl,?_⟩
 have:=bk_at (H:=G.upd n none) (L:=[⟨3,true,iv l⟩]) (i:=0) hnx (by simp)
 exact this
theorem QAt.mk {G:AHeap} {m:Nat} {l:List Int} (h0:0<l.length) (hb:bk G m=some ⟨3,true,iv l⟩) (hm:m<G.next):QAt G (.slice (some ⟨m,0,none⟩) l.length l.length) l :=
 .inr (.inr ⟨h0,m,0,iv l,rfl,hb,hm,by simp[iv],by rw[zF0]; exact zE8 (by simp[iv])⟩)
theorem q_app {G:AHeap} {v:Value} {q:List Int} {k:Int} {nb:Nat} (h:QAt G v q) (hnb:bk G nb=some ⟨3,false,[.int .i64 k]⟩) (hl:q.length<=1000000) (hok:G.base<=G.next) :
  ∃ G',aBuiltin Tryz.prog G .append ⟨[35,35]⟩ [v,.slice (some ⟨nb,0,some 0⟩) 1 1]=some (.slice (some ⟨G.next,0,none⟩) (q.length+1) (q.length+1),G')/\QAt G' (.slice (some ⟨G.next,0,none⟩) (q.length+1) (q.length+1)) (q++[k])/\Mod (idsV v) G G'/\G'.next=G.next+1:=by
 have hsm:small (q.length+1) 8=true:=by simp only[small,zA7,zD9]; omega
 have hfx:firstC G 1 1 (.slice (some ⟨nb,0,some 0⟩) 1 1)=some [.int .i64 k]:=by rw[first_bk hnb (by simp)]; rfl
 have hiv:iv q++[.int .i64 k]=iv (q++[k]):=by simp[iv]
 have hlen:(q++[k]).length=q.length+1:=by simp
 rcases h with⟨rfl,rfl⟩|⟨rfl,n,off,o,M,rfl,hb,hlt,hle⟩|⟨h0,n,off,M,rfl,hb,hlt,hle,ht⟩
 ·have happ:=app_nil (P:=Tryz.prog) (H:=G) (st:=35) (xt:=35) (e:=3) (sz:=1) (by1:=8) (n:=nb) (off:=0) (cnt:=1) (cap:=1) (s:=some 0) (z:=.int .i64 0) (b:=⟨3,false,[.int .i64 k]⟩) u35 s3 by3 z3 rfl i35 hnb (by simp) rfl (by decide) (by decide)
  have h2:=new_ext (H:=G) (L:=[]) (e:=3) (l:=iv [k]) (o:=true) (scbL_iv _ _)
  rw[ext_nil]at h2
  refine⟨ext G [⟨3,true,iv [k]⟩],?_,?_,Mod.ext hok,by rw[ext_next]; rfl⟩
  ·rw[happ]
   show (aNew G 3 (iv [k]) true).map _=_
   rw[h2]
   rfl
  ·refine QAt.mk (l:=[k]) (by simp) ?_ (by rw[ext_next]; simp)
   have:=bk_at (H:=G) (L:=[⟨3,true,iv [k]⟩]) (i:=0) rfl (by simp)
   exact this
 ·obtain⟨G',g1,g2,g3,g4⟩:=q_new (l:=[k]) hok hlt
  obtain⟨rv,h1,h2,_⟩:=bk_blk hb
  have hop:isOpen G n=some true:=isOpen_bk hb
  refine⟨G',?_,QAt.mk (l:=[k]) (by simp) g4 (by omega),g2,g3⟩
  simp only at h1 h2
  have hf0:firstC G 1 0 (.slice (some ⟨n,off,some (o+1)⟩) 0 0)=some []:=by simp[firstC]
  simp only[aBuiltin,aAppend,u35,s3,by3,z3,i35,zA1,zA3,lenV,hfx,zC7,Nat.one_mul,zC3,aAppend2]
  rw[if_pos ⟨trivial,by exact hsm,rfl⟩,if_neg (by omega)]
  simp only[hf0,zA3,zC5,Nat.zero_mul,decide_true,List.all_nil,zC9,exactAp,zE0,hop,h1]
  simp only[List.all_cons,List.all_nil,one_int,zC9,if_true,Nat.beq_refl,zD6]
  rw[if_pos ⟨trivial,by rw[zD9]; omega⟩]
  rw[show ([.int .i64 k]:List Value)=iv [k] from rfl,g1]
  rfl
 ·obtain⟨G',g1,g2,g3,g4⟩:=q_new (l:=q++[k]) hok hlt
  obtain⟨rv,h1,h2,_⟩:=bk_blk hb
  have hop:isOpen G n=some true:=isOpen_bk hb
  have hQ:=QAt.mk (l:=q++[k]) (by omega) g4 (by omega)
  rw[hlen]at hQ
  refine⟨G',?_,hQ,g2,g3⟩
  simp only at h1 h2
  have hf0:firstC G 1 q.length (.slice (some ⟨n,off,none⟩) q.length q.length)=some (iv q):=by
   rw[first_bk hb (by simp only; omega),zD0,ht]
  simp only[aBuiltin,aAppend,u35,s3,by3,z3,i35,zA1,zA3,lenV,hfx,zC7,Nat.one_mul,aAppend2]
  rw[if_pos ⟨trivial,by exact hsm,rfl⟩,if_neg (by omega)]
  simp only[hf0,zA3,iv_one,exactAp,exactAt,hop,zA6,Bool.not_true,h1]
  rw[show (iv q).length=q.length by simp[iv]]
  simp only[zD0,decide_true,zC9,List.all_cons,List.all_nil,one_int,if_true,hiv]
  rw[if_pos ⟨trivial,by rw[zD9]; omega⟩,g1]
  rfl
theorem insert98_c (H:AHeap) (v:Value) (q:List Int) (i:Nat) (k:Int) (nb:Nat) (hq:QAt H v q) (hi:i<=q.length) (hnb:bk H nb=some ⟨3,false,[.int .i64 k]⟩) (hlt:nb<H.next) (hl:q.length<=100000) (hok:H.base<=H.next) :
  CallA Tryz.prog 98 [v,.int .i64 (i:Int),.slice (some ⟨nb,0,some 0⟩) 1 1] H (fun out X=>∃ w,out=.ok w/\QAt X w (q.take i++k::q.drop i)/\Mod (idsV v) H X/\∀ n∈idsV w,H.next<=n):=by
 by_cases hie:i=q.length
 ·obtain⟨b,hb⟩:=Go.Ax.exq H.next
  obtain⟨a0,ev⟩:=hq.sl
  obtain⟨G,g1,g2,g3,g4⟩:=q_app hq hnb (by omega) hok
  have hcut:∃ w,aSlice Tryz.prog (ext H []) 35 v (some (.int .i64 (i:Int))) none none=some (w,ext H []):=by
   rw[ext_nil]
   rcases hq with⟨rfl,rfl⟩|⟨rfl,n,off,o,M,rfl,hbn,hln,hle⟩|⟨h0,n,off,M,rfl,hbn,hln,hle,ht⟩
   ·rw[hie]
    simp[aSlice,s3,aSlice2,bound]
   ·rw[hie]
    simp[aSlice,s3,aSlice2,bound,exactAt]
   ·refine⟨.slice (some ⟨n,off+i*1,some (off+1)⟩) 0 0,?_⟩
    simp only[aSlice,u35,s3,aSlice2,bound,exactAt,isOpen_bk hbn,zA1,zA3,zA6,Bool.not_true,zB5]
    rw[if_pos (by omega),zA3,if_pos (by omega),if_neg (by omega),if_neg (by omega),if_neg (by omega)]
  obtain⟨w0,hcut⟩:=hcut
  have hd:decide ((i:Int)=(q.length:Int))=true:=decide_eq_true (by omega)
  have h10:decide (((1:Nat):Int)=0)=false:=by decide
  rw[zE8 (by omega),List.drop_of_length_le (by omega)]
  rw[ev]at g1 hcut ⊢
  refine callE_fn mixed Tryz.func98 rfl Tryz.ntmps98 (zB3 rfl) ?_
  have g1':aBuiltin Tryz.prog (ext H []) .append #[35,35] [.slice a0 q.length q.length,.slice (some ⟨nb,0,some 0⟩) 1 1]=some (.slice (some ⟨b,0,none⟩) (q.length+1) (q.length+1),G):=by rw[<-hb]; exact g1
  have hF:∀ i:Decidable False,@decide False i=false:=fun i=>by simp
  simp only[hb,hcut,hd,h10,g1',Tryz.results98,ruW,xF,ruU,entryE,Nat.reduceLT,Nat.reduceAdd,Nat.reduceEqDiff]
  rw[hb]at g2
  rw[<-ev]
  exact⟨_,rfl,g2,g3,fun n hn=>by simp only[idsV,zA4]at hn; omega⟩
 ·have hil:i<q.length:=by omega
  rcases hq with⟨rfl,rfl⟩|⟨rfl,n,off,o,M,rfl,hbn,hln,hle⟩|⟨h0,n,off,M,rfl,hbn,hln,hle,ht⟩
  ·simp at hil
  ·simp at hil
  ·obtain⟨rv,h1,h2,h3⟩:=bk_blk hbn
   obtain⟨ru,u1,u2,u3'⟩:=bk_blk hnb
   simp only at h1 h2 h3 u1 u2 u3'
   obtain⟨cc,ff,hgu⟩:=cellsAt_get u1
   have hnn:n≠nb:=fun e=>by
    subst e
    rw[hbn]at hnb
    cases hnb
   have hgets:rv.gets off q.length=iv q:=by
    rw[<-ht]
    exact Blk.gets h2 h3 _ _ hle
   have hu0:ru.get 0=.int .i64 k:=by
    have:=u3' 0 (by rw[zC7]; omega)
    rw[this]; rfl
   have hall:(iv q).all isI64=true:=by
    rw[zD4]
    intro x hx
    rw[iv,zD5]at hx
    obtain⟨y,_,rfl⟩:=hx
    rfl
   have hins:insK 98 3 98 [.slice (some ⟨n,off,none⟩) q.length q.length,.int .i64 (i:Int),.slice (some ⟨nb,0,some 0⟩) 1 1] H=some (.slice (some ⟨H.next,0,none⟩) (q.length+1) (q.length+1),(H.upd n none).new ⟨.cells #[] 3,true,RV.ofList (iv (q.take i++k::q.drop i))⟩):=by
    have e1:(Nat.beq 98 98&&decide (0<=(i:Int))&&Nat.blt ((i:Int)).toNat q.length&&Nat.ble q.length 1000000)=true:=by
     simp only[zA7,decide_eq_true_eq]
     exact⟨⟨⟨rfl,by omega⟩,by rw[zB5]; exact blt_of hil⟩,by rw[zD9]; omega⟩
    have e2:(Nat.beq 3 3&&Nat.ble q.length q.length&&Nat.ble (off+q.length) rv.n&&Nat.blt 0 ru.n&&!(Nat.beq n nb)&&(rv.gets off q.length).all isI64&&isI64 (ru.get 0))=true:=by
     rw[hgets,hall,hu0]
     simp only[zA7,Bool.not_eq_true']
     refine⟨⟨⟨⟨⟨⟨rfl,by rw[zD9]; omega⟩,by rw[zD9,h2]; omega⟩,blt_of (by rw[u2]; simp)⟩,?_⟩,trivial⟩,rfl⟩
     rw[<-Bool.not_eq_true,Nat.beq_eq]
     exact hnn
    have e3:iv (q.take i++k::q.drop i)=(rv.gets off q.length).take ((i:Int)).toNat++(ru.get 0::(rv.gets off q.length).drop ((i:Int)).toNat):=by
     rw[hgets,hu0,zB5]
     simp[iv,List.map_take,List.map_drop]
    rw[e3]
    simp only[insK,e1,if_true,h1,hgu,e2]
   have hc:=ins_known laysI (e3:=3) rfl 98 _ _ _ _ hins
   obtain⟨G',g1,g2,g3,g4⟩:=q_new (l:=q.take i++k::q.drop i) hok hln
   rw[aNew_nw (scbL_iv _ _)]at g1
   simp only[Option.some.injEq]at g1
   subst g1
   refine⟨_,_,hc,_,rfl,?_,?_,fun m hm=>by simp only[idsV,zA4]at hm; omega⟩
   ·have hQ:=QAt.mk (l:=q.take i++k::q.drop i) (by simp; omega) g4 (by omega)
    rw[show (q.take i++k::q.drop i).length=q.length+1 by simp; omega]at hQ
    exact hQ
   ·exact g2
end Go.Proofs.YtnigelgcjfhghaaGreatDoor
namespace Go.Ax
section
variable {P : Program} {ro : Option Nat} {H : AHeap} {N : Nat} {E : Env} {ds : List Deferred} {ops : Array Oper} {rest : List Oper} {ty : TypeId} {pos : String} {after : Array Edge} {d i : Nat} {fps : List Fp} {anc : List Nat}
theorem w_mapUp {Q:Exit->AAct->AHeap->Prop} {t:TypeId} {x k y:Operand} (hx:opOk P N x=true) (hk:opOk P N k=true) (hy:opOk P N y=true):wpOps P ro ops (⟨none,.mapUpdate t x k y,ty,pos,after,none⟩::rest) (mkA N E ds) H Q=storeC P ro ops rest (mkA N E ds) Q (aMapUpdate P H t (opv E x) (opv E k) (opv E y)):=by
 rw[w_op rfl rfl]
 simp only[opA,aop,xMapUpdate,aeval_opv hx,aeval_opv hk,aeval_opv hy,ruh,zA1,zA3]
 cases aMapUpdate P H t (opv E x) (opv E k) (opv E y) with
 |none=>rfl
 |some H1=>simp only[zA6,nextA,opC,put_none,storeC]
theorem isDef_mapUp {t:TypeId} {x k y:Operand}:isDef (.mapUpdate t x k y)=false:=by simp only[isDef]
theorem wd_look {Q:AAct->AHeap->Prop} {t:TypeId} {x k:Operand} {ok:Bool} {v:Value} (F:List Nat) (hx:opOk P N x=true) (hk:opOk P N k=true) (hd:d<N) (hF:∀ n∈F,H.get n≠none)
  (hc:∀ G:AHeap,(∀ n∈F,G.get n=H.get n)->aLookup P G t (opv E x) (opv E k) ok=some v) (hm:∀ r∈fps,Meets (anc.getD i 0) F [] (idsV v++([]:List Bl).flatMap fun x=>idsL x.l) r)
  (h:wkD P ops anc rest (i+1) (⟨i,F,[],H.next,H.next⟩::fps) (mkA N (upd E d v) ds) (ext H []) Q):wkD P ops anc (⟨some d,.lookup t x k ok,ty,pos,after,none⟩::rest) i fps (mkA N E ds) H Q:=by
 have hg:wkD P ops anc (⟨some d,.lookup t x k ok,ty,pos,after,none⟩::rest) i fps (mkA N E ds) H Q=genV P ops anc ⟨some d,.lookup t x k ok,ty,pos,after,none⟩ rest i fps (mkA N E ds) H Q:=by
  simp only[wkD,wantA,stepD,pureOp,restD,newOp,genV]
 rw[hg]
 refine genV_extO (v:=v) (M:=[]) F rfl hd hF (fun G _ h4=>opS_of (x:=.value v) (g:=G) ?_ ⟨rfl,rfl⟩) hm h
 simp only[aop,xLookup,aeval_opv hx,aeval_opv hk,zA1,zA3,hc G h4,rv,zA6]
end
end Go.Ax
namespace Go.Proofs.YtnigelgcjfhghaaGreatDoor
open Go.Ax
set_option maxRecDepth 100000
def MapsTo (es:List MapEntry) (f:Int->Option Value):Prop:=∀ (a:Int) (j:Nat),match f a with
 |none=>Instr.findNow (.int .i64) (.int .i64 a) es j=some none
 |some v=>∃ i,Instr.findNow (.int .i64) (.int .i64 a) es j=some (some (i,v))
theorem MapsTo.nil:MapsTo [] fun _=>none:=fun a j=>rfl
theorem same_int (a b:Int):Instr.sameNow (.int .i64) (.int .i64 a) (.int .i64 b)=some (a == b):=by simp[Instr.sameNow]
theorem MapsTo.push {es:List MapEntry} {f:Int->Option Value} {k:Int} {v:Value} {c:Nat} (h:MapsTo es f) (hk:f k=none):MapsTo (es++[{key:=.int .i64 k,val:=v,born:=c}]) fun a=>if a=k then some v else f a:=by
 have key:∀ (es:List MapEntry) (a:Int) (j:Nat),Instr.findNow (.int .i64) (.int .i64 a) es j=some none->Instr.findNow (.int .i64) (.int .i64 a) (es++[{key:=.int .i64 k,val:=v,born:=c}]) j=if a=k then some (some (j+es.length,v)) else some none:=by
  intro es a
  induction es with
  |nil =>
   intro j _
   simp only[zD6,Instr.findNow,same_int,zC5,zE0]
   by_cases e:a=k
   ·rw[if_pos e,e,show (k == k)=true by simp]
   ·rw[if_neg e,show (a == k)=false by simpa using e]
  |cons x r ih =>
   intro j h
   simp only[List.cons_append,Instr.findNow]at h ⊢
   split at h
   ·cases h
   ·rename_i hs
    rw[ih (j+1) h]
    rw[zA8,show j+1+r.length=j+(r.length+1) by omega]
   ·cases h
 have key2:∀ (es:List MapEntry) (a:Int) (j i:Nat) (w:Value),Instr.findNow (.int .i64) (.int .i64 a) es j=some (some (i,w))->Instr.findNow (.int .i64) (.int .i64 a) (es++[{key:=.int .i64 k,val:=v,born:=c}]) j=some (some (i,w)):=by
  intro es a
  induction es with
  |nil=>intro j i w h; cases h
  |cons x r ih =>
   intro j i w h
   simp only[List.cons_append,Instr.findNow]at h ⊢
   split at h
   ·exact h
   ·exact ih (j+1) i w h
   ·cases h
 intro a j
 have ha:=h a j
 by_cases e:a=k
 ·subst e
  rw[hk]at ha
  simp only[if_true]
  exact⟨_,by rw[key es a j ha,if_pos rfl]⟩
 ·simp only[if_neg e]
  cases hf:f a with
  |none =>
   rw[hf]at ha
   simp only at ha ⊢
   rw[key es a j ha,if_neg e]
  |some w =>
   rw[hf]at ha
   simp only at ha ⊢
   obtain⟨i,hi⟩:=ha
   exact⟨i,key2 es a j i w hi⟩
def MpAt (H:AHeap) (r:Nat) (f:Int->Option Value):Prop:=r<H.next/\∃ es c,H.get r=some (mapO es c)/\MapsTo es f
section
variable {H G : AHeap} {r : Nat} {f : Int -> Option Value}
theorem MpAt.of (h:MpAt H r f) (hn:H.next<=G.next) (hg:G.get r=H.get r):MpAt G r f:=by
 obtain⟨h1,es,c,h2,h3⟩:=h
 exact⟨by omega,es,c,hg.trans h2,h3⟩
theorem MpAt.mod {W:List Nat} (h:MpAt H r f) (m:Mod W H G) (hr:r∉W):MpAt G r f:=h.of m.next (m.get r h.1 hr)
theorem MpAt.ne (h:MpAt H r f):H.get r≠none:=by
 obtain⟨_,es,c,h2,_⟩:=h
 rw[h2]; simp
theorem u87:Tryz.prog.underlying 87=some (.map 3 3):=by kernel_rfl
theorem u88:Tryz.prog.underlying 88=some (.map 3 93):=by kernel_rfl
theorem z93:zeroOf Tryz.prog 93=some (.agg #[.int .i64 0,.int .i64 0,.slice none 0 0]):=by kernel_rfl
theorem MpAt.look (h:MpAt H r f) {t e:TypeId} (hu:Tryz.prog.underlying t=some (.map 3 e)) {z:Value} (hz:zeroOf Tryz.prog e=some z) (a:Int) (ok:Bool) (G:AHeap) (hg:G.get r=H.get r):aLookup Tryz.prog G t (.map (some r)) (.int .i64 a) ok=some (match f a with
  |some v=>if ok then .tuple #[v,.bool true] else v
  |none=>if ok then .tuple #[z,.bool false] else z):=by
 obtain⟨_,es,c,h2,h3⟩:=h
 have hm:mapAt G (some r)=some ⟨es⟩:=by simp only[mapAt,hg,h2,mapO]
 have ha:=h3 a 0
 simp only[aLookup,hu,hm,u3,zA1,zA3,keyOk,keyKind,zC9,if_true]
 cases hf:f a with
 |none=>rw[hf]at ha; simp only at ha; rw[ha,hz]; rfl
 |some v=>rw[hf]at ha; obtain⟨i,hi⟩:=ha; rw[hi]
theorem MpAt.put (h:MpAt H r f) (hok:H.base<=H.next) {t e:TypeId} (hu:Tryz.prog.underlying t=some (.map 3 e)) {k:Int} {v:Value} (hk:f k=none) (hv:scb H.next v=true):∃ G,aMapUpdate Tryz.prog H t (.map (some r)) (.int .i64 k) v=some G/\MpAt G r (fun a=>if a=k then some v else f a)/\Mod [r] H G/\G.next=H.next:=by
 obtain⟨h1,es,c,h2,h3⟩:=h
 have ha:=h3 k 0
 rw[hk]at ha
 simp only at ha
 refine⟨H.upd r (some (mapO (es++[{key:=.int .i64 k,val:=v,born:=c}]) (c+1))),?_,⟨h1,_,_,by rw[AHeap.get_upd,if_pos rfl],h3.push hk⟩,Mod.upd (by simp),rfl⟩
 unfold aMapUpdate
 rw[hu]
 simp only[h2,mapO,u3,zA1,zA3,keyOk,keyKind,hv,zC9,if_true,ha]
 simp
end
set_option maxRecDepth 100000
abbrev Ss:=List (Option (St × Value))
def ksS (ss:Ss):Ks:=ss.map fun x=>x.map (·.1)
def stF (ss:Ss) (a:Int):Option Value:=if 0<=a then match ss.getD a.toNat none with
 |some p=>some (stC p.1 p.2)
 |none=>none else none
def ixF (l:List Ins) (a:Int):Option Value:=if 0<=findR l a then some (.int .i64 (findR l a)) else none
theorem stF_nat {ss:Ss} {i:Nat}:stF ss (i:Int)=match ss.getD i none with
 |some p=>some (stC p.1 p.2)
 |none=>none:=by rw[stF,if_pos (by omega),zB5]
theorem stF_set {ss:Ss} {i:Nat} {s:St} {v:Value} (hi:i<ss.length):stF (ss.set i (some (s,v)))=fun a=>if a=(i:Int) then some (stC s v) else stF ss a:=by
 funext a
 unfold stF
 by_cases h0:0<=a
 ·rw[if_pos h0,if_pos h0]
  by_cases e:a=(i:Int)
  ·rw[if_pos e,e,zB5,zA9,List.getElem?_set_self hi]
   rfl
  ·rw[if_neg e,zA9,List.getElem?_set_ne (fun h=>e (by omega)),<-zA9]
 ·rw[if_neg h0,if_neg h0,if_neg (by omega)]
structure VAt (H:AHeap) (v r ix d0 d1:Nat) (least most depth:Int) (u p lv:Value) (ls:List Iv) (ss:Ss) (qv:Value) (q:List Int):Prop where
 vb:bk H v=some ⟨90,false,vfC least most depth u p lv (.map (some ix)) (.map (some r)) qv⟩
 vl:v<d0
 rl:r<d0
 vn:v<H.next
 ins:InsRd H lv ls
 insd:∀ k∈insF lv ls,d0<=k/\k<d1
 ixm:MpAt H ix (ixF (ls.map (·.1)))
 ixd:d1<=ix
 ixr:ix≠r
 sts:MpAt H r (stF ss)
 que:QAt H qv q
 qd:∀ k∈idsV qv,d1<=k
 fr:∀ (i:Nat) (s:St) (fv:Value),ss[i]?=some (some (s,fv))->FrAt 176 H fv s.fs
theorem bk_map {H:AHeap} {r:Nat} {es:List MapEntry} {c:Nat} (h:H.get r=some (mapO es c)):bk H r=none:=by
 simp only[bk,cellsAt,h,mapO,Option.map_none]
theorem MpAt.bk {H:AHeap} {r:Nat} {f:Int->Option Value} (h:MpAt H r f):Go.Ax.bk H r=none:=by
 obtain⟨_,es,c,h2,_⟩:=h
 exact bk_map h2
theorem QAt.ids {H:AHeap} {v:Value} {q:List Int} (h:QAt H v q):∀ n∈idsV v,∃ M,bk H n=some ⟨3,true,M⟩:=by
 rcases h with⟨rfl,rfl⟩|⟨rfl,n,off,o,M,rfl,hb,hl,hle⟩|⟨h0,n,off,M,rfl,hb,hl,hle,ht⟩
 ·intro n hn; simp[idsV]at hn
 all_goals
  intro k hk
  simp only[idsV,zA4]at hk
  subst hk
  exact⟨M,hb⟩
theorem FrAt.ids {H:AHeap} {v:Value} {fs:List Fr} (h:FrAt 176 H v fs):∀ n∈idsV v,∃ M,bk H n=some ⟨176,true,M⟩:=by
 obtain⟨rfl,rfl⟩|⟨n,c,M,rfl,hc,hb,hn,hl,ht⟩:=h
 ·intro n hn; simp[idsV]at hn
 ·intro k hk
  simp only[idsV,zA4]at hk
  subst hk
  exact⟨M,hb⟩
theorem FrAt.apart {H:AHeap} {fv qv:Value} {fs:List Fr} {q:List Int} {v r:Nat} {L:List Value} {f:Int->Option Value} (h:FrAt 176 H fv fs) (hv:bk H v=some ⟨90,false,L⟩) (hr:MpAt H r f) (hq:QAt H qv q):∀ k∈idsV fv,k∉v::r::idsV qv:=by
 intro k hk hm
 obtain⟨M,hM⟩:=h.ids k hk
 rcases zB0.1 hm with rfl|hm
 ·rw[hv]at hM; cases hM
 rcases zB0.1 hm with rfl|hm
 ·rw[hr.bk]at hM; cases hM
 ·obtain⟨M',hM'⟩:=hq.ids k hm
  rw[hM]at hM'; cases hM'
theorem srt_take:∀ {q:List Int} {i:Int},q.Pairwise (· < ·)->i∉q->q.take (posQ q i)=q.filter (fun x=>decide (x<i))/\q.drop (posQ q i)=q.filter (fun x=>decide (i<x))
 |[],i,_,_=>by simp[posQ]
 |x::r,i,h,hn=>by
  rw[List.pairwise_cons]at h
  have ih:=srt_take h.2 (fun hm=>hn (zB9 _ hm))
  have hne:i≠x:=fun e=>hn (e▸zB8 ..)
  by_cases hx:x<i
  ·have hp:posQ (x::r) i=posQ r i+1:=by
    rw[posQ,List.filter_cons,if_pos (by simpa using hx),zA8]; rfl
   rw[hp,List.take_succ_cons,List.drop_succ_cons,ih.1,ih.2,List.filter_cons,if_pos (by simpa using hx),List.filter_cons,if_neg (by simp; omega)]
   exact⟨rfl,rfl⟩
  ·have hall:∀ y∈r,¬y<i:=fun y hy=>by have:=h.1 y hy; omega
   have hf:r.filter (fun x=>decide (x<i))=[]:=by
    rw[List.filter_eq_nil_iff]
    intro y hy
    simpa using hall y hy
   have hp:posQ (x::r) i=0:=by
    rw[posQ,List.filter_cons,if_neg (by simpa using hx),hf]; rfl
   have hg:r.filter (fun x=>decide (i<x))=r:=by
    rw[List.filter_eq_self]
    intro y hy
    have:=h.1 y hy
    exact decide_eq_true (by omega)
   rw[hp,List.take_zero,zF0,List.filter_cons,if_neg (by simpa using hx),hf,List.filter_cons,if_pos (by simp; omega),hg]
   exact⟨rfl,rfl⟩
def qI (l:List Nat):List Int:=l.map fun n:Nat=>(n:Int)
theorem qI_sorted {l:List Nat} (h:l.Pairwise (· < ·)):(qI l).Pairwise (· < ·):=by
 rw[qI,List.pairwise_map]
 exact h.imp fun h=>by omega
theorem qI_filter (l:List Nat) (i:Nat):(qI l).filter (fun x=>decide (x<(i:Int)))=qI (l.filter fun j=>decide (j<i))/\(qI l).filter (fun x=>decide ((i:Int)<x))=qI (l.filter fun j=>decide (i<j)):=by
 induction l with
 |nil=>exact⟨rfl,rfl⟩
 |cons a r ih =>
  simp only[qI,zB4,List.filter_cons]at ih ⊢
  have e1:decide (((a:Nat):Int)<(i:Int))=decide (a<i):=decide_eq_decide.2 (by omega)
  have e2:decide ((i:Int)<((a:Nat):Int))=decide (i<a):=decide_eq_decide.2 (by omega)
  rw[e1,e2]
  constructor
  ·split
   ·rw[zB4,ih.1]
   ·exact ih.1
  ·split
   ·rw[zB4,ih.2]
   ·exact ih.2
theorem que_ins {ks:Ks} {dn:List Bool} {i:Nat} {s:St} (hi:i<ks.length) (h0:ks.getD i none=none) (hd:dn.getD i false=false) :
  (qI (queR ks dn)).take (posQ (qI (queR ks dn)) i)++(i:Int)::(qI (queR ks dn)).drop (posQ (qI (queR ks dn)) i)=qI (queR (ks.set i (some s)) dn):=by
 have hn:i∉queR ks dn:=fun h=>by
  rw[queR,List.mem_filter,knU,h0]at h
  simp at h
 have hn':(i:Int)∉qI (queR ks dn):=fun h=>by
  rw[qI,zD5]at h
  obtain⟨a,ha,e⟩:=h
  exact hn ((show a=i by omega)▸ha)
 obtain⟨t1,t2⟩:=srt_take (qI_sorted (que_sorted ks dn)) hn'
 obtain⟨f1,f2⟩:=qI_filter (queR ks dn) i
 rw[t1,t2,f1,f2,que_give hi h0 hd]
 simp[qI]
end Go.Proofs.YtnigelgcjfhghaaGreatDoor
namespace Go.Ax
section
variable {P : Program} {ro : Option Nat} {H : AHeap} {N : Nat} {E : Env} {ds : List Deferred} {Q : Exit -> AAct -> AHeap -> Prop}
theorem opC_error {ops:Array Oper} {rest:List Oper} {a:AAct} {dst:Option Nat} {ch:List PanicEntry}:opC P ro ops rest a dst Q (.error ch) H=Q (.panic ch) a H:=by simp only[opC]
theorem joinR_panic {J:Env->AHeap->Prop} {a:AAct} {ch:List PanicEntry}:joinR N ds J Q (.panic ch) a H=Q (.panic ch) a H:=Eq.trans rfl rfl
theorem endA_panic {fn:Func} {R:Out->AHeap->Prop} {ch:List PanicEntry}:endA P fn R (.panic ch) (mkA N E ds) H=leaveA P fn (mkA N E ds) ds (.panicking ch) H R:=Eq.trans rfl rfl
theorem lv_panic {fn:Func} {a:AAct} {R:Out->AHeap->Prop} {ch:List PanicEntry}:leaveA P fn a [] (.panicking ch) H R=R (.error ch) H:=by simp only[leaveA]
def panC (Q:Exit->AAct->AHeap->Prop) (a:AAct) (H:AHeap):Value->Prop
 |.iface t y=>Q (.panic [{v:=.iface t y,recovered:=false}]) a H
 |_=>False
theorem panC_iface {a:AAct} {t:TypeId} {y:Value}:panC Q a H (.iface t y)=Q (.panic [{v:=.iface t y,recovered:=false}]) a H:=by simp only[panC]
theorem w_panic {ops:Array Oper} {rest:List Oper} {dst:Option Nat} {ty:TypeId} {pos:String} {after:Array Edge} {x:Operand} (hx:opOk P N x=true):wpOps P ro ops (⟨dst,.panic x,ty,pos,after,none⟩::rest) (mkA N E ds) H Q=panC Q (mkA N E ds) H (opv E x):=by
 rw[w_op rfl rfl]
 simp only[opA,aop,xPanic,aeval_opv hx,zA1,zA3]
 cases opv E x<;>simp only[panicV,nextA,opC,panC]
theorem settle_returning:settle .returning=.returning:=rfl
end
section
variable {P : Program} {rec : Rec} {H H1 g : AHeap} {a a1 : AAct} {u u1 : FrameMode}
theorem runSeq_ok {top:Bool} {ops:Array Oper} {o:Oper} {rest:List Oper} {v:Value} (hw:wantA ops a o=some true) (ho:opF P rec a H o=some (.ok v,g)):runSeq P rec top ops (o::rest) a H=runSeq P rec top ops rest (a.put o.dst v) g:=by simp only[runSeq,hw,ho]
theorem runS_seq {x y:Code} (h:runS P rec x a u H=some (.normal,a1,u1,H1)):runS P rec (.seq x y) a u H=runS P rec y a1 u1 H1:=by simp only[runS,h]
theorem runS_cond {c:Operand} {x y:Code} (h:aeval P a c=some (.bool true)):runS P rec (.cond c x y) a u H=runS P rec x a u H:=by simp only[runS,h]
theorem runS_reg {id:Nat} {ops:Array Oper} {e:Exit} (hn:(ops.toList.any fun o=>isRec o.op)=false) (h:rec.run none (.region id ops false) a H=some (e,a1,H1)):runS P rec (.region id ops false) a u H=some (e,a1,u,H1):=by
 simp only[runS,hn,h,zA6]
theorem runS_rec {id:Nat} {ops:Array Oper} (hn:(ops.toList.any fun o=>isRec o.op)=true):runS P rec (.region id ops false) a u H=runOpsS P ops ops.toList a u H:=by
 simp only[runS,hn]
theorem opF_store {o:Oper} {t:TypeId} {x y:Operand} {p v:Value} (ho:o.op=.store t x y) (hx:aeval P a x=some p) (hy:aeval P a y=some v) (h:aStore P H t p v=some g):opF P rec a H o=some (.ok undef,g):=by
 simp only[opF,ho,aop,xStore,hx,hy,zA1,zA3,h,ruh,zA6,doN]
theorem opF_load {o:Oper} {t:TypeId} {x:Operand} {p v:Value} (ho:o.op=.load t x) (hx:aeval P a x=some p) (h:aLoad P H t p=some v):opF P rec a H o=some (.ok v,H):=by
 simp only[opF,ho,aop,xLoad,hx,zA1,zA3,h,rv,zA6,doN]
end
section
variable {P : Program} {ro : Option Nat} {H : AHeap} {N : Nat} {E : Env} {ds : List Deferred} {ops : Array Oper} {rest : List Oper} {ty : TypeId} {pos : String} {after : Array Edge} {Q : Exit -> AAct -> AHeap -> Prop}
theorem w_deferV {f:FuncId} {x:Operand} {args:List Operand} {ts:Array TypeId} {ca:List Value} (hx:opOk P N x=true) (hv:opv E x=.func (.func f) ⟨[]⟩ ⟨ca⟩) (ha:args.all (opOk P N)=true):wpOps P none ops (⟨none,.defer ⟨.value x,⟨args⟩,ts⟩,ty,pos,after,none⟩::rest) (mkA N E ds) H Q=wpOps P none ops rest (mkA N E (⟨.fn (.func f) ⟨ca⟩,⟨args.map (opv E)⟩⟩::ds)) H Q:=by
 simp only[wpOps,wantA,aDefer,aevals_opv ha,aeval_opv hx,hv,zA1,zA3,deferV]
 rfl
end
end Go.Ax
namespace Go.Proofs.YtnigelgcjfhghaaGreatDoor
open Go.Ax
set_option maxRecDepth 100000
def faultP (e a:Int):PanicEntry:={v:=.iface 134 (.agg ⟨[.int .i64 e,.int .i64 a]⟩),recovered:=false}
theorem fail_f (H:AHeap) (e a:Int):Pure 73 [.bool false,.int .i64 e,.int .i64 a] H (.tuple #[]):=by
 refine callS_fn mixed Tryz.func73 rfl Tryz.ntmps73 (zB3 rfl) fun wf hsc=>?_
 simp only[Tryz.results73,ruW,ruU,entryE,Nat.reduceLT,Nat.reduceAdd,Nat.reduceEqDiff]
 exact Fin.pureE rfl rfl
theorem fail_t (H:AHeap) (e a:Int) (R:Out->AHeap->Prop) (hR:R (.error [faultP e a]) H):CallA Tryz.prog 73 [.bool true,.int .i64 e,.int .i64 a] H R:=by
 refine callE_fn mixed Tryz.func73 rfl Tryz.ntmps73 (zB3 rfl) ?_
 simp only[w_panic,panC_iface,endA_panic,lv_panic,ruW,xF,ruU,entryE,Nat.reduceLT,Nat.reduceAdd,Nat.reduceEqDiff]
 rw[ext_nil]
 exact hR
def rg71 (q:Nat):AAct:=⟨{RV.ofList [.pointer (some ⟨q,0,none⟩)]with n:=16},[]⟩
def faultR (e a:Int):PanicEntry:={faultP e a with recovered:=true}
theorem st134 (H:AHeap) (hok:H.base<=H.next) (e a:Int):aStore Tryz.prog (H.new (Bl.obj ⟨134,false,[.int .i64 0,.int .i64 0]⟩)) 134 (.pointer (some ⟨H.next,0,none⟩)) (.agg #[.int .i64 e,.int .i64 a])=some (ext H [⟨134,false,[.int .i64 e,.int .i64 a]⟩]):=by
 have h:=store_new (P:=Tryz.prog) (H:=H) (L:=[⟨134,false,[.int .i64 0,.int .i64 0]⟩]) (b:=H.next) (i:=0) (off:=0) (t:=134) (v:=.agg #[.int .i64 e,.int .i64 a]) rfl hok (by decide)
 have hs:stB Tryz.prog 134 (H.next+1) 0 (.agg #[.int .i64 e,.int .i64 a]) (some ⟨134,false,[.int .i64 0,.int .i64 0]⟩)=some ⟨134,false,[.int .i64 e,.int .i64 a]⟩:=by
  rw[stB_ok (v:=.agg #[.int .i64 e,.int .i64 a]) (by kernel_rfl) (by simp[Value.cells]) rfl rfl]
  rfl
 simp only[zC7,zE9,hs,zA6,List.set_cons_zero,zE0]at h
 exact h
theorem ld134 (H:AHeap) (e a:Int):aLoad Tryz.prog (ext H [⟨134,false,[.int .i64 e,.int .i64 a]⟩]) 134 (.pointer (some ⟨H.next,0,none⟩))=some (.agg #[.int .i64 e,.int .i64 a]):=by
 have h:rk (ext H [⟨134,false,[.int .i64 e,.int .i64 a]⟩]) (H.next+0)=some ⟨134,false,[.int .i64 e,.int .i64 a]⟩:=rk_of (by rw[bk_at rfl (by simp)]; rfl)
 rw[load_bk]
 show ldB Tryz.prog 134 0 (rk (ext H [⟨134,false,[.int .i64 e,.int .i64 a]⟩]) (H.next+0))=_
 rw[h,ld_agg (by kernel_rfl),show szOf Tryz.prog 134=some 2 by kernel_rfl,zA3,if_pos (by simp)]
 rfl
theorem st26 (H:AHeap) (q:Nat) (x y e a:Int) (hq:bk H q=some ⟨26,false,[.int .i64 x,.int .i64 y]⟩) (hl:q<H.next) (L:List Bl):aStore Tryz.prog (ext H L) 26 (.pointer (some ⟨q,0,none⟩)) (.agg #[.int .i64 e,.int .i64 a])=some (ext (uw H q 0 [.int .i64 e,.int .i64 a]) L):=by
 rw[store_old hl]
 rw[hq]
 rfl
theorem exec71 (H:AHeap) (hok:H.base<=H.next) (q:Nat) (x y e a:Int) (hq:bk H q=some ⟨26,false,[.int .i64 x,.int .i64 y]⟩) (hl:q<H.next):enterD Tryz.prog (recX Tryz.prog) 71 [.pointer (some ⟨q,0,none⟩)] (.panicking [faultP e a]) H=some (.ok (.tuple ⟨[]⟩),.panicking [faultR e a],ext (uw H q 0 [.int .i64 e,.int .i64 a]) [⟨134,false,[.int .i64 e,.int .i64 a]⟩]):=by
 have hr:∃ e1,runS Tryz.prog (recX Tryz.prog) (Tryz.f71.body.getD .skip) (rg71 q) (.panicking [faultP e a]) H=some (.normal,⟨e1,[]⟩,.panicking [faultR e a],ext (uw H q 0 [.int .i64 e,.int .i64 a]) [⟨134,false,[.int .i64 e,.int .i64 a]⟩]):=by
  show ∃ e1,runS Tryz.prog (recX Tryz.prog) (.seq _ (.seq _ (.cond _ (.seq _ (.seq _ _)) _))) (rg71 q) (.panicking [faultP e a]) H=_
  apply Exists.intro
  refine (runS_seq ((runS_rec rfl).trans rfl)).trans ?_
  refine (runS_seq (runS_reg rfl rfl)).trans ?_
  refine (runS_cond rfl).trans ?_
  refine (runS_seq (runS_reg rfl (Eq.trans (show (recX Tryz.prog).run none _ _ H=runSeq Tryz.prog (exec Tryz.prog (fun _ _ _=>none) 59) true _ _ _ H from rfl) ((runSeq_ok rfl rfl).trans ((runSeq_ok rfl rfl).trans ((runSeq_ok rfl rfl).trans ((runSeq_ok rfl rfl).trans ((runSeq_ok rfl rfl).trans ((runSeq_ok rfl rfl).trans ((runSeq_ok rfl (opF_store rfl rfl rfl (st134 H hok e a))).trans ((runSeq_ok rfl rfl).trans rfl))))))))))).trans ?_
  refine (runS_seq ((runS_seq (runS_reg rfl rfl)).trans rfl)).trans ?_
  refine (runS_reg rfl (Eq.trans (show (recX Tryz.prog).run none _ _ (ext H _)=runSeq Tryz.prog (exec Tryz.prog (fun _ _ _=>none) 59) true _ _ _ (ext H _) from rfl) ((runSeq_ok rfl (opF_load rfl rfl (ld134 H e a))).trans ((runSeq_ok rfl (opF_store rfl rfl rfl (st26 H q x y e a hq hl _))).trans rfl)))).trans ?_
  rfl
 obtain⟨e1,hr⟩:=hr
 have hb:Tryz.f71.body=some (Tryz.f71.body.getD .skip):=rfl
 simp only[enterD,Tryz.func71,zA1,zA3]
 rw[hb,zA3]
 show (runS Tryz.prog (recX Tryz.prog) (Tryz.f71.body.getD .skip) (rg71 q) _ H).bind _=_
 rw[hr]
 rfl
set_option maxRecDepth 100000
theorem ksS_get {ss:Ss} {i:Nat}:(ksS ss)[i]?=ss[i]?.map fun x=>x.map (·.1):=by simp[ksS]
theorem ksS_set {ss:Ss} {i:Nat} {s:St} {v:Value}:ksS (ss.set i (some (s,v)))=(ksS ss).set i (some s):=by simp[ksS,List.map_set]
theorem ksS_len {ss:Ss}:(ksS ss).length=ss.length:=by simp[ksS]
theorem VAt.mod0 {H G:AHeap} {v r ix d0 d1:Nat} {least most depth:Int} {u p lv:Value} {ls:List Iv} {ss:Ss} {qv:Value} {q:List Int} (V:VAt H v r ix d0 d1 least most depth u p lv ls ss qv q) (m:Mod [] H G):VAt G v r ix d0 d1 least most depth u p lv ls ss qv q where
 vb:=(m.bk V.vn (by simp)).trans V.vb
 vl:=V.vl
 rl:=V.rl
 vn:=zD2 V.vn m.next
 ins:=V.ins.mod0 m
 insd:=V.insd
 ixm:=V.ixm.mod m (by simp)
 ixd:=V.ixd
 ixr:=V.ixr
 sts:=V.sts.mod m (by simp)
 que:=V.que.of m.next fun n hn=>m.get n (V.que.ne n hn).2 (by simp)
 qd:=V.qd
 fr:=fun i s fv h=>(V.fr i s fv h).mod0 m
def GvOut (H X:AHeap) (v r ix d0 d1:Nat) (least most depth:Int) (u p lv:Value) (ls:List Iv) (qv:Value) (dn:List Bool) (at':Int) (out:Out) (len:Nat):Option Ks->Prop
 |none=>out=.error [faultP 9 at']
 |some ks'=>out=.ok (.tuple #[])/\∃ ss' qv',VAt X v r ix d0 d1 least most depth u p lv ls ss' qv' (qI (queR ks' dn))/\ksS ss'=ks'/\ss'.length=len/\∀ k∈idsV qv',k∈idsV qv\/H.next<=k
theorem give75_c (H:AHeap) (v r ix d0 d1:Nat) (least most depth:Int) (u p lv:Value) (ls:List Iv) (ss:Ss) (qv:Value) (dn:List Bool) (i:Nat) (s:St) (fv:Value) (at':Int) (V:VAt H v r ix d0 d1 least most depth u p lv ls ss qv (qI (queR (ksS ss) dn))) (hi:i<ss.length) (hl:ss.length<=100000) (hd1:d1<=H.next)
  (hf:FrAt 176 H fv s.fs) (hfl:s.fs.length<=1000000) (hdn:(ksS ss).getD i none=none->dn.getD i false=false) (hu:scb H.next u=true) (hp:scb H.next p=true) (hlv:scb H.next lv=true) (hok:H.base<=H.next) :
  CallA Tryz.prog 75 [.pointer (some ⟨v,0,none⟩),.int .i64 (i:Int),stC s fv,.int .i64 at'] H (fun out X=>Mod (v::r::idsV qv) H X/\GvOut H X v r ix d0 d1 least most depth u p lv ls qv dn at' out ss.length (giveR (ksS ss) i s)):=by
 obtain⟨b,hb⟩:=Go.Ax.exq H.next
 have hbase:H.base<=b:=hb▸hok
 obtain⟨f0,fc,ef⟩:=hf.sl
 have sfv:=hf.sc
 rw[hb,ef]at sfv
 have hvb:v<b:=by rw[<-hb]; exact V.vn
 have hrb:r<b:=hb▸V.sts.1
 have kv:=V.vb
 unfold vfC at kv
 have hks:(ksS ss).getD i none=(ss.getD i none).map (·.1):=by
  rw[zA9,zA9,ksS_get]
  cases ss[i]?<;>rfl
 refine callE_fn mixed Tryz.func75 rfl Tryz.ntmps75 (zB3 rfl) ?_
 rw[ef]
 unfold stC
 cases hx:ss.getD i none with
 |none =>
  rw[hx]at hks
  have hlk:∀ L,aLookup Tryz.prog (ext H L) 88 (.map (some r)) (.int .i64 (i:Int)) true=some (.tuple #[.agg #[.int .i64 0,.int .i64 0,.slice none 0 0],.bool false]):=fun L=>by
   have:=V.sts.look u88 z93 (i:Int) true (ext H L) (ext_get_old V.sts.1)
   rw[stF_nat,hx]at this
   exact this
  simp only[hb,hbase,sfv,hvb,kv,hlk,w_lookup,qk_old,ruW,putL,Nat.reduceLeDiff,xF,ruU,entryE,Nat.reduceLT,Nat.reduceAdd,Nat.reduceEqDiff]
  have hg:giveR (ksS ss) i s=some ((ksS ss).set i (some s)):=by rw[giveR,hks]; rfl
  rw[hg]
  generalize hX:ext H _=X
  have mX:Mod [] H X:=hX▸Mod.ext hok
  have nX:X.next=b+2:=by rw[<-hX,ext_next,hb]; rfl
  have k0:bk X (b+0)=some ⟨93,false,[.int .i64 s.h,.int .i64 s.b,.slice f0 s.fs.length fc]⟩:=by rw[<-hX,bk_at hb (by simp)]; rfl
  clear hX
  have okX:=mX.ok hok
  have VX:=V.mod0 mX
  have hfX:=hf.mod0 mX
  rw[ef]at hfX
  obtain⟨x,hx'⟩:∃ x,X.next=x:=⟨_,rfl⟩
  have l0:b+0<x:=by omega
  have lv0:v<x:=by omega
  have kvX:=VX.vb
  unfold vfC at kvX
  have stF0:stF ss (i:Int)=none:=by rw[stF_nat,hx]
  have sfx:scb X.next (.agg #[.int .i64 s.h,.int .i64 s.b,.slice f0 s.fs.length fc])=true:=by
   have:scb X.next (.slice f0 s.fs.length fc)=true:=scb_mono (by omega) _ sfv
   show (true&&(true&&(scb _ _&&true)))=true
   rw[this]; rfl
  obtain⟨Y,hput,stY,mY,nY⟩:=VX.sts.put okX u88 stF0 sfx
  have hput':aMapUpdate Tryz.prog (ext X []) 88 (.map (some r)) (.int .i64 (i:Int)) (.agg #[.int .i64 s.h,.int .i64 s.b,.slice f0 s.fs.length fc])=some Y:=hput
  rw[show X=ext X [] from rfl]
  refine w_drawP [] [] (by kernel_rfl) (by kernel_rfl) rfl rfl (fun ops anc hA hG=>?_) (by simp) ⟨rfl,rfl⟩
  simp only[dropLast_more,dropLast_one,hx',l0,lv0,k0,kvX,qk_old,ruD,ruW,Nat.reduceLeDiff,xF,ruU,Nat.reduceLT,Nat.reduceAdd,Nat.reduceEqDiff]
  simp only[lastO_cons,lastO_one,isDef_mapUp,w_mapUp,true_and,ruU,Nat.reduceLT,Nat.reduceEqDiff]
  rw[hput']
  obtain⟨y,hy⟩:=Go.Ax.exq Y.next
  have okY:=mY.ok okX
  have lv1:v<y:=by omega
  have hvr:v≠r:=fun e=>by
   have:=VX.sts.bk
   rw[<-e,VX.vb]at this
   cases this
  have hnr:∀ k,(∃ M,bk X k=some M)->k∉[r]:=fun k ⟨M,hM⟩ hk=>by
   simp only[zA4]at hk
   subst hk
   rw[VX.sts.bk]at hM
   cases hM
  have kvY:=(mY.bk VX.vn (by simpa using hvr)).trans kvX
  have qY:QAt Y qv (qI (queR (ksS ss) dn)):=VX.que.of mY.next fun k hk=>mY.get k (VX.que.ne k hk).2 (hnr k (by obtain⟨M,hM⟩:=VX.que.ids k hk; exact⟨_,hM⟩))
  obtain⟨q,hq⟩:=Go.Ax.exq (qI (queR (ksS ss) dn))
  have hqs:q.Pairwise (· < ·):=hq▸qI_sorted (que_sorted _ _)
  have hql:q.length<=100000:=by
   rw[<-hq,qI,zC8,queR]
   refine zC2 (List.length_filter_le ..) ?_
   rw[List.length_range,ksS_len]
   exact hl
  have hqi:=que_ins (s:=s) (by rw[ksS_len]; exact hi) hks (hdn hks)
  rw[hq]at qY hqi
  obtain⟨qa,eq⟩:=qY.sl
  obtain⟨fb,hsrch⟩:=search97_c (ext Y []) qv q (i:Int) qY.rd (by omega) hqs
  rw[eq]at hsrch kvY
  rw[show Y=ext Y [] from rfl]
  simp only[storeC_some,hy,lv1,kvY,qk_old,ruW,xF,ruU,Nat.reduceLT,Nat.reduceAdd,Nat.reduceEqDiff]
  refine hsrch.to ?_
  simp only[hy,lv1,kvY,qk_old,ruW,xF,ruU,Nat.reduceLT,Nat.reduceAdd,Nat.reduceEqDiff]
  have mYE:Mod [] Y (ext Y [⟨3,false,[.int .i64 (i:Int)]⟩]):=Mod.ext okY
  have nYE:(ext Y [⟨3,false,[.int .i64 (i:Int)]⟩]).next=y+1:=by rw[ext_next,hy]; rfl
  have qE:QAt (ext Y [⟨3,false,[.int .i64 (i:Int)]⟩]) qv q:=qY.of (by rw[nYE,hy]; omega) fun n hn=>ext_get_old (qY.ne n hn).2
  have kE:bk (ext Y [⟨3,false,[.int .i64 (i:Int)]⟩]) (y+0)=some ⟨3,false,[.int .i64 (i:Int)]⟩:=by rw[bk_at hy (by simp)]; rfl
  have kvE:=(mYE.bk (by omega) (by simp)).trans kvY
  have hI:=insert98_c (ext Y [⟨3,false,[.int .i64 (i:Int)]⟩]) qv q (posQ q i) i (y+0) qE (List.length_filter_le ..) kE (by omega) hql (mYE.ok okY)
  rw[eq]at hI
  refine hI.mono ?_
  rintro _ Z ⟨w,rfl,qZ,mZ,hw⟩
  rw[nYE]at hw
  obtain⟨z,hz⟩:=Go.Ax.exq Z.next
  have okZ:=mZ.ok (mYE.ok okY)
  have zb:Z.base<=z:=hz▸okZ
  have lvz:v<z:=by have:=mZ.next; omega
  have hvq:v∉idsV qv:=fun h=>by
   obtain⟨M,hM⟩:=VX.que.ids v h
   rw[VX.vb]at hM
   cases hM
  have hvqa:=hvq
  rw[eq]at hvqa
  have kvZ:=(mZ.bk (by rw[nYE]; omega) hvqa).trans kvE
  have swz:scb z w=true:=hz▸qZ.sc
  rw[hqi]at qZ
  obtain⟨wa,ew⟩:=qZ.sl
  obtain⟨wn,hwn⟩:=Go.Ax.exq ((qI (queR ((ksS ss).set i (some s)) dn)).length)
  rw[hwn]at ew
  rw[ew]at swz
  rw[show Z=ext Z [] from rfl,ew]
  simp only[hz,lvz,kvZ,swz,Tryz.results75,ruW,putL,Nat.reduceLeDiff,xF,ruU,Nat.reduceLT,Nat.reduceAdd,Nat.reduceEqDiff]
  rw[ext_nil]
  obtain⟨U,hU⟩:=Go.Ax.exq (uw Z v 8 [Value.slice wa wn wn])
  have mU:Mod [v] Z U:=hU▸Mod.uw (by simp)
  have nU:U.next=z:=by rw[<-hU,uw_next,hz]
  have kU:=bk_uw (off:=8) (vs:=[Value.slice wa wn wn]) kvZ (by simp)
  rw[hU]at kU ⊢
  have mHZ:Mod (v::r::idsV qv) H Z:=(((mX.mono (by simp)).trans (mY.mono (by simp))).trans (mYE.mono (by simp))).trans (mZ.mono (by rw[<-eq]; simp +contextual))
  have mHU:Mod (v::r::idsV qv) H U:=mHZ.trans (mU.mono (by simp))
  have hwb:∀ k∈idsV w,b+2<k:=fun k hk=>by have:=hw k hk; omega
  have hrq:r∉idsV qv:=fun h=>by
   obtain⟨M,hM⟩:=VX.que.ids r h
   rw[VX.sts.bk]at hM
   cases hM
  refine⟨mHU,rfl,ss.set i (some (s,fv)),.slice wa wn wn,?_,ksS_set,List.length_set,fun k hk=>.inr ?_⟩
  ·have dj:∀ k,d0<=k->k∉idsV qv->k∉v::r::idsV qv:=fun k h1 h2 hm=>by
    have:=V.vl
    have:=V.rl
    rcases zB0.1 hm with rfl|hm
    ·omega
    rcases zB0.1 hm with rfl|hm
    ·omega
    ·exact h2 hm
   have d01:d0<=d1\/∀ k,k∉insF lv ls:=by
    rcases zD3 d1 d0 with h|h
    ·exact .inr fun k hk=>by have:=V.insd k hk; omega
    ·exact .inl h
   have hixq:ix∉idsV qv:=fun h=>by
    obtain⟨M,hM⟩:=V.que.ids ix h
    rw[V.ixm.bk]at hM
    cases hM
   have hixv:ix≠v:=fun e=>by
    have:=V.ixm.bk
    rw[e,V.vb]at this
    cases this
   have hvw:v∉idsV w:=fun h=>by have:=hwb v h; omega
   have hixr:ix≠r:=V.ixr
   refine⟨kU,V.vl,V.rl,by omega,V.ins.of mHU.next fun k hk=>mHU.get k (V.ins.ne k hk).2 (dj k (V.insd k hk).1 fun h=>?_),V.insd,V.ixm.mod mHU (by simp[hixv,hixr,hixq]),V.ixd,V.ixr,?_,?_,fun k hk=>?_,fun j t tv hj=>?_⟩
   ·have:=V.insd k hk
    have:=V.qd k h
    omega
   ·have h1:=((stY.mod mYE (by simp)).mod mZ (by rw[<-eq]; exact hrq)).mod mU (by simpa using fun e:r=v=>hvr e.symm)
    rw[stF_set hi,ef]
    exact h1
   ·rw[<-ew]
    exact qZ.of (by omega) fun k hk=>mU.get k (qZ.ne k hk).2 (by simp only[zA4]; rintro rfl; exact hvw hk)
   ·rw[<-ew]at hk
    have:=hwb k hk
    omega
   ·by_cases hji:j=i
    ·rw[hji,List.getElem?_set_self hi]at hj
     simp only[Option.some.injEq,Prod.mk.injEq]at hj
     obtain⟨e1,e2⟩:=hj
     rw[<-e1,<-e2]
     exact hf.mod mHU (hf.apart V.vb V.sts V.que)
    ·rw[List.getElem?_set_ne (fun h=>hji h.symm)]at hj
     have f1:=V.fr j t tv hj
     exact f1.mod mHU (f1.apart V.vb V.sts V.que)
  ·rw[<-ew]at hk
   have:=hwb k hk
   omega
 |some pr =>
  obtain⟨t,tv⟩:=pr
  rw[hx]at hks
  have hxi:ss[i]?=some (some (t,tv)):=by
   rw[zA9,zA5 hi]at hx
   rw[zA5 hi]
   exact congrArg some hx
  have ft:=V.fr i t tv hxi
  obtain⟨t0,tc,et⟩:=ft.sl
  have stv:=ft.sc
  rw[hb,et]at stv
  have stv2:=scb_mono (show b<=b+2 by omega) _ stv
  have hlk:∀ L,aLookup Tryz.prog (ext H L) 88 (.map (some r)) (.int .i64 (i:Int)) true=some (.tuple #[.agg ⟨[.int .i64 t.h,.int .i64 t.b,.slice t0 t.fs.length tc]⟩,.bool true]):=fun L=>by
   have:=V.sts.look u88 z93 (i:Int) true (ext H L) (ext_get_old V.sts.1)
   rw[stF_nat,hx,et]at this
   exact this
  have hg:giveR (ksS ss) i s=if t=s then some (ksS ss) else none:=by rw[giveR,hks]; rfl
  rw[hg]
  simp only[hb,hbase,sfv,stv2,hvb,kv,hlk,w_lookup,qk_old,ruW,putL,Nat.reduceLeDiff,xF,ruU,entryE,Nat.reduceLT,Nat.reduceAdd,Nat.reduceEqDiff]
  generalize hX:ext H _=X
  have mX:Mod [] H X:=hX▸Mod.ext hok
  clear hX
  have hsm:=same99_c X s t fv tv (hf.mod0 mX).rd (ft.mod0 mX).rd hfl
  rw[ef,et]at hsm
  unfold stC at hsm
  refine hsm.to ?_
  rw[show X=ext X [] from rfl]
  by_cases hst:t=s
  ·rw[decide_eq_true hst.symm,if_pos hst]
   simp only[ruW,xF,ruU,Nat.reduceLT,Nat.reduceEqDiff]
   refine (fail_f (ext X []) 9 at').to ?_
   simp only[Tryz.results75,ruW,Nat.reduceLT]
   exact⟨mX.mono (by simp),rfl,ss,qv,V.mod0 mX,rfl,rfl,fun k hk=>.inl hk⟩
  ·rw[decide_eq_false (fun e=>hst e.symm),if_neg hst]
   simp only[ruW,xF,ruU,Nat.reduceLT,Nat.reduceEqDiff]
   refine fail_t _ 9 at' _ ?_
   simp only[opC_error,endA_panic,lv_panic]
   exact⟨mX.mono (by simp),rfl⟩
set_option maxRecDepth 100000
def PcOut (X:AHeap) (v r ix d0 d1:Nat) (least most depth:Int) (u p lv:Value) (ls:List Iv) (qv:Value) (dn:List Bool) (pos:Int) (out:Out) (len nx:Nat):Except Int Ks->Prop
 |.error e=>out=.error [faultP e pos]
 |.ok ks'=>out=.ok (.tuple #[])/\∃ ss' qv',VAt X v r ix d0 d1 least most depth u p lv ls ss' qv' (qI (queR ks' dn))/\ksS ss'=ks'/\ss'.length=len/\∀ k∈idsV qv',k∈idsV qv\/nx<=k
theorem ixF_at {l:List Ins} {a:Int} (h:0<=findR l a):ixF l a=some (.int .i64 (findR l a)):=by rw[ixF,if_pos h]
theorem callS_wf {f:FuncId} {args:List Value} {H X:AHeap} {out:Out} (h:H.base<=H.next->scbL H.next args=true->CallS Tryz.prog f args H out X):CallS Tryz.prog f args H out X:=fun ρ w hr hs=>h hr.wf.base hs ρ w hr hs
theorem missing100_p (H:AHeap) (pos:Int) (op:Nat) (av:Value) (args:List Int) (h:Int) (hop:op<28) (ha:RdAt H 1 av (iv args) args.length) (hal:args.length<=1000000) (hk:args.length=(kindsR op args).length) (hcn:cntR op args<=1000000) (h0:op=4\/op=9->0<args.length/\0<=args.getD 0 0/\args.getD 0 0<=65535) (hh:-1000000000<=h/\h<=1000000000) :
  Pure 100 [.agg ⟨[.int .i64 pos,.int .i64 (op:Int),av]⟩,.int .i64 h] H (.bool (missR op args h)) :=
 callS_wf fun hok hsc=>by
  rw[scbL_iff]at hsc
  have h1:=hsc _ (zB8 ..)
  have h2:(true&&(true&&(scb H.next av&&true)))=true:=h1
  rw[<-miss_agree hop hk]
  exact CallA.pure (missing100_c H pos op av args h hop ha hal hk hcn h0 hh (by simpa using h2) hok) rfl
theorem VAt.ixw {H:AHeap} {v r ix d0 d1:Nat} {least most depth:Int} {u p lv:Value} {ls:List Iv} {ss:Ss} {qv:Value} {q:List Int} (V:VAt H v r ix d0 d1 least most depth u p lv ls ss qv q):ix∉v::r::idsV qv:=by
 intro hm
 have hb:=V.ixm.bk
 rcases zB0.1 hm with e|hm
 ·rw[e,V.vb]at hb; cases hb
 rcases zB0.1 hm with e|hm
 ·exact V.ixr e
 ·obtain⟨M,hM⟩:=V.que.ids ix hm
  rw[hb]at hM
  cases hM
def gvE:Option Ks->Except Int Ks
 |none=>.error 9
 |some ks=>.ok ks
theorem tl3_gv (l:List Ins) (op:Nat) (args:List Int) (ts:St) (o:Ks):tl3 l op args ts (some o)=gvE (givesR o ((targsR op args).map fun t=>(findR l t).toNat) ts):=by
 rw[tl3]
 cases givesR o ((targsR op args).map fun t=>(findR l t).toNat) ts<;>rfl
theorem give_un {ks ks':Ks} {i j:Nat} {s:St} (h:giveR ks i s=some ks') (hj:ks'.getD j none=none):ks.getD j none=none:=by
 unfold giveR at h
 split at h
 ·rename_i h0
  simp only[Option.some.injEq]at h
  subst h
  by_cases e:j=i
  ·rw[e]; exact h0
  ·rw[zA9,List.getElem?_set_ne (fun h=>e h.symm),<-zA9]at hj
   exact hj
 ·split at h
  ·simp only[Option.some.injEq]at h
   exact h▸hj
  ·cases h
theorem process76_c (H:AHeap) (v r ix d0 d1:Nat) (least most depth:Int) (u p lv:Value) (ls:List Iv) (ss:Ss) (qv:Value) (dn:List Bool) (i:Nat) (x:Iv) (s:St) (fv:Value) (V:VAt H v r ix d0 d1 least most depth u p lv ls ss qv (qI (queR (ksS ss) dn)))
  (hx:ls[i]?=some x) (hs:ss[i]?=some (some (s,fv))) (hlen:ss.length=ls.length) (hl:ls.length<=100000) (hd1:d1<=H.next) (hw:∀ x∈ls,WfI x.1) (hal:∀ x∈ls,x.1.args.length<=1000000) (hks:KsOk (ksS ss)) (hdp:depth<=1000)
  (hst:∀ t∈targsR x.1.op.toNat x.1.args,0<=findR (ls.map (·.1)) t) (hdn:∀ j,(ksS ss).getD j none=none->dn.getD j false=false) (hu:scb H.next u=true) (hp:scb H.next p=true) (hlv:scb H.next lv=true) (hok:H.base<=H.next) :
  CallA Tryz.prog 76 [.pointer (some ⟨v,0,none⟩),.int .i64 (i:Int)] H (fun out X=>Mod (v::r::idsV qv) H X/\PcOut X v r ix d0 d1 least most depth u p lv ls qv dn x.1.pos out ss.length H.next (prR depth (ls.map (·.1)) (ksS ss) i)):=by
 obtain⟨b,hb⟩:=Go.Ax.exq H.next
 have hbase:H.base<=b:=hb▸hok
 have hxm:x∈ls:=zF2 hx
 have hil:i<ls.length:=(zE6.1 hx).1
 have hvb:v<b:=hb▸V.vn
 have hrb:r<b:=hb▸V.sts.1
 obtain⟨m,off,sp,c,e,o,M,e1,m1,r1,ia,ld⟩:=V.ins.one hx
 have hxr:=V.ins.av x hxm
 have hxs:=V.ins.sc x hxm
 have hxw:=hw x hxm
 have hxa:=hal x hxm
 have hsok:=hks i s (by rw[ksS_get,hs]; rfl)
 obtain⟨⟨pos,opi,args⟩,av⟩:=x
 obtain⟨op,rfl⟩:∃ q:Nat,opi=q:=⟨opi.toNat,by have:=hxw.1; simp only at this; omega⟩
 simp only[zB5]at hxr hxs hxa hst
 have hop:op<28:=by have:=hxw.2.1; simp only at this; omega
 have hpos:=hxw.pos
 have hfst:=hxw.fst
 simp only[zB5]at hpos hfst
 have hkl:args.length=(kindsR op args).length:=hxw.2.2.1
 have hcn:cntR op args<=1000000:=by have:=cntR_small (op:=op) (args:=args) hxw.2.2.2; omega
 have hfr:=V.fr i s fv hs
 obtain⟨f0,fc,ef⟩:=hfr.sl
 obtain⟨a0,c0,ea⟩:=hxr.sl
 have kv:=V.vb
 unfold vfC at kv
 rw[hb]at m1
 rw[e1]at ia kv
 have sav:scb b (.slice a0 args.length c0)=true:=by rw[<-ea,<-hb]; exact hxs
 have sfv:=hfr.sc
 rw[hb,ef]at sfv
 simp only[ivV,ivC,ea]at ld
 have sav1:=scb_mono (show b<=b+2 by omega) _ sav
 have sfv1:=scb_mono (show b<=b+2 by omega) _ sfv
 have hsg:ss.getD i none=some (s,fv):=by rw[zA9,hs]; rfl
 have hns:∀ a c,idsV (.slice none a c)=[]:=fun _ _=>rfl
 have hr0:(r=b+0)=False:=eq_false (by omega)
 have hr1:(r=b+1)=False:=eq_false (by omega)
 have hlk:∀ G:AHeap,G.get r=H.get r->aLookup Tryz.prog G 88 (.map (some r)) (.int .i64 (i:Int)) false=some (.agg ⟨[.int .i64 s.h,.int .i64 s.b,.slice f0 s.fs.length fc]⟩):=fun G hG=>by
  have:=V.sts.look u88 z93 (i:Int) false G hG
  rw[stF_nat,hsg,ef]at this
  exact this
 refine callE_fn mixed Tryz.func76 rfl Tryz.ntmps76 (zB3 rfl) ?_
 simp only[ruW,entryE,Nat.reduceAdd]
 refine w_drawB [(15,14),(15,13),(16,14),(16,13),(16,12)] [] (by kernel_rfl) (by kernel_rfl) rfl fun ops anc hA hG=>?_
 simp only[all2_cons]at hA
 simp only[hb,ia,m1,r1,ld,hvb,kv,zE2,qk_old,ruD,ruW,xF,ruU,Nat.reduceLT,Nat.reduceAdd,Nat.reduceEqDiff]
 refine wd_look (v:=.agg ⟨[.int .i64 s.h,.int .i64 s.b,.slice f0 s.fs.length fc]⟩) [r] rfl rfl (by decide) (fun n hn=>by simp only[zA4]at hn; exact hn▸V.sts.ne) (fun G hG=>by simp only[ruU,Nat.reduceEqDiff]; exact hlk G (hG r (by simp))) (by simp[Meets]) ?_
 simp only[hb,hbase,m1,hvb,sav1,sfv1,hA,hns,hr0,zE2,ruD,ruW,putL,Nat.reduceLeDiff,xF,ruU,Nat.reduceLT,Nat.reduceAdd,Nat.reduceEqDiff]
 generalize hY:ext H _=Y
 have mY:Mod [] H Y:=hY▸Mod.ext hok
 have nY:Y.next=b+2:=by rw[<-hY,ext_next,hb]; rfl
 have k0:bk Y (b+0)=some ⟨59,false,[.int .i64 pos,.int .i64 (op:Int),.slice a0 args.length c0]⟩:=by rw[<-hY,bk_at hb (by simp)]; rfl
 have k1:bk Y (b+1)=some ⟨93,false,[.int .i64 s.h,.int .i64 s.b,.slice f0 s.fs.length fc]⟩:=by rw[<-hY,bk_at hb (by simp)]; rfl
 clear hY
 have okY:=mY.ok hok
 obtain⟨y,hy⟩:=Go.Ax.exq Y.next
 have hyb:b+2=y:=nY.symm.trans hy
 have VY:=V.mod0 mY
 have hxY:RdAt Y 1 (.slice a0 args.length c0) (iv args) args.length:=ea▸VY.ins.av _ hxm
 have hfY:FrAt 176 Y (.slice f0 s.fs.length fc) s.fs:=ef▸hfr.mod0 mY
 have kvY:=VY.vb
 unfold vfC at kvY
 rw[e1]at kvY
 have j0:b+0<y:=by omega
 have j1:b+1<y:=by omega
 have j2:v<y:=by omega
 obtain⟨w1,w2,w3,w4,w5,w6⟩:=hsok
 have h49:op=4\/op=9->0<args.length/\0<=args.getD 0 0/\args.getD 0 0<=65535:=fun h=>⟨hpos (by omega),hfst (hpos (by omega))⟩
 have h8:op=8->0<args.length/\0<=args.getD 0 0/\args.getD 0 0<=65535:=fun h=>⟨hpos (by omega),hfst (hpos (by omega))⟩
 have hpr:prR depth (ls.map (·.1)) (ksS ss) i=if missR op args s.h=true then .error 9 else if disR op args s=true then .error 19 else tl1 depth (ls.map (·.1)) (ksS ss) i op args (aftR op args s).1 (aftR op args s).2 :=
  prR_eq (x:=⟨pos,(op:Int),args⟩) (by rw[zE5,hx]; rfl) (by rw[zA9,ksS_get,hs]; rfl)
 rw[hpr]
 obtain⟨q1,hq1⟩:∃ q,missR op args s.h=q:=⟨_,rfl⟩
 obtain⟨FA,hFA⟩:∃ F,rdF (.slice a0 args.length c0) args.length=F:=⟨_,rfl⟩
 have hFn:∀ k∈FA,Y.get k≠none:=fun k hk=>(hxY.ne k (hFA▸hk)).1
 refine w_drawP [] [] (by kernel_rfl) (by kernel_rfl) rfl rfl (fun ops anc hA hG=>?_) (by simp) ⟨rfl,rfl⟩
 rw[show Y=ext Y [] from rfl]
 simp only[dropLast_more,dropLast_one,hy,j0,j1,k0,k1,qk_old,ruD,ruW,Nat.reduceLeDiff,xF,ruU,Nat.reduceLT,Nat.reduceAdd,Nat.reduceEqDiff]
 refine genV_quiet (v:=.bool q1) FA rfl (by kernel_rfl) (by decide) hFn (fun G h1 h2=>?_) (by simp[Meets]) ?_
 ·simp only[ruU,Nat.reduceEqDiff]
  rw[<-hq1]
  exact missing100_p G pos op (.slice a0 args.length c0) args s.h hop (hxY.of (zF1 h1.symm) fun k hk=>h2 k (hFA▸hk)) hxa hkl hcn h49 ⟨by omega,by omega⟩
 simp only[hy,j0,k0,qk_old,ruD,ruW,xF,ruU,Nat.reduceLT,Nat.reduceAdd,Nat.reduceEqDiff]
 simp only[lastO_cons,lastO_one,isDef_call,true_and,ruW,xF,ruU,Nat.reduceLT,Nat.reduceEqDiff]
 cases q1 with
 |true =>
  rw[if_pos hq1]
  refine fail_t _ 9 pos _ ?_
  simp only[opC_error,seqC_panic,endA_panic,lv_panic]
  exact⟨mY.mono (by simp),rfl⟩
 |false =>
 rw[if_neg (by rw[hq1]; simp)]
 refine (fail_f (ext Y []) 9 pos).to ?_
 simp only[ruW,Nat.reduceLT]
 obtain⟨q2,hq2⟩:∃ q,disR op args s=q:=⟨_,rfl⟩
 refine w_drawP [] [] (by kernel_rfl) (by kernel_rfl) rfl rfl (fun ops anc hA hG=>?_) (by simp) ⟨rfl,rfl⟩
 simp only[dropLast_more,dropLast_one,hy,j0,j1,k0,k1,qk_old,ruD,ruW,Nat.reduceLeDiff,xF,ruU,Nat.reduceLT,Nat.reduceAdd,Nat.reduceEqDiff]
 refine genV_quiet (v:=.bool q2) (FA++idsV (.slice f0 s.fs.length fc)) rfl (by kernel_rfl) (by decide) (fun k hk=>?_) (fun G h1 h2=>?_) (by simp[Meets]) ?_
 ·rcases zB7.1 hk with hk|hk
  ·exact hFn k hk
  ·exact (hfY.ne k hk).1
 ·simp only[ruU,Nat.reduceEqDiff]
  rw[<-hq2]
  exact dis101_c G pos op (.slice a0 args.length c0) args s (.slice f0 s.fs.length fc) hop (hxY.of (zF1 h1.symm) fun k hk=>h2 k (List.mem_append_left _ (hFA▸hk))) hxa h8 (hfY.of (zF1 h1.symm) fun k hk=>h2 k (List.mem_append_right _ hk)).rd (by omega) ⟨by omega,by omega⟩ (fun f hf=>by have:=w6 f hf; omega)
 simp only[hy,j0,k0,qk_old,ruD,ruW,xF,ruU,Nat.reduceLT,Nat.reduceAdd,Nat.reduceEqDiff]
 simp only[lastO_cons,lastO_one,isDef_call,true_and,ruW,xF,ruU,Nat.reduceLT,Nat.reduceEqDiff]
 cases q2 with
 |true =>
  rw[if_pos hq2]
  refine fail_t _ 19 pos _ ?_
  simp only[opC_error,seqC_panic,endA_panic,lv_panic]
  exact⟨mY.mono (by simp),rfl⟩
 |false =>
 rw[if_neg (by rw[hq2]; simp)]
 refine (fail_f (ext Y []) 19 pos).to ?_
 simp only[hy,j0,j1,k0,k1,qk_old,ruW,Nat.reduceLeDiff,xF,ruU,Nat.reduceLT,Nat.reduceAdd,Nat.reduceEqDiff]
 have hnf:op=19\/op=20->s.fs≠[]:=fun h he=>by
  have ht:(topS s).kind=-1:=by rw[topS,he]; rfl
  unfold disR at hq2
  rw[ht]at hq2
  rcases h with rfl|rfl<;>simp at hq2
 have hadr:=after102_c (ext Y []) pos op (.slice a0 args.length c0) args s (.slice f0 s.fs.length fc) hop hxY hxa h49 h8 hfY (by omega) hnf ⟨by omega,by omega⟩ ⟨by omega,by omega⟩ okY (by rw[ext_nil,hy]; exact scb_mono (by omega) _ sav)
 unfold stC at hadr
 refine hadr.mono ?_
 rintro _ Z ⟨v1,v2,rfl,fr1,fr2,mZ⟩
 have aln:=aft_len op args s
 replace mZ:Mod [] Y Z:=mZ
 obtain⟨ns,hns'⟩:∃ q,(aftR op args s).1=q:=⟨_,rfl⟩
 obtain⟨ts,hts'⟩:∃ q,(aftR op args s).2=q:=⟨_,rfl⟩
 rw[hns']at fr1 aln ⊢
 rw[hts']at fr2 aln ⊢
 obtain⟨R,hR⟩:=Go.Ax.exq (tl1 depth (ls.map (·.1)) (ksS ss) i op args ns ts)
 rw[hR]
 unfold tl1 at hR
 obtain⟨f1,c1,ef1⟩:=fr1.sl
 obtain⟨f2,c2,ef2⟩:=fr2.sl
 have sf1:=fr1.sc
 have sf2:=fr2.sc
 obtain⟨z,hz⟩:=Go.Ax.exq Z.next
 rw[ef1,hz]at sf1
 rw[ef2,hz]at sf2
 have okZ:=mZ.ok okY
 have zb:Z.base<=z:=hz▸okZ
 have lz:y<=z:=by have:=mZ.next; omega
 replace k0:=(mZ.bk (by omega) (by simp)).trans k0
 replace k1:=(mZ.bk (by omega) (by simp)).trans k1
 replace j0:b+0<z:=by omega
 replace j1:b+1<z:=by omega
 have sf11:=scb_mono (show z<=z+2 by omega) _ sf1
 have sf22:=scb_mono (show z<=z+2 by omega) _ sf2
 have VZ:=VY.mod0 mZ
 have hxZ:=hxY.mod0 mZ
 rw[show Z=ext Z [] from rfl]
 rw[ef1,ef2]
 simp only[hz,zb,j0,k0,sf11,sf22,qk_old,ruW,putL,Nat.reduceLeDiff,xF,ruU,Nat.reduceLT,Nat.reduceAdd,Nat.reduceEqDiff]
 generalize hT:ext Z _=T
 have mT:Mod [] Z T:=hT▸Mod.ext okZ
 have t1:bk T (z+0)=some ⟨93,false,[.int .i64 ns.h,.int .i64 ns.b,.slice f1 ns.fs.length c1]⟩:=by rw[<-hT,bk_at hz (by simp)]; rfl
 have t2:bk T (z+1)=some ⟨93,false,[.int .i64 ts.h,.int .i64 ts.b,.slice f2 ts.fs.length c2]⟩:=by rw[<-hT,bk_at hz (by simp)]; rfl
 have nT:T.next=z+2:=by rw[<-hT,ext_next,hz]; rfl
 clear hT
 have okT:=mT.ok okZ
 have sav2:scb T.next (.slice a0 args.length c0)=true:=scb_mono (by omega) _ sav
 refine (operands96_c T pos op (.slice a0 args.length c0) args 116 hop (hxZ.mod0 mT) hxa hkl hcn sav2 okT).mono ?_
 rintro _ U ⟨wt,rfl,vt,mU,hlt⟩
 rw[(kinds_agree hop hkl).2]at vt
 have mZU:=mT.trans mU
 obtain⟨un,hun⟩:=Go.Ax.exq U.next
 have okU:=mU.ok okT
 have ub:U.base<=un:=hun▸okU
 have lu:z+2<=un:=by have:=mU.next; omega
 replace k0:=(mZU.bk (by omega) (by simp)).trans k0
 replace k1:=(mZU.bk (by omega) (by simp)).trans k1
 replace t1:=(mU.bk (by omega) (by simp)).trans t1
 replace t2:=(mU.bk (by omega) (by simp)).trans t2
 replace j0:b+0<un:=by omega
 replace j1:b+1<un:=by omega
 have j3:z+0<un:=by omega
 have j4:z+1<un:=by omega
 have jv:v<un:=by omega
 have VU:=VZ.mod0 mZU
 have fU1:=fr1.mod0 mZU
 have fU2:=fr2.mod0 mZU
 rw[ef1]at fU1
 rw[ef2]at fU2
 have mHU:Mod [] H U:=(mY.trans mZ).trans mZU
 have kvU:=VU.vb
 have hvU:Go.Ax.bk U v≠none:=by rw[kvU]; simp
 obtain⟨ta,tc,et⟩:=vt.rd.sl
 rw[et]
 rw[show U=ext U [] from rfl]
 simp only[opC_ok,w_assign,w_nil,seqC_normal,ruU,Nat.reduceLT]
 have pureD:∀ (G:AHeap) (t:St) (f:Option Addr) (c:Nat),G.next=un->G.get v=U.get v->CallS Tryz.prog 74 [.pointer (some ⟨v,0,none⟩),.agg ⟨[.int .i64 t.h,.int .i64 t.b,.slice f t.fs.length c]⟩] G (.ok (.bool (deepR depth 200 1000 t))) G:=fun G t f c h1 h2=>deep74_c G v least most depth u p lv (.map (some ix)) (.map (some r)) qv t f c ((bk_get h2).trans kvU) (by omega)
 obtain⟨dA,hdA⟩:∃ d,deepR depth 200 1000 ns=d:=⟨_,rfl⟩
 obtain⟨dB,hdB⟩:∃ d,decide ((0:Int)<((targsR op args).length:Int))=d:=⟨_,rfl⟩
 obtain⟨dC,hdC⟩:∃ d,deepR depth 200 1000 ts=d:=⟨_,rfl⟩
 have hBn:dB=true ↔ targsR op args≠[]:=by
  rw[<-hdB,decide_eq_true_eq,<-List.length_pos_iff]
  omega
 refine w_env fun E hE=>?_
 have g0:E 0=.pointer (some ⟨v,0,none⟩):=by rw[hE]; rfl
 have g1:E 1=.int .i64 (i:Int):=by rw[hE]; rfl
 have g4:E 4=.pointer (some ⟨b+0,0,none⟩):=by rw[hE]; rfl
 have g6:E 6=.pointer (some ⟨z+0,0,none⟩):=by rw[hE]; rfl
 have g7:E 7=.pointer (some ⟨z+1,0,none⟩):=by rw[hE]; rfl
 have g8:E 8=.slice ta (targsR op args).length tc:=by rw[hE]; rfl
 clear hE
 have hvF:∀ k∈[v],U.get k≠none:=fun k hk=>by simp only[zA4]at hk; exact hk▸bk_ne kvU
 rw[w_seq]
 refine w_meet (fun E' X'=>X'=ext U []/\¬(deepR depth 200 1000 ns=true\/targsR op args≠[]/\deepR depth 200 1000 ts=true)/\E' 0=.pointer (some ⟨v,0,none⟩)/\E' 1=.int .i64 (i:Int)/\E' 4=.pointer (some ⟨b+0,0,none⟩)/\E' 6=.pointer (some ⟨z+0,0,none⟩)/\E' 7=.pointer (some ⟨z+1,0,none⟩)/\E' 8=.slice ta (targsR op args).length tc) ?_ ?_
 ·refine w_drawP [] [(3,48),(7,52)] (by kernel_rfl) (by kernel_rfl) rfl (by kernel_rfl) (fun ops anc hA hG=>?_) (by simp) ⟨rfl,rfl⟩
  simp only[all2_cons]at hG
  simp only[dropLast_more,dropLast_one,g0,g6,hun,j3,t1,qk_old,ruD,ruW,Nat.reduceLeDiff,xF,ruU,Nat.reduceLT,Nat.reduceAdd,Nat.reduceEqDiff]
  refine genV_quiet (v:=.bool dA) [v] rfl (by kernel_rfl) (by decide) hvF (fun G h1 h2=>?_) (by simp[Meets]) ?_
  ·simp only[ruU,Nat.reduceEqDiff]
   rw[<-hdA]
   exact pureD G ns f1 c1 (h1.trans hun) (h2 v (by simp))
  cases dA with
  |true =>
   rw[if_pos (.inl hdA)]at hR
   simp only[g4,hun,j0,k0,hG,qk_old,ruD,ruW,xF,ruU,Nat.reduceLT,Nat.reduceAdd,Nat.reduceEqDiff]
   simp only[lastO_cons,lastO_one,isDef_call,true_and,ruW,xF,ruU,Nat.reduceLT,Nat.reduceEqDiff]
   refine fail_t _ 12 pos _ ?_
   simp only[opC_error,endA_panic,lv_panic,joinR_panic]
   rw[<-hR]
   exact⟨mHU.mono (by simp),rfl⟩
  |false =>
   cases dB with
   |false =>
    simp only[g4,g8,hun,j0,k0,hdB,hG,qk_old,ruD,ruW,xF,ruU,Nat.reduceLT,Nat.reduceAdd,Nat.reduceEqDiff]
    simp only[lastO_cons,lastO_one,isDef_call,true_and,ruW,xF,ruU,Nat.reduceLT,Nat.reduceEqDiff]
    refine (fail_f _ 12 pos).to ?_
    simp only[ruW,Nat.reduceLT]
    refine joinR_normal ⟨rfl,(by rintro (h|h); (· rw[hdA]at h; cases h); (· have:=hBn.2 h.1; cases this)),?_,?_,?_,?_,?_,?_⟩
    ·exact g0
    ·exact g1
    ·exact g4
    ·exact g6
    ·exact g7
    ·exact g8
   |true =>
    simp only[g0,g7,g8,hun,j4,t2,hdB,hG,qk_old,ruD,ruW,Nat.reduceLeDiff,xF,ruU,Nat.reduceLT,Nat.reduceAdd,Nat.reduceEqDiff]
    refine genV_quiet (v:=.bool dC) [v] rfl (by kernel_rfl) (by decide) hvF (fun G h1 h2=>?_) (by simp[Meets]) ?_
    ·simp only[ruU,Nat.reduceEqDiff]
     rw[<-hdC]
     exact pureD G ts f2 c2 (h1.trans hun) (h2 v (by simp))
    cases dC with
    |true =>
     rw[if_pos (.inr ⟨hBn.1 rfl,hdC⟩)]at hR
     simp only[g4,hun,j0,k0,hG,qk_old,ruD,ruW,xF,ruU,Nat.reduceLT,Nat.reduceAdd,Nat.reduceEqDiff]
     simp only[lastO_cons,lastO_one,isDef_call,true_and,ruW,xF,ruU,Nat.reduceLT,Nat.reduceEqDiff]
     refine fail_t _ 12 pos _ ?_
     simp only[opC_error,endA_panic,lv_panic,joinR_panic]
     rw[<-hR]
     exact⟨mHU.mono (by simp),rfl⟩
    |false =>
     simp only[g4,hun,j0,k0,hG,qk_old,ruD,ruW,xF,ruU,Nat.reduceLT,Nat.reduceAdd,Nat.reduceEqDiff]
     simp only[lastO_cons,lastO_one,isDef_call,true_and,ruW,xF,ruU,Nat.reduceLT,Nat.reduceEqDiff]
     refine (fail_f _ 12 pos).to ?_
     simp only[ruW,Nat.reduceLT]
     refine joinR_normal ⟨rfl,(by rintro (h|h); (· rw[hdA]at h; cases h); (· have:=h.2; rw[hdC]at this; cases this)),?_,?_,?_,?_,?_,?_⟩
     ·exact g0
     ·exact g1
     ·exact g4
     ·exact g6
     ·exact g7
     ·exact g8
 clear g0 g1 g4 g6 g7 g8 E
 rintro E X' ⟨hX',hnd,g0,g1,g4,g6,g7,g8⟩
 rw[hX']
 rw[if_neg hnd]at hR
 unfold tl2 at hR
 obtain⟨dg,hdg⟩:∃ d,decide (op≠10/\op≠15)=d:=⟨_,rfl⟩
 have hgd:(op≠10/\op≠15) ↔ dg=true:=by rw[<-hdg,decide_eq_true_eq]
 have hwi:IntKind.i64.wrap ((i:Int)+1)=((i+1:Nat):Int):=wrap_succ (by omega)
 have sf1u:=scb_mono (show z<=un by omega) _ sf1
 have sf2u:=scb_mono (show z<=un by omega) _ sf2
 have hu2:scb U.next u=true:=scb_mono mHU.next _ hu
 have hp2:scb U.next p=true:=scb_mono mHU.next _ hp
 have hlv2:scb U.next lv=true:=scb_mono mHU.next _ hlv
 unfold vfC at kvU
 rw[e1]at kvU
 have hfl:∀ t:St,(t=ns\/t=ts)->t.fs.length<=1000000:=fun t ht=>by rcases ht with rfl|rfl<;>omega
 rw[w_seq]
 refine w_meet (fun E' X'=>∃ ss2 qv2,Mod (v::r::idsV qv) U X'/\VAt X' v r ix d0 d1 least most depth u p lv ls ss2 qv2 (qI (queR (ksS ss2) dn))/\ss2.length=ss.length/\(∀ j,(ksS ss2).getD j none=none->dn.getD j false=false)/\(∀ k∈idsV qv2,k∈idsV qv\/U.next<=k)/\tl3 (ls.map (·.1)) op args ts (some (ksS ss2))=R/\E' 0=.pointer (some ⟨v,0,none⟩)/\E' 4=.pointer (some ⟨b+0,0,none⟩)/\E' 7=.pointer (some ⟨z+1,0,none⟩)/\E' 8=.slice ta (targsR op args).length tc) ?_ ?_
 ·rw[w_seq]
  refine w_meet (fun E' X'=>X'=ext U []/\E' 68=.bool dg/\E' 0=.pointer (some ⟨v,0,none⟩)/\E' 1=.int .i64 (i:Int)/\E' 4=.pointer (some ⟨b+0,0,none⟩)/\E' 6=.pointer (some ⟨z+0,0,none⟩)/\E' 7=.pointer (some ⟨z+1,0,none⟩)/\E' 8=.slice ta (targsR op args).length tc) ?_ ?_
  ·obtain⟨p1,hp1⟩:∃ p,decide (¬(op:Int)=10)=p:=⟨_,rfl⟩
   obtain⟨p2,hp2⟩:∃ p,decide (¬(op:Int)=15)=p:=⟨_,rfl⟩
   cases p1 with
   |false =>
    have he:=of_decide_eq_false hp1
    have hd0:dg=false:=by rw[<-hdg]; exact decide_eq_false fun h=>h.1 (by omega)
    subst hd0
    simp only[g4,hun,j0,k0,hp1,qk_old,ruW,xF,ruU,Nat.reduceLT,Nat.reduceAdd,Nat.reduceEqDiff]
    refine joinR_normal ⟨rfl,by simp only[ruU],?_,?_,?_,?_,?_,?_⟩
    ·exact g0
    ·exact g1
    ·exact g4
    ·exact g6
    ·exact g7
    ·exact g8
   |true =>
    have he:=of_decide_eq_true hp1
    have hd0:dg=p2:=by
     rw[<-hdg,<-hp2]
     exact decide_eq_decide.2 ⟨fun h h'=>h.2 (by omega),fun h=>⟨by omega,by omega⟩⟩
    subst hd0
    simp only[g4,hun,j0,k0,hp1,hp2,qk_old,ruW,xF,ruU,Nat.reduceLT,Nat.reduceAdd,Nat.reduceEqDiff]
    refine joinR_normal ⟨rfl,by simp only[ruU],?_,?_,?_,?_,?_,?_⟩
    ·exact g0
    ·exact g1
    ·exact g4
    ·exact g6
    ·exact g7
    ·exact g8
  clear g0 g1 g4 g6 g7 g8 E
  rintro E X' ⟨hX',g68,g0,g1,g4,g6,g7,g8⟩
  rw[hX']
  cases dg with
  |false =>
   rw[if_neg (fun h=>by have:=hgd.1 h.1; cases this),if_neg (fun h=>by have:=hgd.1 h; cases this)]at hR
   simp only[g68,hun,ruW,Nat.reduceLT]
   refine joinR_normal ⟨ss,qv,Mod.refl,VU,rfl,hdn,fun k hk=>.inl hk,hR,?_,?_,?_,?_⟩
   ·simp only[g0]
   ·simp only[g4]
   ·simp only[g7]
   ·simp only[g8]
  |true =>
   obtain⟨d,hde⟩:=Go.Ax.exq (decide (((i+1:Nat):Int)=(ls.length:Int)))
   simp only[g68,ruW,Nat.reduceLT]
   refine w_drawP [] [] (by kernel_rfl) (by kernel_rfl) rfl rfl (fun ops anc hA hG=>?_) (by simp) ⟨rfl,rfl⟩
   simp only[dropLast_more,dropLast_one,g0,g1,g4,hun,j0,jv,k0,kvU,hwi,hde,qk_old,ruD,ruW,xF,ruU,Nat.reduceLT,Nat.reduceAdd,Nat.reduceEqDiff]
   simp only[lastO_cons,lastO_one,isDef_call,true_and,ruW,xF,ruU,Nat.reduceLT,Nat.reduceEqDiff]
   cases d with
   |true =>
    have he:=of_decide_eq_true hde
    rw[if_pos ⟨hgd.2 rfl,by rw[zC8]; omega⟩]at hR
    refine fail_t _ 13 pos _ ?_
    simp only[opC_error,seqC_panic,endA_panic,lv_panic,joinR_panic]
    rw[<-hR]
    exact⟨mHU.mono (by simp),rfl⟩
   |false =>
    have he:=of_decide_eq_false hde
    rw[if_neg (fun h=>he (by have:=h.2; rw[zC8]at this; omega)),if_pos (hgd.2 rfl)]at hR
    refine (fail_f _ 13 pos).to ?_
    simp only[g0,g1,g4,g6,hun,j0,j3,k0,t1,hwi,qk_old,ruW,Nat.reduceLeDiff,xF,ruU,Nat.reduceLT,Nat.reduceAdd,Nat.reduceEqDiff]
    have hgv:=give75_c (ext U []) v r ix d0 d1 least most depth u p lv ls ss qv dn (i+1) ns (.slice f1 ns.fs.length c1) pos VU (by omega) (by omega) (zC2 hd1 mHU.next) fU1 (hfl _ (.inl rfl)) (hdn (i+1)) hu2 hp2 hlv2 okU
    unfold stC at hgv
    refine hgv.mono ?_
    rintro out V2 ⟨mV,ho⟩
    obtain⟨og,hog⟩:=Go.Ax.exq (giveR (ksS ss) (i+1) ns)
    rw[hog]at ho hR
    cases og with
    |none =>
     unfold GvOut at ho
     rw[ho]
     simp only[opC_error,endA_panic,lv_panic,joinR_panic]
     rw[<-hR]
     exact⟨(mHU.mono (by simp)).trans mV,rfl⟩
    |some ks1 =>
     obtain⟨ho,ss2,qv2,V3,hk2,hl2,hq2⟩:=ho
     rw[ho]
     simp only[ruW,Nat.reduceLT]
     rw[<-hk2]at hR V3
     refine joinR_normal ⟨ss2,qv2,mV,V3,hl2,fun j hj=>?_,fun k hk=>?_,hR,?_,?_,?_,?_⟩
     ·rw[hk2]at hj
      exact hdn j (give_un hog hj)
     ·rw[<-hun]; exact hq2 k hk
     ·exact g0
     ·exact g4
     ·exact g7
     ·exact g8
 clear g0 g1 g4 g6 g7 g8 E
 rintro E X' ⟨ss2,qv2,mV,V2,hl2,hdn2,hq2,hR2,g0,g4,g7,g8⟩
 simp only[g8,ruW,xF,ruU,Nat.reduceLT]
 refine w_env fun E3 hE=>?_
 replace g0:E3 0=.pointer (some ⟨v,0,none⟩):=by rw[hE]; simp only[g0,ruU,Nat.reduceEqDiff]
 replace g4:E3 4=.pointer (some ⟨b+0,0,none⟩):=by rw[hE]; simp only[g4,ruU,Nat.reduceEqDiff]
 replace g7:E3 7=.pointer (some ⟨z+1,0,none⟩):=by rw[hE]; simp only[g7,ruU,Nat.reduceEqDiff]
 have g87:E3 87=.slice ta (targsR op args).length tc:=by rw[hE]; rfl
 have g88:E3 88=.int .i64 ((targsR op args).length:Int):=by rw[hE]; rfl
 have g89:E3 89=.int .i64 ((0:Nat):Int):=by rw[hE]; rfl
 clear hE E g8
 obtain⟨fnd,hfnd⟩:∃ f:Int->Nat,f=fun t=>(findR (ls.map (·.1)) t).toNat:=⟨_,rfl⟩
 have hRf:∀ o,tl3 (ls.map (·.1)) op args ts (some o)=gvE (givesR o ((targsR op args).map fnd) ts):=fun o=>by rw[tl3_gv,hfnd]
 have tln:=targs_len op args
 have hix:∀ (G:AHeap) (q:Int),0<=findR (ls.map (·.1)) q->G.get ix=U.get ix->aLookup Tryz.prog G 87 (.map (some ix)) (.int .i64 q) false=some (.int .i64 ((fnd q:Nat):Int)):=fun G q h0 hG=>by
  have:=VU.ixm.look u87 z3 q false G hG
  rw[ixF_at h0,(find_lt h0).1]at this
  rw[hfnd]
  exact this
 refine w_loop (fun (st:Nat × Ss × Value) E' X'=>Mod (v::r::idsV qv) U X'/\VAt X' v r ix d0 d1 least most depth u p lv ls st.2.1 st.2.2 (qI (queR (ksS st.2.1) dn))/\st.2.1.length=ss.length/\(∀ j,(ksS st.2.1).getD j none=none->dn.getD j false=false)/\(∀ k∈idsV st.2.2,k∈idsV qv\/U.next<=k)/\gvE (givesR (ksS st.2.1) (((targsR op args).drop st.1).map fnd) ts)=R/\st.1<=(targsR op args).length/\E' 0=.pointer (some ⟨v,0,none⟩)/\E' 4=.pointer (some ⟨b+0,0,none⟩)/\E' 7=.pointer (some ⟨z+1,0,none⟩)/\E' 87=.slice ta (targsR op args).length tc/\E' 88=.int .i64 ((targsR op args).length:Int)/\E' 89=.int .i64 (st.1:Int)) (fun st=>(targsR op args).length-st.1) (0,ss2,qv2) ⟨mV,V2,hl2,hdn2,hq2,by rw[<-hR2,hRf]; rfl,zC0 _,g0,g4,g7,g87,g88,g89⟩ ?_
 clear g0 g4 g7 g87 g88 g89 E3 mV V2 hl2 hdn2 hq2 hR2 ss2 qv2
 rintro⟨j,ss2,qv2⟩ E X ⟨mV,V2,hl2,hdn2,hq2,hR2,hj,g0,g4,g7,g87,g88,g89⟩
 simp only at V2 hl2 hdn2 hq2 hR2 hj g89
 have okX:=mV.ok okU
 obtain⟨x,hxn'⟩:∃ x,X.next=x:=⟨_,rfl⟩
 have lx:un<=x:=by have:=mV.next; omega
 have xb:X.base<=x:=hxn'▸okX
 have hqU:∀ k∈idsV qv,k<b:=fun k hk=>by have:=(V.que.ne k hk).2; omega
 have hnW:∀ k,b<=k->k∉v::r::idsV qv:=fun k hk hm=>by
  rcases zB0.1 hm with rfl|hm
  ·omega
  rcases zB0.1 hm with rfl|hm
  ·omega
  ·have:=hqU k hm; omega
 have t2X:=(mV.bk (n:=z+1) (by omega) (hnW _ (by omega))).trans t2
 have k0X:=(mV.bk (n:=b+0) (by omega) (hnW _ (by omega))).trans k0
 have j4x:z+1<x:=by omega
 have j0x:b+0<x:=by omega
 have jvx:v<x:=by omega
 have vtX:ArgA X wt (targsR op args):=vt.of mV.next fun k hk=>mV.get k (vt.ne k hk).2 (hnW _ (by have:=hlt k hk; omega))
 have fX2:FrAt 176 X (.slice f2 ts.fs.length c2) ts.fs:=fU2.mod mV (fU2.apart VU.vb VU.sts VU.que)
 have kvX:=V2.vb
 unfold vfC at kvX
 rw[show X=ext X [] from rfl]
 by_cases hje:j=(targsR op args).length
 ·have hdj:decide ((j:Int)<((targsR op args).length:Int))=false:=decide_eq_false (by omega)
  simp only[g88,g89,hdj,Tryz.results76,ruW,ruU,Nat.reduceLT]
  rw[List.drop_eq_nil_of_le (by omega),zF3,givesR]at hR2
  rw[<-hR2]
  exact⟨(mHU.mono (by simp)).trans mV,rfl,ss2,qv2,V2,rfl,hl2,fun k hk=>(hq2 k hk).imp_right fun h=>by have:=mHU.next; omega⟩
 ·have hjl':j<(targsR op args).length:=by omega
  have hdj:decide ((j:Int)<((targsR op args).length:Int))=true:=decide_eq_true (by omega)
  obtain⟨n2,off2,s2,c2',e2,o2,M2,ek2,n12,r12,m12⟩:=vtX.rd.one hjl'
  rw[et]at ek2
  simp only[Value.slice.injEq]at ek2
  obtain⟨hta,-,rfl⟩:=ek2
  have g87s:=g87
  rw[hta]at g87s
  have i2:aIndexAddr Tryz.prog 35 (.slice (some ⟨n2,off2,s2⟩) (targsR op args).length tc) (.int .i64 (j:Int))=some (.pointer (some ⟨n2,off2+j*1,none⟩)):=ia_of u35 s3 hjl'
  rw[zD0]at i2
  rw[iv_get,zA5 hjl',zA6]at m12
  rw[hxn']at n12
  obtain⟨q,hq⟩:=Go.Ax.exq ((targsR op args)[j])
  rw[hq]at m12
  have hqm:q∈targsR op args:=hq▸zF4 hjl'
  have hq0:=hst q hqm
  have hwj:IntKind.i64.wrap ((j:Int)+1)=((j+1:Nat):Int):=wrap_succ (by omega)
  simp only[g87s,g88,g89,hxn',hdj,i2,n12,r12,m12,qk_old,ruW,xF,ruU,Nat.reduceLT,Nat.reduceEqDiff]
  have hgX:X.get ix=U.get ix:=mV.get ix VU.ixm.1 VU.ixw
  have hixn:∀ k∈[ix],X.get k≠none:=fun k hk=>by simp only[zA4]at hk; exact hk▸V2.ixm.ne
  obtain⟨hfi',hfl'⟩:=find_lt hq0
  have hfl2:fnd q<ss2.length:=by
   rw[zC8]at hfl'
   rw[hfnd]
   simp only
   omega
  have hdr:(targsR op args).drop j=q::(targsR op args).drop (j+1):=by rw[List.drop_eq_getElem_cons hjl',hq]
  rw[hdr,zB4,givesR]at hR2
  refine w_drawP [] [] (by kernel_rfl) (by kernel_rfl) rfl rfl (fun ops anc hA hG=>?_) (by simp) ⟨rfl,rfl⟩
  simp only[dropLast_more,dropLast_one,g0,hxn',jvx,kvX,qk_old,ruD,ruW,xF,ruU,Nat.reduceLT,Nat.reduceAdd,Nat.reduceEqDiff]
  refine wd_look (v:=.int .i64 ((fnd q:Nat):Int)) [ix] rfl rfl (by decide) hixn (fun G hG=>by simp only[ruU,Nat.reduceEqDiff]; exact hix G q hq0 ((hG ix (by simp)).trans hgX)) (by simp[Meets]) ?_
  simp only[g4,g7,hxn',j4x,j0x,t2X,k0X,qk_old,ruD,ruW,Nat.reduceLeDiff,xF,ruU,Nat.reduceLT,Nat.reduceAdd,Nat.reduceEqDiff]
  simp only[lastO_cons,lastO_one,isDef_call,true_and,ruW,xF,ruU,Nat.reduceLT,Nat.reduceEqDiff]
  have hu3:scb X.next u=true:=scb_mono mV.next _ hu2
  have hp3:scb X.next p=true:=scb_mono mV.next _ hp2
  have hlv3:scb X.next lv=true:=scb_mono mV.next _ hlv2
  have hgv:=give75_c (ext X []) v r ix d0 d1 least most depth u p lv ls ss2 qv2 dn (fnd q) ts (.slice f2 ts.fs.length c2) pos V2 hfl2 (by omega) (zC2 hd1 (zC2 mHU.next mV.next)) fX2 (hfl _ (.inr rfl)) (hdn2 (fnd q)) hu3 hp3 hlv3 okX
  unfold stC at hgv
  refine hgv.mono ?_
  rintro out V3 ⟨mV3,ho⟩
  have mUV3:Mod (v::r::idsV qv) U V3:=mV.step mV3 okU fun k hk=>by
   rcases zB0.1 hk with rfl|hk
   ·exact .inl (by simp)
   rcases zB0.1 hk with rfl|hk
   ·exact .inl (by simp)
   ·rcases hq2 k hk with h|h
    ·exact .inl (by simp[h])
    ·exact .inr h
  obtain⟨og,hog⟩:=Go.Ax.exq (giveR (ksS ss2) (fnd q) ts)
  rw[hog]at ho hR2
  cases og with
  |none =>
   unfold GvOut at ho
   rw[ho]
   simp only[opC_error,seqC_panic,endA_panic,lv_panic,blockC_panic,loopC_panic]
   rw[<-hR2]
   exact⟨(mHU.mono (by simp)).trans mUV3,rfl⟩
  |some ks1 =>
   obtain⟨ho,ss3,qv3,V4,hk3,hl3,hq3⟩:=ho
   rw[ho]
   simp only[g89,hwj,ruW,ruU,Nat.reduceLT,Nat.reduceEqDiff]
   rw[<-hk3]at hR2 V4
   refine loopC_next ⟨(j+1,ss3,qv3),by simp only; omega,mUV3,V4,hl3.trans hl2,fun k hk=>?_,fun k hk=>?_,hR2,by simp only; omega,?_,?_,?_,?_,?_,?_⟩
   ·simp only at hk
    rw[hk3]at hk
    exact hdn2 k (give_un hog hk)
   ·rcases hq3 k hk with h|h
    ·exact hq2 k h
    ·exact .inr (zC2 mV.next h)
   ·exact g0
   ·exact g4
   ·exact g7
   ·rw[hta]; simp only[g87s,ruU,Nat.reduceEqDiff]
   ·exact g88
   ·rfl
set_option maxRecDepth 100000
def decF (bs:List UInt8):Option (Int × Int):=if 60000<bs.length then some (4,60000) else match badA bs with
 |some r=>some (r.2,r.1.pos)
 |none=>none
def statA (least most depth:Int) (cn:Nat) (bs:List UInt8):Option (Int × Int) :=
 if headR least most depth cn=true then some (3,0) else
 match decF bs with
 |some f=>some f
 |none=>if insA bs=[] then some (13,0) else statR (insA bs) cn
theorem place_inc:∀ (xs:List Ins) (p:Nat),(placeL p xs).Pairwise (fun a b=>a.pos<b.pos)/\∀ x∈placeL p xs,(p:Int)<=x.pos
 |[],p=>⟨List.Pairwise.nil,fun x hx=>by cases hx⟩
 |x::r,p=>by
  obtain⟨h1,h2⟩:=place_inc r (p+1+2*x.args.length)
  refine⟨List.Pairwise.cons (fun y hy=>?_) h1,fun y hy=>?_⟩
  ·have:=h2 y hy
   simp only
   omega
  ·rcases zB0.1 hy with rfl|hy
   ·simp only
    omega
   ·have:=h2 y hy
    omega
theorem ins_inc {l:List UInt8} (h:badA l=none):(insA l).Pairwise fun a b=>a.pos<b.pos:=by
 obtain⟨h1,h2⟩:=enc_of_dec h
 have:=(bad_back h2).2
 rw[h1]at this
 rw[this]
 exact (place_inc _ 0).1
theorem ixF_nil:ixF []=fun _=>none:=by
 funext a
 unfold ixF
 rw[if_neg (by unfold findR; simp)]
theorem findR_none {l:List Ins} {a:Int} (h:∀ x∈l,x.pos≠a):findR l a=-1:=by
 unfold findR
 have:l.findIdx? (fun x=>decide (x.pos=a))=none:=by
  rw[List.findIdx?_eq_none_iff]
  intro x hx
  exact decide_eq_false (h x hx)
 rw[this]
theorem findR_snoc {l:List Ins} {x:Ins} (a:Int) (h:∀ y∈l,y.pos≠x.pos):findR (l++[x]) a=if a=x.pos then (l.length:Int) else findR l a:=by
 by_cases e:a=x.pos
 ·rw[if_pos e]
  unfold findR
  have h1:l.findIdx? (fun y=>decide (y.pos=a))=none:=by
   rw[List.findIdx?_eq_none_iff]
   intro y hy
   exact decide_eq_false (e▸h y hy)
  rw[List.findIdx?_append,h1]
  simp[e]
 ·rw[if_neg e]
  unfold findR
  rw[List.findIdx?_append]
  have h2:[x].findIdx? (fun y=>decide (y.pos=a))=none:=by
   rw[List.findIdx?_eq_none_iff]
   intro y hy
   rw[zA4]at hy
   exact decide_eq_false (hy▸fun h=>e h.symm)
  rw[h2]
  cases l.findIdx? (fun y=>decide (y.pos=a))<;>rfl
theorem ixF_snoc {l:List Ins} {x:Ins} (h:∀ y∈l,y.pos≠x.pos):ixF (l++[x])=fun a=>if a=x.pos then some (.int .i64 (l.length:Int)) else ixF l a:=by
 funext a
 unfold ixF
 rw[findR_snoc a h]
 by_cases e:a=x.pos
 ·rw[if_pos e,if_pos e,if_pos (by omega)]
 ·rw[if_neg e,if_neg e]
theorem stF_rep (n:Nat):stF (List.replicate n none)=fun _=>none:=by
 funext a
 unfold stF
 split
 ·have:(List.replicate n (none:Option (St × Value))).getD a.toNat none=none:=by
   rw[zA9,List.getElem?_replicate]
   split<;>rfl
  rw[this]
 ·rfl
set_option maxRecDepth 100000
def StcOut (X:AHeap) (v r:Nat) (least most depth:Int) (u p:Value) (out:Out) (nx:Nat) (bs:List UInt8):Option (Int × Int)->Prop
 |some f=>out=.error [faultP f.1 f.2]
 |none=>out=.ok (.tuple #[])/\∃ lv ls ix d1,VAt X v r ix nx d1 least most depth u p lv ls (List.replicate (insA bs).length none) (.slice none 0 0) []/\ls.map (·.1)=insA bs/\d1<=X.next/\scb X.next lv=true
theorem bad_ne {bs:List UInt8} {r:Ins × Int} (h:badA bs=some r):r.2≠0:=by
 have:=List.find?_some h
 simpa using this
theorem own_nil' (b:Nat) (X:AHeap):OwnI b X (.slice none 0 0) []:=⟨VsAt.nil,fun x hx=>by simp at hx,fun n hn=>by simp[idsV]at hn,fun x hx=>by simp at hx,by simp⟩
theorem dec24_c (H:AHeap) (u:Value) (ba:Option Addr) (bc:Nat) (bs:List UInt8) (eu:u=.slice ba bs.length bc) (hb:RdAt H 1 u (bv bs) bs.length) (hsc:scb H.next u=true) (hok:H.base<=H.next):CallA Tryz.prog 24 [u] H (fun out X=>Mod [] H X/\∃ lv ls e a,out=.ok (.tuple #[lv,.agg ⟨[.int .i64 e,.int .i64 a]⟩])/\OwnI H.next X lv ls/\((e≠0/\decF bs=some (e,a))\/(e=0/\decF bs=none/\badA bs=none/\ls.map (·.1)=insA bs))):=by
 unfold decF
 by_cases hl:60000<bs.length
 ·rw[if_pos hl,eu]
  refine (decodeLong_c H ba bs.length bc hl).to ?_
  exact⟨Mod.refl,.slice none 0 0,[],4,60000,rfl,own_nil' _ _,.inl ⟨by decide,rfl⟩⟩
 ·rw[if_neg hl]
  refine (decode_c H u bs (by omega) hb hsc hok).mono ?_
  rintro out X ⟨hd,m⟩
  unfold DecOut at hd
  cases hbad:badA bs with
  |some r =>
   rw[hbad]at hd
   exact⟨m,.slice none 0 0,[],r.2,r.1.pos,hd,own_nil' _ _,.inl ⟨bad_ne hbad,rfl⟩⟩
  |none =>
   rw[hbad]at hd
   obtain⟨v,ls,h1,h2,h3⟩:=hd
   exact⟨m,v,ls,0,0,h1,h3,.inr ⟨rfl,rfl,rfl,h2⟩⟩
theorem static72_c (H:AHeap) (v r:Nat) (least most depth:Int) (u p:Value) (ba ca:Option Addr) (cn cc bc:Nat) (bs:List UInt8) (hv:bk H v=some ⟨90,false,vfC least most depth u p (.slice none 0 0) (.map none) (.map (some r)) (.slice none 0 0)⟩) (hvl:v<H.next) (hr:MpAt H r fun _=>none)
  (eu:u=.slice ba bs.length bc) (ep:p=.slice ca cn cc) (hb1:RdAt H 1 u (bv bs) bs.length) (hu:scb H.next u=true) (hp:scb H.next p=true) (hok:H.base<=H.next) :
  CallA Tryz.prog 72 [.pointer (some ⟨v,0,none⟩)] H (fun out X=>Mod [v] H X/\StcOut X v r least most depth u p out H.next bs (statA least most depth cn bs)):=by
 obtain⟨b,hb⟩:=Go.Ax.exq H.next
 have hbase:H.base<=b:=hb▸hok
 have hvb:v<b:=hb▸hvl
 have kv:=hv
 unfold vfC at kv
 rw[eu,ep]at kv
 rw[hb,eu]at hu
 rw[hb,ep]at hp
 have hu1:=scb_mono (show b<=b+1 by omega) _ hu
 have hp1:=scb_mono (show b<=b+1 by omega) _ hp
 refine callE_fn mixed Tryz.func72 rfl Tryz.ntmps72 (zB3 rfl) ?_
 generalize hc:Code.seq (Code.region 1 _ _) _=code
 simp only[hb,hbase,hvb,kv,hu1,hp1,qk_old,ruW,putL,Nat.reduceLeDiff,xF,ruU,entryE,Nat.reduceLT,Nat.reduceAdd,Nat.reduceEqDiff]
 subst hc
 generalize hX:ext H _=X
 have mX:Mod [] H X:=hX▸Mod.ext hok
 have nX:X.next=b+1:=by rw[<-hX,ext_next,hb]; rfl
 have k0:bk X (b+0)=some ⟨33,false,[.int .i64 least,.int .i64 most,.int .i64 depth,.slice ba bs.length bc,.slice ca cn cc]⟩:=by rw[<-hX,bk_at hb (by simp)]; rfl
 clear hX
 have okX:=mX.ok hok
 obtain⟨x,hx⟩:=Go.Ax.exq X.next
 have j0:b+0<x:=by omega
 refine w_env fun E hE=>?_
 have g0:E 0=.pointer (some ⟨v,0,none⟩):=by rw[hE]; rfl
 have g2:E 2=.pointer (some ⟨b+0,0,none⟩):=by rw[hE]; rfl
 clear hE
 rw[w_seq]
 rw[show X=ext X [] from rfl]
 obtain⟨ok',hok'⟩:∃ q,decide (most=-1\/(least<=most/\most<=255))=q:=⟨_,rfl⟩
 refine w_meet (fun E' X'=>X'=ext X []/\E' 3=.bool ok'/\E' 0=.pointer (some ⟨v,0,none⟩)/\E' 2=.pointer (some ⟨b+0,0,none⟩)) ?_ ?_
 ·obtain⟨m1,hm1⟩:∃ q,decide (most=-1)=q:=⟨_,rfl⟩
  obtain⟨m2,hm2⟩:∃ q,decide (least<=most)=q:=⟨_,rfl⟩
  obtain⟨m3,hm3⟩:∃ q,decide (most<=255)=q:=⟨_,rfl⟩
  cases m1 with
  |true =>
   have e:ok'=true:=by rw[<-hok']; exact decide_eq_true (.inl (of_decide_eq_true hm1))
   subst e
   simp only[g2,hx,j0,k0,hm1,qk_old,ruW,xF,ruU,Nat.reduceLT,Nat.reduceAdd,Nat.reduceEqDiff]
   exact joinR_normal ⟨rfl,by simp only[ruU],by simp only[g0,ruU,Nat.reduceEqDiff],by simp only[g2,ruU,Nat.reduceEqDiff]⟩
  |false =>
   have n1:=of_decide_eq_false hm1
   cases m2 with
   |false =>
    have n2:=of_decide_eq_false hm2
    have e:ok'=false:=by rw[<-hok']; exact decide_eq_false (by omega)
    subst e
    simp only[g2,hx,j0,k0,hm1,hm2,qk_old,ruW,xF,ruU,Nat.reduceLT,Nat.reduceAdd,Nat.reduceEqDiff]
    exact joinR_normal ⟨rfl,by simp only[ruU],by simp only[g0,ruU,Nat.reduceEqDiff],by simp only[g2,ruU,Nat.reduceEqDiff]⟩
   |true =>
    have n2:=of_decide_eq_true hm2
    have e:ok'=m3:=by rw[<-hok',<-hm3]; exact decide_eq_decide.2 (by omega)
    subst e
    simp only[g2,hx,j0,k0,hm1,hm2,hm3,qk_old,ruW,xF,ruU,Nat.reduceLT,Nat.reduceAdd,Nat.reduceEqDiff]
    exact joinR_normal ⟨rfl,by simp only[ruU],by simp only[g0,ruU,Nat.reduceEqDiff],by simp only[g2,ruU,Nat.reduceEqDiff]⟩
 clear g0 g2 E
 rintro E X' ⟨hX',g3,g0,g2⟩
 rw[hX',w_seq]
 obtain⟨R,hR⟩:=Go.Ax.exq (statA least most depth cn bs)
 rw[hR]
 unfold statA at hR
 refine w_meet (fun E' X'=>X'=ext X []/\¬headR least most depth cn=true/\E' 0=.pointer (some ⟨v,0,none⟩)/\E' 2=.pointer (some ⟨b+0,0,none⟩)) ?_ ?_
 ·obtain⟨q1,h1⟩:∃ q,decide (least<0)=q:=⟨_,rfl⟩
  obtain⟨q2,h2⟩:∃ q,decide (255<least)=q:=⟨_,rfl⟩
  obtain⟨q4,h4⟩:∃ q,decide (depth<0)=q:=⟨_,rfl⟩
  obtain⟨q5,h5⟩:∃ q,decide (1000<depth)=q:=⟨_,rfl⟩
  obtain⟨q6,h6⟩:∃ q,decide (65536<(cn:Int))=q:=⟨_,rfl⟩
  have hh:headR least most depth cn=(q1||q2||!ok'||q4||q5||q6):=by
   rw[headR,h1,h2,h4,h5,h6]
   congr 4
   rw[<-hok',<-decide_not,<-Bool.decide_or,<-Bool.decide_and]
   exact decide_eq_decide.2 (by omega)
  cases q1 with
  |true =>
   have hd:headR least most depth cn=true:=by rw[hh]; simp
   rw[if_pos hd]at hR
   simp only[g2,hx,j0,k0,h1,qk_old,ruW,xF,ruU,Nat.reduceLT,Nat.reduceEqDiff]
   refine fail_t _ 3 0 _ ?_
   simp only[opC_error,endA_panic,lv_panic,joinR_panic]
   rw[<-hR]
   exact⟨mX.mono (by simp),rfl⟩
  |false =>
   cases q2 with
   |true =>
    have hd:headR least most depth cn=true:=by rw[hh]; simp
    rw[if_pos hd]at hR
    simp only[g2,hx,j0,k0,h1,h2,qk_old,ruW,xF,ruU,Nat.reduceLT,Nat.reduceEqDiff]
    refine fail_t _ 3 0 _ ?_
    simp only[opC_error,endA_panic,lv_panic,joinR_panic]
    rw[<-hR]
    exact⟨mX.mono (by simp),rfl⟩
   |false =>
    cases ok' with
    |false =>
     have hd:headR least most depth cn=true:=by rw[hh]; simp
     rw[if_pos hd]at hR
     simp only[g2,g3,hx,j0,k0,h1,h2,qk_old,ruW,xF,ruU,Nat.reduceLT,Nat.reduceEqDiff]
     refine fail_t _ 3 0 _ ?_
     simp only[opC_error,endA_panic,lv_panic,joinR_panic]
     rw[<-hR]
     exact⟨mX.mono (by simp),rfl⟩
    |true =>
     cases q4 with
     |true =>
      have hd:headR least most depth cn=true:=by rw[hh]; simp
      rw[if_pos hd]at hR
      simp only[g2,g3,hx,j0,k0,h1,h2,h4,qk_old,ruW,xF,ruU,Nat.reduceLT,Nat.reduceAdd,Nat.reduceEqDiff]
      refine fail_t _ 3 0 _ ?_
      simp only[opC_error,endA_panic,lv_panic,joinR_panic]
      rw[<-hR]
      exact⟨mX.mono (by simp),rfl⟩
     |false =>
      cases q5 with
      |true =>
       have hd:headR least most depth cn=true:=by rw[hh]; simp
       rw[if_pos hd]at hR
       simp only[g2,g3,hx,j0,k0,h1,h2,h4,h5,qk_old,ruW,xF,ruU,Nat.reduceLT,Nat.reduceAdd,Nat.reduceEqDiff]
       refine fail_t _ 3 0 _ ?_
       simp only[opC_error,endA_panic,lv_panic,joinR_panic]
       rw[<-hR]
       exact⟨mX.mono (by simp),rfl⟩
      |false =>
       cases q6 with
       |true =>
        have hd:headR least most depth cn=true:=by rw[hh]; simp
        rw[if_pos hd]at hR
        simp only[g2,g3,hx,j0,k0,h1,h2,h4,h5,h6,qk_old,ruW,xF,ruU,Nat.reduceLT,Nat.reduceAdd,Nat.reduceEqDiff]
        refine fail_t _ 3 0 _ ?_
        simp only[opC_error,endA_panic,lv_panic,joinR_panic]
        rw[<-hR]
        exact⟨mX.mono (by simp),rfl⟩
       |false =>
        simp only[g2,g3,hx,j0,k0,h1,h2,h4,h5,h6,qk_old,ruW,xF,ruU,Nat.reduceLT,Nat.reduceAdd,Nat.reduceEqDiff]
        refine (fail_f _ 3 0).to ?_
        simp only[ruW,Nat.reduceLT]
        exact joinR_normal ⟨rfl,by rw[hh]; simp,by simp only[g0,ruU,Nat.reduceEqDiff],by simp only[g2,ruU,Nat.reduceEqDiff]⟩
 clear g0 g2 g3 E
 rintro E X' ⟨hX',hnh,g0,g2⟩
 rw[hX']
 rw[if_neg hnh]at hR
 have mHX:Mod [v] H X:=mX.mono (by simp)
 have hu2:scb X.next (.slice ba bs.length bc)=true:=by rw[hx]; exact scb_mono (by omega) _ hu
 have hp2:scb x (.slice ca cn cc)=true:=scb_mono (by omega) _ hp
 have hb2:RdAt X 1 (.slice ba bs.length bc) (bv bs) bs.length:=eu▸hb1.mod0 mX
 have kvX:=(mX.bk hvl (by simp)).trans kv
 generalize hc:Code.seq (Code.region 4 _ _) _=code
 simp only[g2,hx,j0,k0,qk_old,ruW,xF,ruU,Nat.reduceLT,Nat.reduceAdd]
 refine (dec24_c (ext X []) _ ba bc bs rfl hb2 hu2 okX).mono ?_
 rintro _ Y ⟨mY,lv,ls,e,a,rfl,own,hdec⟩
 replace mY:Mod [] X Y:=mY
 replace own:OwnI X.next Y lv ls:=own
 obtain⟨y,hy⟩:=Go.Ax.exq Y.next
 have okY:=mY.ok okX
 have yb:Y.base<=y:=hy▸okY
 have hxy:x<=y:=by have:=mY.next; omega
 have slv:scb y lv=true:=hy▸VsAt.sc own.vs
 obtain⟨la,lc,el⟩:=own.rd.rd.sl
 rw[el]at slv
 rw[el]
 rw[show Y=ext Y [] from rfl]
 simp only[hy,yb,ruW,putL,Nat.reduceLeDiff,xF,ruU,Nat.reduceLT,Nat.reduceAdd,Nat.reduceEqDiff]
 subst hc
 generalize hX2:ext Y _=Y2
 have mY2:Mod [] Y Y2:=hX2▸Mod.ext okY
 have nY2:Y2.next=y+1:=by rw[<-hX2,ext_next,hy]; rfl
 have k5:bk Y2 (y+0)=some ⟨26,false,[.int .i64 e,.int .i64 a]⟩:=by rw[<-hX2,bk_at hy (by simp)]; rfl
 clear hX2
 have mXY2:=mY.trans mY2
 have okY2:=mXY2.ok okX
 have yb2:Y2.base<=y+1:=nY2▸okY2
 have k0Y:=(mXY2.bk (by omega) (by simp)).trans k0
 have kvY:=(mXY2.bk (by omega) (by simp)).trans kvX
 have own2:OwnI X.next Y2 lv ls:=own.mod0 mY2
 have jy:y+0<y+1:=by omega
 have jv:v<y+1:=by omega
 refine w_env fun E2 hE=>?_
 replace g0:E2 0=.pointer (some ⟨v,0,none⟩):=by rw[hE]; simp only[g0,ruU,Nat.reduceEqDiff]
 replace g2:E2 2=.pointer (some ⟨b+0,0,none⟩):=by rw[hE]; simp only[g2,ruU,Nat.reduceEqDiff]
 have g4:E2 4=.slice la ls.length lc:=by rw[hE]; rfl
 have g5:E2 5=.pointer (some ⟨y+0,0,none⟩):=by rw[hE]; rfl
 clear hE E
 rw[show Y2=ext Y2 [] from rfl]
 rcases hdec with⟨he,hdF⟩|⟨he,hdF,hbad,hls⟩
 ·have hd:decide (¬e=0)=true:=decide_eq_true he
  rw[hdF]at hR
  simp only[g5,nY2,jy,k5,hd,qk_old,ruW,xF,ruU,Nat.reduceLT,Nat.reduceAdd,Nat.reduceEqDiff]
  refine fail_t _ e a _ ?_
  simp only[opC_error,seqC_panic,endA_panic,lv_panic]
  rw[<-hR]
  exact⟨mHX.trans (mXY2.mono (by simp)),rfl⟩
 rw[hdF]at hR
 subst he
 have hd:decide (¬(0:Int)=0)=false:=by decide
 simp only[g5,nY2,jy,k5,qk_old,ruW,xF,ruU,Nat.reduceLT,Nat.reduceAdd,Nat.reduceEqDiff]
 refine (fail_f _ 0 a).to ?_
 obtain⟨dz,hdz⟩:∃ q,decide ((ls.length:Int)=0)=q:=⟨_,rfl⟩
 have hz:insA bs=[] ↔ dz=true:=by
  rw[<-hdz,decide_eq_true_eq,<-hls,List.map_eq_nil_iff,<-List.length_eq_zero_iff]
  omega
 simp only[g4,hdz,ruW,xF,ruU,Nat.reduceLT,Nat.reduceEqDiff]
 cases dz with
 |true =>
  rw[if_pos (hz.2 rfl)]at hR
  refine fail_t _ 13 0 _ ?_
  simp only[opC_error,seqC_panic,endA_panic,lv_panic]
  rw[<-hR]
  exact⟨mHX.trans (mXY2.mono (by simp)),rfl⟩
 |false =>
 rw[if_neg (fun h=>by have:=hz.1 h; cases this)]at hR
 refine (fail_f _ 13 0).to ?_
 generalize hc:Code.seq (Code.seq (Code.region 7 _ _) _) _=code
 simp only[g0,g4,w_mkmap,ruW,xF,ruU,Nat.reduceLT,Nat.reduceAdd,Nat.reduceEqDiff]
 generalize hX3:AHeap.new (ext Y2 []) (mapO [] 0)=X3
 have mX3:Mod [] Y2 X3:=hX3▸Mod.new okY2
 obtain⟨n,hn⟩:=Go.Ax.exq (y+1)
 rw[hn]at nY2
 have nX3:X3.next=n+1:=by rw[<-hX3]; simp only[AHeap.new_eq]; rw[ext_nil,nY2]
 have gX3:X3.get n=some (mapO [] 0):=by rw[<-hX3]; rw[AHeap.get_new,if_pos (by rw[ext_nil,nY2])]
 clear hX3
 have mp0:MpAt X3 n fun _=>none:=⟨by omega,[],0,gX3,MapsTo.nil⟩
 have okX3:=mX3.ok okY2
 have xb3:X3.base<=n+1:=nX3▸okX3
 have k03:=(mX3.bk (by omega) (by simp)).trans k0Y
 have kv3:=(mX3.bk (by omega) (by simp)).trans kvY
 have slv3:scb (n+1) (.slice la ls.length lc)=true:=scb_mono (by omega) _ slv
 have smp:scb (n+1) (.map (some n))=true:=by simp[scb]
 have jv3:v<n+1:=by omega
 rw[show X3=ext X3 [] from rfl]
 have hn0:n+0=n:=rfl
 have hcm:(Value.map (some n)).cells.toList=[.map (some n)]:=rfl
 have hst1:∀ l,l.length=9->stB Tryz.prog 87 (n+1) 6 (.map (some n)) (some ⟨90,false,l⟩)=some ⟨90,false,putL l 6 [.map (some n)]⟩:=fun l hl=>stB_ok (by kernel_rfl) (by rw[hl]; exact zB3 rfl) rfl (by simp[hcm,scbL,scb])
 simp only[nY2,hn0,nX3,kv3,slv3,jv3,hcm,hst1,zA8,zC5,ruW,putL,Nat.reduceLeDiff,xF,ruU,Nat.reduceLT,Nat.reduceAdd,Nat.reduceEqDiff]
 subst hc
 have kW1:=bk_uw (off:=5) (vs:=[Value.slice la ls.length lc]) kv3 (by simp)
 have kW2:=bk_uw (off:=6) (vs:=[Value.map (some n)]) kW1 (zB3 rfl)
 generalize hW:uw (uw X3 v 5 [Value.slice la ls.length lc]) v 6 [.map (some n)]=W at kW2 ⊢
 have mW:Mod [v] X3 W:=hW▸(Mod.uw (by simp)).trans (Mod.uw (by simp))
 have nW:W.next=n+1:=by rw[<-hW,uw_next,uw_next,nX3]
 clear hW kW1
 have kW:bk W v=some ⟨90,false,[.int .i64 least,.int .i64 most,.int .i64 depth,.slice ba bs.length bc,.slice ca cn cc,.slice la ls.length lc,.map (some n),.map (some r),.slice none 0 0]⟩:=kW2
 clear kW2
 have okW:=mW.ok okX3
 have wb:W.base<=n+1:=nW▸okW
 have hnv:∀ k,k≠v->k∉[v]:=fun k h=>by simpa using h
 have mpW:MpAt W n (ixF ((ls.map (·.1)).take 0)):=by
  rw[List.take_zero,ixF_nil]
  exact mp0.mod mW (hnv _ (by omega))
 have kW0:=(mW.bk (n:=b+0) (by omega) (hnv _ (by omega))).trans k03
 have m2W:Mod [v] Y2 W:=(mX3.mono (by simp)).trans mW
 have hilo:∀ k∈insF lv ls,x<=k/\k<n:=fun k hk=>by
  refine⟨?_,by have:=(own2.rd.ne k hk).2; omega⟩
  rcases zB7.1 hk with hk|hk
  ·have:=own2.lo k (rdF_ids hk); omega
  ·obtain⟨z,hz1,hz2⟩:=List.mem_flatMap.1 hk
   have:=(own2.alo z hz1 k (rdF_ids hz2)).1
   omega
 have iW:InsRd W lv ls:=own2.rd.of m2W.next fun k hk=>m2W.get k (own2.rd.ne k hk).2 (hnv _ (by have:=hilo k hk; omega))
 have hwf:∀ z∈ls,WfI z.1:=fun z hz=>ins_wf hbad _ (hls▸List.mem_map_of_mem hz)
 have hdl:=ins_len hbad
 have hbl:bs.length<=60000:=by
  rcases zD3 60000 bs.length with h|h
  ·unfold decF at hdF
   rw[if_pos h]at hdF
   cases hdF
  ·exact h
 have hll:ls.length<=60000:=by
  have:=hdl.1
  rw[<-hls,zC8]at this
  omega
 have hal:∀ z∈ls,z.1.args.length<=60000:=fun z hz=>by
  have:=hdl.2 _ (hls▸List.mem_map_of_mem hz)
  omega
 have hinc:=ins_inc hbad
 rw[<-hls]at hinc
 rw[show W=ext W [] from rfl]
 simp only[g4,ruW,xF,ruU,Nat.reduceLT,Nat.reduceEqDiff]
 refine w_env fun E3 hE=>?_
 replace g0:E3 0=.pointer (some ⟨v,0,none⟩):=by rw[hE]; simp only[g0,ruU,Nat.reduceEqDiff]
 replace g2:E3 2=.pointer (some ⟨b+0,0,none⟩):=by rw[hE]; simp only[g2,ruU,Nat.reduceEqDiff]
 have g90:E3 90=.slice la ls.length lc:=by rw[hE]; rfl
 replace g4:E3 4=.slice la ls.length lc:=by rw[hE]; simp only[g4,ruU,Nat.reduceEqDiff]
 have g91:E3 91=.int .i64 (ls.length:Int):=by rw[hE]; rfl
 have g92:E3 92=.int .i64 ((0:Nat):Int):=by rw[hE]; rfl
 clear hE g5 E2
 refine w_loop (fun (k:Nat) E' X'=>Mod [n] W X'/\k<=ls.length/\MpAt X' n (ixF ((ls.map (·.1)).take k))/\E' 0=.pointer (some ⟨v,0,none⟩)/\E' 2=.pointer (some ⟨b+0,0,none⟩)/\E' 4=.slice la ls.length lc/\E' 90=.slice la ls.length lc/\E' 91=.int .i64 (ls.length:Int)/\E' 92=.int .i64 (k:Int)) (fun k=>ls.length-k) 0 ⟨Mod.refl,zC0 _,mpW,g0,g2,g4,g90,g91,g92⟩ ?_
 clear g0 g2 g4 g90 g91 g92 E3
 rintro k E V ⟨mV,hk,mpV,g0,g2,g4,g90,g91,g92⟩
 obtain⟨w,hw⟩:=Go.Ax.exq V.next
 have okV:=mV.ok okW
 have vb:V.base<=w:=hw▸okV
 have lw:n+1<=w:=by have:=mV.next; omega
 have hnn:∀ k,k≠n->k∉[n]:=fun k h=>by simpa using h
 have kVv:=(mV.bk (n:=v) (by omega) (hnn _ (by omega))).trans kW
 have kV0:=(mV.bk (n:=b+0) (by omega) (hnn _ (by omega))).trans kW0
 have iV:InsRd V lv ls:=iW.of mV.next fun k hk=>mV.get k (iW.ne k hk).2 (hnn _ (by have:=hilo k hk; omega))
 have jvw:v<w:=by omega
 have j0w:b+0<w:=by omega
 rw[show V=ext V [] from rfl]
 by_cases hke:k=ls.length
 ·have hd:decide ((k:Int)<(ls.length:Int))=false:=decide_eq_false (by omega)
  simp only[g4,g91,g92,hd,ruW,xF,ruU,Nat.reduceLT,Nat.reduceEqDiff]
  have mpF:MpAt V n (ixF (ls.map (·.1))):=by
   have:=mpV
   rw[hke,<-zC8 (f:=(·.1)),List.take_length]at this
   exact this
  refine w_env fun E3 hE=>?_
  replace g0:E3 0=.pointer (some ⟨v,0,none⟩):=by rw[hE]; simp only[g0,ruU,Nat.reduceEqDiff]
  replace g2:E3 2=.pointer (some ⟨b+0,0,none⟩):=by rw[hE]; simp only[g2,ruU,Nat.reduceEqDiff]
  have g105:E3 105=.slice la ls.length lc:=by rw[hE]; rfl
  have g106:E3 106=.int .i64 (ls.length:Int):=by rw[hE]; rfl
  have g107:E3 107=.int .i64 ((0:Nat):Int):=by rw[hE]; rfl
  clear hE g4 g90 g91 g92 E
  obtain⟨l,hl⟩:=Go.Ax.exq (ls.map (·.1))
  have hlen:l.length=ls.length:=by rw[<-hl,zC8]
  rw[hl]at mpF hls
  have hR2:statR l cn=R:=by rw[hls]; exact hR
  refine w_loop (fun (i:Nat) E' X'=>Mod [] V X'/\i<=ls.length/\(∀ j,j<i->∀ y,l[j]?=some y->statO l cn y=none)/\E' 0=.pointer (some ⟨v,0,none⟩)/\E' 2=.pointer (some ⟨b+0,0,none⟩)/\E' 105=.slice la ls.length lc/\E' 106=.int .i64 (ls.length:Int)/\E' 107=.int .i64 (i:Int)) (fun i=>ls.length-i) 0 ⟨Mod.refl,zC0 _,fun j hj=>absurd hj (by omega),g0,g2,g105,g106,g107⟩ ?_
  clear g0 g2 g105 g106 g107 E3
  rintro i E Z ⟨mZ,hi,hall,g0,g2,g105,g106,g107⟩
  obtain⟨z,hz⟩:=Go.Ax.exq Z.next
  have okZ:=mZ.ok okV
  have zb:Z.base<=z:=hz▸okZ
  have lz:w<=z:=by have:=mZ.next; omega
  have mVZ:=mV.trans (mZ.mono (W':=[n]) (by simp))
  have kZv:=(mZ.bk (n:=v) (by omega) (by simp)).trans kVv
  have kZ0:=(mZ.bk (n:=b+0) (by omega) (by simp)).trans kV0
  have iZ:=iV.mod0 mZ
  have mpZ:=mpF.mod mZ (by simp)
  have mHZ:Mod [v] H Z:=by
   have h1:Mod [v] H W:=(mHX.trans (mXY2.mono (by simp))).trans m2W
   exact h1.step mVZ hok fun k hk=>by simp only[zA4]at hk; exact .inr (by omega)
  rw[show Z=ext Z [] from rfl]
  by_cases hie:i=ls.length
  ·have hd:decide ((i:Int)<(ls.length:Int))=false:=decide_eq_false (by omega)
   simp only[g106,g107,hd,Tryz.results72,ruW,ruU,Nat.reduceLT]
   have hn2:statR l cn=none:=stat_not fun j y hy=>hall j (by have:=(zE6.1 hy).1; omega) y hy
   rw[hn2]at hR2
   rw[<-hR2]
   have hrv:r≠v:=fun e=>by
    have:=hr.bk
    rw[e,hv]at this
    cases this
   refine⟨mHZ,rfl,lv,ls,n,n,⟨?_,by omega,hb▸hr.1,by rw[ext_nil,hz]; omega,iZ,fun k hk=>by have:=hilo k hk; omega,by rw[hl]; exact mpZ,zB1 _,by have:=hr.1; omega,?_,.inl ⟨rfl,rfl⟩,fun k hk=>by simp[idsV]at hk,fun j t tv hj=>?_⟩,hl.trans hls,by rw[ext_nil]; omega,?_⟩
   ·rw[eu,ep,el]
    exact kZv
   ·rw[stF_rep]
    exact hr.mod mHZ (by simpa using hrv)
   ·rw[List.getElem?_replicate]at hj
    split at hj<;>simp at hj
   ·rw[el,ext_nil,hz]
    exact scb_mono (by omega) _ slv
  ·have hkl:i<ls.length:=by omega
   have hd:decide ((i:Int)<(ls.length:Int))=true:=decide_eq_true (by omega)
   obtain⟨q,hq⟩:∃ q,ls[i]?=some q:=⟨ls[i],zA5 hkl⟩
   obtain⟨m,off,sp,c,e,o,M,e1,m1,r1,ia,ld⟩:=iZ.one hq
   have hwk:IntKind.i64.wrap ((i:Int)+1)=((i+1:Nat):Int):=wrap_succ (by omega)
   rw[el]at e1
   simp only[Value.slice.injEq]at e1
   obtain⟨hla,-,rfl⟩:=e1
   rw[el,hla]at ia
   rw[hla]at g105
   rw[hz]at m1
   have hqm:=zF2 hq
   have hqw:=hwf q hqm
   have hqa:=hal q hqm
   have hqr:=iZ.av q hqm
   have sq:=iZ.sc q hqm
   have hlq:l[i]?=some q.1:=by rw[<-hl,zE5,hq]; rfl
   obtain⟨⟨pos,opi,args⟩,av⟩:=q
   obtain⟨op,rfl⟩:∃ k:Nat,opi=k:=⟨opi.toNat,by have:=hqw.1; simp only at this; omega⟩
   have hop:op<28:=by have:=hqw.2.1; simp only at this; omega
   have hkl2:args.length=(kindsR op args).length:=hqw.2.2.1
   have hcn:cntR op args<=1000000:=by have:=cntR_small (op:=op) (args:=args) hqw.2.2.2; omega
   have hpos:=hqw.pos
   have hfst:=hqw.fst
   simp only[zB5]at hpos hfst hqr hqa
   obtain⟨az,cz,ez⟩:=hqr.sl
   simp only at sq
   rw[hz,ez]at sq
   have sq1:=scb_mono (show z<=z+1 by omega) _ sq
   simp only[ivV,ivC,ez]at ld
   have hso:statO l cn ⟨pos,(op:Int),args⟩=if (constsR op args).any (fun k=>decide ((cn:Int)<=k))=true then some (3,pos) else if op=8/\args.getD 0 0=0 then some (3,pos) else if (targsR op args).any (fun t=>decide (findR l t<0))=true then some (5,pos) else none:=rfl
   generalize hc:Code.seq (Code.region 15 _ _) _=code
   simp only[g105,g106,g107,hz,zb,hd,ia,m1,r1,ld,sq1,qk_old,ruW,putL,Nat.reduceLeDiff,xF,ruU,Nat.reduceLT,Nat.reduceAdd,Nat.reduceEqDiff]
   subst hc
   generalize hZ1:ext Z _=Z1
   have mZ1:Mod [] Z Z1:=hZ1▸Mod.ext okZ
   have nZ1:Z1.next=z+1:=by rw[<-hZ1,ext_next,hz]; rfl
   have kq:bk Z1 (z+0)=some ⟨59,false,[.int .i64 pos,.int .i64 (op:Int),.slice az args.length cz]⟩:=by rw[<-hZ1,bk_at hz (by simp)]; rfl
   clear hZ1
   have okZ1:=mZ1.ok okZ
   have kZ01:=(mZ1.bk (n:=b+0) (by omega) (by simp)).trans kZ0
   have kZv1:=(mZ1.bk (n:=v) (by omega) (by simp)).trans kZv
   have mpZ1:=mpZ.mod mZ1 (by simp)
   have iZ1:=iZ.mod0 mZ1
   have hqr1:RdAt Z1 1 (.slice az args.length cz) (iv args) args.length:=ez▸iZ1.av _ hqm
   have sq2:scb Z1.next (.slice az args.length cz)=true:=by rw[nZ1]; exact sq1
   have zb1:Z1.base<=z+1:=nZ1▸okZ1
   have jz0:z+0<z+1:=by omega
   rw[show Z1=ext Z1 [] from rfl]
   generalize hc:Code.seq (Code.region 20 _ _) _=code
   simp only[nZ1,jz0,kq,qk_old,ruW,Nat.reduceLeDiff,xF,ruU,Nat.reduceLT,Nat.reduceAdd]
   refine (operands96_c (ext Z1 []) pos op (.slice az args.length cz) args 107 hop hqr1 (by omega) hkl2 hcn sq2 okZ1).mono ?_
   rintro _ A ⟨wt,rfl,vt,mA,hlt⟩
   replace mA:Mod [] Z1 A:=mA
   rw[(kinds_agree hop hkl2).1]at vt
   obtain⟨aa,ha⟩:=Go.Ax.exq A.next
   have okA:=mA.ok okZ1
   have ab:A.base<=aa:=ha▸okA
   have laa:z+1<=aa:=by have:=mA.next; omega
   have kA0:=(mA.bk (n:=b+0) (by omega) (by simp)).trans kZ01
   have kAq:=(mA.bk (n:=z+0) (by omega) (by simp)).trans kq
   obtain⟨ta,tc,et⟩:=vt.rd.sl
   rw[et]
   rw[show A=ext A [] from rfl]
   simp only[ruW,xF,ruU,Nat.reduceLT]
   refine w_env fun E3 hE=>?_
   replace g0:E3 0=.pointer (some ⟨v,0,none⟩):=by rw[hE]; simp only[g0,ruU,Nat.reduceEqDiff]
   replace g2:E3 2=.pointer (some ⟨b+0,0,none⟩):=by rw[hE]; simp only[g2,ruU,Nat.reduceEqDiff]
   replace g105:E3 105=.slice la ls.length lc:=by rw[hla,hE]; simp only[g105,ruU,Nat.reduceEqDiff]
   replace g106:E3 106=.int .i64 (ls.length:Int):=by rw[hE]; simp only[g106,ruU,Nat.reduceEqDiff]
   replace g107:E3 107=.int .i64 (i:Int):=by rw[hE]; simp only[g107,ruU,Nat.reduceEqDiff]
   have g9:E3 9=.pointer (some ⟨z+0,0,none⟩):=by rw[hE]; rfl
   have g112:E3 112=.slice ta (constsR op args).length tc:=by rw[hE]; rfl
   have g113:E3 113=.int .i64 ((constsR op args).length:Int):=by rw[hE]; rfl
   have g114:E3 114=.int .i64 ((0:Nat):Int):=by rw[hE]; rfl
   clear hE E
   have cln:=consts_len op args
   have jA0:b+0<aa:=by omega
   have jAq:z+0<aa:=by omega
   have mHA:Mod [v] H A:=mHZ.trans ((mZ1.trans mA).mono (by simp))
   refine w_loop (fun (j:Nat) E' X'=>Mod [] A X'/\j<=(constsR op args).length/\(∀ y∈(constsR op args).take j,¬(cn:Int)<=y)/\E' 0=.pointer (some ⟨v,0,none⟩)/\E' 2=.pointer (some ⟨b+0,0,none⟩)/\E' 105=.slice la ls.length lc/\E' 106=.int .i64 (ls.length:Int)/\E' 107=.int .i64 (i:Int)/\E' 9=.pointer (some ⟨z+0,0,none⟩)/\E' 112=.slice ta (constsR op args).length tc/\E' 113=.int .i64 ((constsR op args).length:Int)/\E' 114=.int .i64 (j:Int)) (fun j=>(constsR op args).length-j) 0 ⟨Mod.refl,zC0 _,by simp,g0,g2,g105,g106,g107,g9,g112,g113,g114⟩ ?_
   clear g0 g2 g105 g106 g107 g9 g112 g113 g114 E3
   rintro j E B ⟨mB,hj,hcs,g0,g2,g105,g106,g107,g9,g112,g113,g114⟩
   obtain⟨bb,hbb⟩:=Go.Ax.exq B.next
   have okB:=mB.ok okA
   have b3:B.base<=bb:=hbb▸okB
   have lbb:aa<=bb:=by have:=mB.next; omega
   have kB0:=(mB.bk (n:=b+0) (by omega) (by simp)).trans kA0
   have kBq:=(mB.bk (n:=z+0) (by omega) (by simp)).trans kAq
   have jB0:b+0<bb:=by omega
   have jBq:z+0<bb:=by omega
   have mHB:Mod [v] H B:=mHA.trans (mB.mono (by simp))
   rw[show B=ext B [] from rfl]
   by_cases hje:j=(constsR op args).length
   ·have hd:decide ((j:Int)<((constsR op args).length:Int))=false:=decide_eq_false (by omega)
    have hca:¬(constsR op args).any (fun k=>decide ((cn:Int)<=k))=true:=by
     rw[hje,List.take_length]at hcs
     rw[List.any_eq_true]
     rintro⟨y,hy,hy2⟩
     exact hcs y hy (of_decide_eq_true hy2)
    rw[if_neg hca]at hso
    simp only[g113,g114,hd,ruW,ruU,Nat.reduceLT]
    subst hc
    have hqrB:RdAt B 1 (.slice az args.length cz) (iv args) args.length:=(hqr1.mod0 mA).mod0 mB
    rw[w_seq]
    refine w_meet (fun E' X'=>X'=ext B []/\¬(op=8/\args.getD 0 0=0)/\E' 0=.pointer (some ⟨v,0,none⟩)/\E' 2=.pointer (some ⟨b+0,0,none⟩)/\E' 105=.slice la ls.length lc/\E' 106=.int .i64 (ls.length:Int)/\E' 107=.int .i64 (i:Int)/\E' 9=.pointer (some ⟨z+0,0,none⟩)) ?_ ?_
    ·refine w_drawP [] [(3,130)] (by kernel_rfl) (by kernel_rfl) rfl (by kernel_rfl) (fun ops anc hA hG=>?_) (by simp) ⟨rfl,rfl⟩
     simp only[all2_cons]at hG
     by_cases h8:op=8
     ·have h0:0<args.length:=hpos (by omega)
      obtain⟨n3,off3,s3',c3,e3,o3,M3,ek3,n13,r13,m13⟩:=hqrB.one h0
      simp only[Value.slice.injEq]at ek3
      obtain⟨haz,-,rfl⟩:=ek3
      have i3:aIndexAddr Tryz.prog 35 (.slice (some ⟨n3,off3,s3'⟩) args.length cz) (.int .i64 0)=some (.pointer (some ⟨n3,off3+0*1,none⟩)):=ia_of (i:=0) u35 s3 h0
      rw[Nat.zero_mul]at i3
      rw[iv_get,zA5 h0,zA6]at m13
      rw[hbb]at n13
      have hg0:args.getD 0 0=args[0]:=by rw[zA9,zA5 h0]; rfl
      obtain⟨q0,hq0⟩:∃ q,args[0]=q:=⟨_,rfl⟩
      rw[hq0]at m13 hg0
      obtain⟨d0',hd0⟩:∃ d,decide (q0=0)=d:=⟨_,rfl⟩
      have hd8:decide ((op:Int)=8)=true:=decide_eq_true (by omega)
      have kBq':=kBq
      rw[haz]at kBq'
      simp only[dropLast_more,dropLast_one,g9,hbb,jBq,kBq',hd8,i3,n13,r13,m13,hd0,hG,qk_old,ruD,ruW,xF,ruU,Nat.reduceLT,Nat.reduceAdd,Nat.reduceEqDiff]
      simp only[lastO_cons,lastO_one,isDef_call,true_and,ruW,xF,ruU,Nat.reduceLT,Nat.reduceEqDiff]
      cases d0' with
      |true =>
       rw[if_pos ⟨h8,hg0.trans (of_decide_eq_true hd0)⟩]at hso
       refine fail_t _ 3 pos _ ?_
       simp only[opC_error,seqC_panic,endA_panic,lv_panic,blockC_panic,loopC_panic,joinR_panic]
       rw[<-hR2,stat_at hlq hso hall]
       exact⟨mHB,rfl⟩
      |false =>
       refine (fail_f _ 3 pos).to ?_
       simp only[ruW,Nat.reduceLT]
       refine joinR_normal ⟨rfl,fun h=>of_decide_eq_false hd0 (hg0▸h.2),?_,?_,?_,?_,?_,?_⟩
       ·exact g0
       ·exact g2
       ·exact g105
       ·exact g106
       ·exact g107
       ·exact g9
     ·have hd8:decide ((op:Int)=8)=false:=decide_eq_false (by omega)
      simp only[dropLast_more,dropLast_one,g9,hbb,jBq,kBq,hd8,hG,qk_old,ruD,ruW,xF,ruU,Nat.reduceLT,Nat.reduceAdd,Nat.reduceEqDiff]
      simp only[lastO_cons,lastO_one,isDef_call,true_and,ruW,xF,ruU,Nat.reduceLT,Nat.reduceEqDiff]
      refine (fail_f _ 3 pos).to ?_
      simp only[ruW,Nat.reduceLT]
      refine joinR_normal ⟨rfl,fun h=>h8 h.1,?_,?_,?_,?_,?_,?_⟩
      ·exact g0
      ·exact g2
      ·exact g105
      ·exact g106
      ·exact g107
      ·exact g9
    clear g0 g2 g105 g106 g107 g9 g112 g113 g114 E
    rintro E X' ⟨hX',hn8,g0,g2,g105,g106,g107,g9⟩
    rw[hX']
    rw[if_neg hn8]at hso
    have sq3:scb B.next (.slice az args.length cz)=true:=by rw[hbb]; exact scb_mono (by omega) _ sq1
    simp only[g9,hbb,jBq,kBq,qk_old,ruW,Nat.reduceLeDiff,xF,ruU,Nat.reduceLT,Nat.reduceAdd]
    refine (operands96_c (ext B []) pos op (.slice az args.length cz) args 116 hop hqrB (by omega) hkl2 hcn sq3 okB).mono ?_
    rintro _ C ⟨wu,rfl,vu,mC,hlu⟩
    replace mC:Mod [] B C:=mC
    rw[(kinds_agree hop hkl2).2]at vu
    obtain⟨cx,hcx⟩:∃ aa,C.next=aa:=⟨_,rfl⟩
    have okC:=mC.ok okB
    have cb:C.base<=cx:=hcx▸okC
    have lcx:bb<=cx:=by have:=mC.next; omega
    have mAC:=mB.trans mC
    have kC0:=(mC.bk (n:=b+0) (by omega) (by simp)).trans kB0
    have kCq:=(mC.bk (n:=z+0) (by omega) (by simp)).trans kBq
    have mZC:Mod [] Z C:=(mZ1.trans mA).trans mAC
    have kCv:=(mZC.bk (n:=v) (by omega) (by simp)).trans kZv
    have mpC:=mpZ.mod mZC (by simp)
    obtain⟨ua,uc,eut⟩:=vu.rd.sl
    rw[eut]
    rw[show C=ext C [] from rfl]
    simp only[ruW,xF,ruU,Nat.reduceLT]
    refine w_env fun E3 hE=>?_
    replace g0:E3 0=.pointer (some ⟨v,0,none⟩):=by rw[hE]; simp only[g0,ruU,Nat.reduceEqDiff]
    replace g2:E3 2=.pointer (some ⟨b+0,0,none⟩):=by rw[hE]; simp only[g2,ruU,Nat.reduceEqDiff]
    replace g105:E3 105=.slice la ls.length lc:=by rw[hE]; simp only[g105,ruU,Nat.reduceEqDiff]
    replace g106:E3 106=.int .i64 (ls.length:Int):=by rw[hE]; simp only[g106,ruU,Nat.reduceEqDiff]
    replace g107:E3 107=.int .i64 (i:Int):=by rw[hE]; simp only[g107,ruU,Nat.reduceEqDiff]
    replace g9:E3 9=.pointer (some ⟨z+0,0,none⟩):=by rw[hE]; simp only[g9,ruU,Nat.reduceEqDiff]
    have g141:E3 141=.slice ua (targsR op args).length uc:=by rw[hE]; rfl
    have g142:E3 142=.int .i64 ((targsR op args).length:Int):=by rw[hE]; rfl
    have g143:E3 143=.int .i64 ((0:Nat):Int):=by rw[hE]; rfl
    clear hE E
    have tln:=targs_len op args
    have jCv:v<cx:=by omega
    have jCq:z+0<cx:=by omega
    have mHC:Mod [v] H C:=mHZ.trans (mZC.mono (by simp))
    refine w_loop (fun (j:Nat) E' X'=>Mod [] C X'/\j<=(targsR op args).length/\(∀ y∈(targsR op args).take j,¬findR l y<0)/\E' 0=.pointer (some ⟨v,0,none⟩)/\E' 2=.pointer (some ⟨b+0,0,none⟩)/\E' 105=.slice la ls.length lc/\E' 106=.int .i64 (ls.length:Int)/\E' 107=.int .i64 (i:Int)/\E' 9=.pointer (some ⟨z+0,0,none⟩)/\E' 141=.slice ua (targsR op args).length uc/\E' 142=.int .i64 ((targsR op args).length:Int)/\E' 143=.int .i64 (j:Int)) (fun j=>(targsR op args).length-j) 0 ⟨Mod.refl,zC0 _,by simp,g0,g2,g105,g106,g107,g9,g141,g142,g143⟩ ?_
    clear g0 g2 g105 g106 g107 g9 g141 g142 g143 E3
    clear hcs hje hd hj mB j kB0 kBq jB0 jBq hbb b3 lbb
    rintro j E D ⟨mD,hj,hcs,g0,g2,g105,g106,g107,g9,g141,g142,g143⟩
    obtain⟨dd,hdd⟩:∃ bb,D.next=bb:=⟨_,rfl⟩
    have okD:=mD.ok okC
    have b3:D.base<=dd:=hdd▸okD
    have ldd:cx<=dd:=by have:=mD.next; omega
    have kDq:=(mD.bk (n:=z+0) (by omega) (by simp)).trans kCq
    have kDv:=(mD.bk (n:=v) (by omega) (by simp)).trans kCv
    have mpD:=mpC.mod mD (by simp)
    have jDq:z+0<dd:=by omega
    have jDv:v<dd:=by omega
    have mHD:Mod [v] H D:=mHC.trans (mD.mono (by simp))
    rw[show D=ext D [] from rfl]
    by_cases hje:j=(targsR op args).length
    ·have hd:decide ((j:Int)<((targsR op args).length:Int))=false:=decide_eq_false (by omega)
     have hca:¬(targsR op args).any (fun t=>decide (findR l t<0))=true:=by
      rw[hje,List.take_length]at hcs
      rw[List.any_eq_true]
      rintro⟨y,hy,hy2⟩
      exact hcs y hy (of_decide_eq_true hy2)
     rw[if_neg hca]at hso
     simp only[g107,g142,g143,hd,hwk,ruW,ruU,Nat.reduceLT,Nat.reduceEqDiff]
     refine loopC_next ⟨i+1,by omega,mZ.trans (mZC.trans mD),by omega,fun k hk y hy=>?_,?_,?_,?_,?_,?_⟩
     ·by_cases e:k=i
      ·rw[e,hlq]at hy
       simp only[Option.some.injEq]at hy
       rw[<-hy]
       exact hso
      ·exact hall k (by omega) y hy
     ·exact g0
     ·exact g2
     ·exact g105
     ·exact g106
     ·rfl
    ·have hjl:j<(targsR op args).length:=by omega
     have hd:decide ((j:Int)<((targsR op args).length:Int))=true:=decide_eq_true (by omega)
     have vtD:ArgA D wu (targsR op args):=vu.of mD.next fun k hk=>mD.get k (vu.ne k hk).2 (by simp)
     obtain⟨n2,off2,s2,c2',e2,o2,M2,ek2,n12,r12,m12⟩:=vtD.rd.one hjl
     rw[eut]at ek2
     simp only[Value.slice.injEq]at ek2
     obtain⟨hta,-,rfl⟩:=ek2
     rw[hta]at g141
     have i2:aIndexAddr Tryz.prog 35 (.slice (some ⟨n2,off2,s2⟩) (targsR op args).length uc) (.int .i64 (j:Int))=some (.pointer (some ⟨n2,off2+j*1,none⟩)):=ia_of u35 s3 hjl
     rw[zD0]at i2
     rw[iv_get,zA5 hjl,zA6]at m12
     rw[hdd]at n12
     obtain⟨q,hq'⟩:∃ q,(targsR op args)[j]=q:=⟨_,rfl⟩
     rw[hq']at m12
     have hwj:IntKind.i64.wrap ((j:Int)+1)=((j+1:Nat):Int):=wrap_succ (by omega)
     obtain⟨fq,ok2,hlk,hfq⟩:∃ fq ok2,(∀ L,aLookup Tryz.prog (ext D L) 87 (.map (some n)) (.int .i64 q) true=some (.tuple #[.int .i64 fq,.bool ok2]))/\(ok2=true ↔ ¬findR l q<0):=by
      by_cases h0:0<=findR l q
      ·refine⟨findR l q,true,fun L=>?_,by simp only[true_iff]; omega⟩
       have:=mpD.look u87 z3 q true (ext D L) (ext_get_old mpD.1)
       rw[ixF,if_pos h0]at this
       exact this
      ·refine⟨0,false,fun L=>?_,by constructor<;>intro h; cases h; exact absurd (by omega) h0⟩
       have:=mpD.look u87 z3 q true (ext D L) (ext_get_old mpD.1)
       rw[ixF,if_neg h0]at this
       exact this
     simp only[g0,g9,g141,g142,g143,hdd,hd,i2,n12,r12,m12,jDq,jDv,kDq,kDv,hlk,w_lookup,qk_old,ruW,xF,ruU,Nat.reduceLT,Nat.reduceAdd,Nat.reduceEqDiff]
     cases ok2 with
     |false =>
      have hany:(targsR op args).any (fun t=>decide (findR l t<0))=true:=by
       rw[List.any_eq_true]
       refine⟨q,hq'▸zF4 hjl,decide_eq_true ?_⟩
       rcases Decidable.em (findR l q<0) with h|h
       ·exact h
       ·have:=hfq.2 h; cases this
      rw[if_pos hany]at hso
      simp only[ruU]
      refine fail_t _ 5 pos _ ?_
      simp only[opC_error,seqC_panic,endA_panic,lv_panic,blockC_panic,loopC_panic]
      rw[<-hR2,stat_at hlq hso hall]
      exact⟨mHD,rfl⟩
     |true =>
      simp only[ruU]
      refine (fail_f _ 5 pos).to ?_
      simp only[g143,hwj,ruW,ruU,Nat.reduceLT,Nat.reduceEqDiff]
      refine loopC_next ⟨j+1,by omega,mD,by omega,fun y hy=>?_,?_,?_,?_,?_,?_,?_,?_,?_,?_⟩
      ·rw[List.take_succ_eq_append_getElem hjl,zB7,zA4,hq']at hy
       rcases hy with hy|rfl
       ·exact hcs y hy
       ·exact hfq.1 rfl
      ·exact g0
      ·exact g2
      ·exact g105
      ·exact g106
      ·exact g107
      ·exact g9
      ·rw[hta]; simp only[g141,ruU,Nat.reduceEqDiff]
      ·exact g142
      ·rfl
   ·have hjl:j<(constsR op args).length:=by omega
    have hd:decide ((j:Int)<((constsR op args).length:Int))=true:=decide_eq_true (by omega)
    have vtB:ArgA B wt (constsR op args):=vt.of mB.next fun k hk=>mB.get k (vt.ne k hk).2 (by simp)
    obtain⟨n2,off2,s2,c2',e2,o2,M2,ek2,n12,r12,m12⟩:=vtB.rd.one hjl
    rw[et]at ek2
    simp only[Value.slice.injEq]at ek2
    obtain⟨hta,-,rfl⟩:=ek2
    rw[hta]at g112
    have i2:aIndexAddr Tryz.prog 35 (.slice (some ⟨n2,off2,s2⟩) (constsR op args).length tc) (.int .i64 (j:Int))=some (.pointer (some ⟨n2,off2+j*1,none⟩)):=ia_of u35 s3 hjl
    rw[zD0]at i2
    rw[iv_get,zA5 hjl,zA6]at m12
    rw[hbb]at n12
    obtain⟨q,hq'⟩:∃ q,(constsR op args)[j]=q:=⟨_,rfl⟩
    rw[hq']at m12
    have hwj:IntKind.i64.wrap ((j:Int)+1)=((j+1:Nat):Int):=wrap_succ (by omega)
    obtain⟨dq,hdq⟩:∃ d,decide ((cn:Int)<=q)=d:=⟨_,rfl⟩
    simp only[g2,g9,g112,g113,g114,hbb,hd,i2,n12,r12,m12,jB0,jBq,kB0,kBq,hdq,qk_old,ruW,xF,ruU,Nat.reduceLT,Nat.reduceAdd,Nat.reduceEqDiff]
    cases dq with
    |true =>
     have hany:(constsR op args).any (fun k=>decide ((cn:Int)<=k))=true:=by
      rw[List.any_eq_true]
      exact⟨q,hq'▸zF4 hjl,hdq⟩
     rw[if_pos hany]at hso
     refine fail_t _ 3 pos _ ?_
     simp only[opC_error,seqC_panic,endA_panic,lv_panic,blockC_panic,loopC_panic]
     rw[<-hR2,stat_at hlq hso hall]
     exact⟨mHB,rfl⟩
    |false =>
     refine (fail_f _ 3 pos).to ?_
     simp only[g114,hwj,ruW,ruU,Nat.reduceLT,Nat.reduceEqDiff]
     refine loopC_next ⟨j+1,by omega,mB,by omega,fun y hy=>?_,?_,?_,?_,?_,?_,?_,?_,?_,?_⟩
     ·rw[List.take_succ_eq_append_getElem hjl,zB7,zA4,hq']at hy
      rcases hy with hy|rfl
      ·exact hcs y hy
      ·exact of_decide_eq_false hdq
     ·exact g0
     ·exact g2
     ·exact g105
     ·exact g106
     ·exact g107
     ·exact g9
     ·rw[hta]; simp only[g112,ruU,Nat.reduceEqDiff]
     ·exact g113
     ·rfl
 ·have hkl:k<ls.length:=by omega
  have hd:decide ((k:Int)<(ls.length:Int))=true:=decide_eq_true (by omega)
  obtain⟨z,hz⟩:∃ z,ls[k]?=some z:=⟨ls[k],zA5 hkl⟩
  obtain⟨m,off,sp,c,e,o,M,e1,m1,r1,ia,ld⟩:=iV.one hz
  have hwk:IntKind.i64.wrap ((k:Int)+1)=((k+1:Nat):Int):=wrap_succ (by omega)
  rw[el]at e1
  simp only[Value.slice.injEq]at e1
  obtain⟨hla,-,rfl⟩:=e1
  rw[el,hla]at ia
  rw[hla]at g90
  rw[hw]at m1
  have sz:=iV.sc z (zF2 hz)
  obtain⟨az,cz,ez⟩:=(iV.av z (zF2 hz)).sl
  rw[hw,ez]at sz
  have sz1:=scb_mono (show w<=w+1 by omega) _ sz
  simp only[ivV,ivC,ez]at ld
  simp only[g90,g91,g92,hw,vb,hd,ia,m1,r1,ld,sz1,qk_old,ruW,putL,Nat.reduceLeDiff,xF,ruU,Nat.reduceLT,Nat.reduceAdd,Nat.reduceEqDiff]
  have eV2:∀ L:List Bl,Mod [] V (ext V L):=fun L=>Mod.ext okV
  generalize hV2:ext V _=V2
  have mV2:Mod [] V V2:=hV2▸eV2 _
  have nV2:V2.next=w+1:=by rw[<-hV2,ext_next,hw]; rfl
  have kw0:bk V2 (w+0)=some ⟨59,false,[.int .i64 z.1.pos,.int .i64 z.1.op,.slice az z.1.args.length cz]⟩:=by rw[<-hV2,bk_at hw (by simp)]; rfl
  clear hV2
  have okV2:=mV2.ok okV
  have kVv2:=(mV2.bk (n:=v) (by omega) (by simp)).trans kVv
  have mp2:=mpV.mod mV2 (by simp)
  have hml:(ls.map (·.1))[k]?=some z.1:=by rw[zE5,hz]; rfl
  have hkm:k<(ls.map (·.1)).length:=by rw[zC8]; exact hkl
  have hzk:(ls.map (·.1))[k]=z.1:=by
   rw[zA5 hkm]at hml
   exact Option.some.inj hml
  have htk:(ls.map (·.1)).take (k+1)=(ls.map (·.1)).take k++[z.1]:=by rw[List.take_succ_eq_append_getElem hkm,hzk]
  have hdis:∀ y∈(ls.map (·.1)).take k,y.pos≠z.1.pos:=fun y hy=>by
   have hp2:((ls.map (·.1)).take (k+1)).Pairwise fun a b=>a.pos<b.pos:=hinc.sublist (List.take_sublist _ _)
   rw[htk,List.pairwise_append]at hp2
   have:=hp2.2.2 y hy z.1 (zA4.2 rfl)
   omega
  have hnone:ixF ((ls.map (·.1)).take k) z.1.pos=none:=by
   unfold ixF
   rw[findR_none hdis]
   rfl
  obtain⟨Y3,hput,mp3,mY3,nY3⟩:=mp2.put (v:=.int .i64 (k:Int)) okV2 u87 hnone rfl
  have hput':aMapUpdate Tryz.prog (ext V2 []) 87 (.map (some n)) (.int .i64 z.1.pos) (.int .i64 (k:Int))=some Y3:=hput
  have jvw2:v<w+1:=by omega
  have jw2:w+0<w+1:=by omega
  rw[show V2=ext V2 [] from rfl]
  refine w_drawP [] [] (by kernel_rfl) (by kernel_rfl) rfl rfl (fun ops anc hA hG=>?_) (by simp) ⟨rfl,rfl⟩
  simp only[dropLast_more,dropLast_one,g0,nV2,jvw2,jw2,kVv2,kw0,qk_old,ruD,ruW,xF,ruU,Nat.reduceLT,Nat.reduceAdd,Nat.reduceEqDiff]
  simp only[lastO_cons,lastO_one,isDef_mapUp,w_mapUp,true_and,ruU,Nat.reduceLT,Nat.reduceEqDiff]
  rw[hput']
  rw[show Y3=ext Y3 [] from rfl]
  simp only[storeC_some,g92,hwk,ruW,ruU,Nat.reduceLT,Nat.reduceEqDiff]
  refine loopC_next ⟨k+1,by omega,(mV.trans (mV2.mono (by simp))).trans mY3,by omega,?_,?_,?_,?_,?_,?_,?_⟩
  ·rw[htk,ixF_snoc hdis,zE1,Nat.min_eq_left (by omega)]
   exact mp3
  ·exact g0
  ·exact g2
  ·exact g4
  ·rw[hla]; simp only[g90,ruU,Nat.reduceEqDiff]
  ·exact g91
  ·rfl
set_option maxRecDepth 100000
theorem exec71_ret (H:AHeap) (q:Nat):enterD Tryz.prog (recX Tryz.prog) 71 [.pointer (some ⟨q,0,none⟩)] .returning H=some (.ok (.tuple ⟨[]⟩),.returning,H):=by
 have hr:∃ e1,runS Tryz.prog (recX Tryz.prog) (Tryz.f71.body.getD .skip) (rg71 q) .returning H=some (.normal,⟨e1,[]⟩,.returning,H):=by
  show ∃ e1,runS Tryz.prog (recX Tryz.prog) (.seq _ (.seq _ (.cond _ (.seq _ (.seq _ _)) _))) (rg71 q) .returning H=_
  apply Exists.intro
  refine (runS_seq ((runS_rec rfl).trans rfl)).trans ?_
  refine (runS_seq (runS_reg rfl rfl)).trans ?_
  rfl
 obtain⟨e1,hr⟩:=hr
 have hb:Tryz.f71.body=some (Tryz.f71.body.getD .skip):=rfl
 simp only[enterD,Tryz.func71,zA1,zA3]
 rw[hb,zA3,if_pos (by rfl)]
 show (runS Tryz.prog (recX Tryz.prog) (Tryz.f71.body.getD .skip) (rg71 q) .returning H).bind _=_
 rw[hr]
 rfl
def df45 (q:Nat):List Deferred:=[⟨.fn (.func 71) ⟨[.pointer (some ⟨q,0,none⟩)]⟩,⟨[]⟩⟩]
theorem leave45_pan {E:Env} {Z:AHeap} {R:Out->AHeap->Prop} {q:Nat} {e a:Int} {w:Value} (hok:Z.base<=Z.next) (hq:bk Z q=some ⟨26,false,[.int .i64 0,.int .i64 0]⟩) (hl:q<Z.next) (h2:E 2=w) (h3:E 3=.pointer (some ⟨q,0,none⟩)) (hR:∀ X,Mod [q] Z X->R (.ok (.tuple #[w,fltV e a])) X) :
  leaveA Tryz.prog Tryz.f45 (mkA 55 E (df45 q)) (df45 q) (.panicking [faultP e a]) Z R:=by
 refine⟨by kernel_rfl,_,_,_,exec71 Z hok q 0 0 e a hq hl,?_⟩
 rw[show settle (.panicking [faultR e a])=.returning by rfl]
 generalize hW:uw Z q 0 _=W
 have mW:Mod [q] Z W:=hW▸Mod.uw (by simp)
 have kW:bk W q=some ⟨26,false,[.int .i64 e,.int .i64 a]⟩:=by rw[<-hW,bk_uw_eq,hq]; rfl
 have lW:q<W.next:=by rw[<-hW,uw_next]; exact hl
 have okW:=mW.ok hok
 simp only[Tryz.results45,lW,kW,h2,h3,ruW,Nat.reduceLeDiff,xF,ruU,Nat.reduceLT,Nat.reduceAdd]
 exact hR _ (mW.trans (Mod.ext okW))
theorem leave45_ret {E:Env} {Z:AHeap} {R:Out->AHeap->Prop} {q:Nat} {w:Value} (hok:Z.base<=Z.next) (hq:bk Z q=some ⟨26,false,[.int .i64 0,.int .i64 0]⟩) (hl:q<Z.next) (h2:E 2=w) (h3:E 3=.pointer (some ⟨q,0,none⟩)) (hR:R (.ok (.tuple #[w,fltV 0 0])) Z) :
  leaveA Tryz.prog Tryz.f45 (mkA 55 E (df45 q)) (df45 q) .returning Z R:=by
 refine⟨by kernel_rfl,_,_,_,exec71_ret Z q,?_⟩
 rw[settle_returning]
 rw[show Z=ext Z [] from rfl]
 simp only[Tryz.results45,hl,hq,h2,h3,ruW,Nat.reduceLeDiff,xF,ruU,Nat.reduceLT,Nat.reduceAdd]
 rw[ext_nil]
 exact hR
set_option maxRecDepth 100000
def verA (least most depth:Int) (cn:Nat) (bs:List UInt8):Except (Int × Int) Ks :=
 match statA least most depth cn bs with
 |some f=>.error f
 |none=>if deepR depth 200 1000 (entS (entR least most))=true then .error (12,0) else
  runR depth (insA bs) ((insA bs).length+1) ((List.replicate (insA bs).length none).set 0 (some (entS (entR least most)))) (List.replicate (insA bs).length false)
theorem verA_eq {least most depth:Int} {cn:Nat} {bs:List UInt8} (h:bs.length<=60000):verA least most depth cn bs=verR least most depth cn bs:=by
 unfold verA statA verR decF
 rw[if_neg (show ¬60000<bs.length by omega)]
 by_cases h1:headR least most depth cn=true
 ·rw[if_pos h1,if_pos h1]
 ·rw[if_neg h1,if_neg h1]
  cases badA bs with
  |some r=>rfl
  |none =>
   simp only
   by_cases h2:insA bs=[]
   ·rw[if_pos h2,if_pos h2]
   ·rw[if_neg h2,if_neg h2]
    cases statR (insA bs) cn<;>rfl
theorem stat_none {least most depth:Int} {cn:Nat} {bs:List UInt8} (h:statA least most depth cn bs=none):headR least most depth cn=false/\bs.length<=60000/\badA bs=none/\insA bs≠[]/\statR (insA bs) cn=none:=by
 unfold statA decF at h
 by_cases h1:headR least most depth cn=true
 ·rw[if_pos h1]at h; cases h
 rw[if_neg h1]at h
 by_cases h2:60000<bs.length
 ·rw[if_pos h2]at h; cases h
 rw[if_neg h2]at h
 cases h3:badA bs with
 |some r=>rw[h3]at h; cases h
 |none =>
  rw[h3]at h
  simp only at h
  by_cases h4:insA bs=[]
  ·rw[if_pos h4]at h; cases h
  ·rw[if_neg h4]at h
   exact⟨by simpa using h1,by omega,rfl,h4,h⟩
theorem head_not {least most depth:Int} {cn:Nat} (h:headR least most depth cn=false):(0<=least/\least<=255)/\(most=-1\/least<=most/\most<=255)/\0<=depth/\depth<=1000/\cn<=65536:=by
 simp only[headR,zF6,Bool.and_eq_false_iff,decide_eq_false_iff_not]at h
 omega
theorem stat_tgs {l:List Ins} {cn:Nat} (h:statR l cn=none) {x:Ins} (hx:x∈l):∀ t∈targsR x.op.toNat x.args,0<=findR l t:=by
 rw[statR,List.findSome?_eq_none_iff]at h
 have h1:=h x hx
 unfold statO at h1
 split at h1
 ·cases h1
 split at h1
 ·cases h1
 split at h1
 ·cases h1
 ·rename_i h2
  intro t ht
  rw[List.any_eq_true]at h2
  rcases Decidable.em (findR l t<0) with h3|h3
  ·exact absurd ⟨t,ht,decide_eq_true h3⟩ h2
  ·omega
theorem gives_un:∀ {r:List Nat} {ks ks':Ks} {s:St} {j:Nat},givesR ks r s=some ks'->ks'.getD j none=none->ks.getD j none=none
 |[],ks,ks',s,j,h,hj=>by
  simp only[givesR,Option.some.injEq]at h
  exact h▸hj
 |i::r,ks,ks',s,j,h,hj=>by
  rw[givesR]at h
  cases hg:giveR ks i s with
  |none=>rw[hg]at h; cases h
  |some k1 =>
   rw[hg]at h
   exact give_un hg (gives_un h hj)
theorem pr_un {depth:Int} {l:List Ins} {ks ks':Ks} {i j:Nat} (h:prR depth l ks i=.ok ks') (hj:ks'.getD j none=none):ks.getD j none=none:=by
 cases hx:l[i]? with
 |none=>unfold prR procR at h; rw[hx]at h; cases h
 |some x =>
  cases hs:ks.getD i none with
  |none=>unfold prR procR at h; rw[hx,hs]at h; cases h
  |some s =>
   rw[prR_eq hx hs]at h
   split at h
   ·cases h
   split at h
   ·cases h
   unfold tl1 at h
   split at h
   ·cases h
   unfold tl2 at h
   split at h
   ·cases h
   cases hg:(if x.op.toNat≠10/\x.op.toNat≠15 then giveR ks (i+1) (aftR x.op.toNat x.args s).1 else some ks) with
   |none=>rw[hg,tl3]at h; cases h
   |some k1 =>
    rw[hg,tl3]at h
    cases hgs:givesR k1 ((targsR x.op.toNat x.args).map fun t=>(findR l t).toNat) (aftR x.op.toNat x.args s).2 with
    |none=>rw[hgs]at h; cases h
    |some k2 =>
     rw[hgs]at h
     simp only[Except.ok.injEq]at h
     have h1:=gives_un hgs (h▸hj)
     split at hg
     ·exact give_un hg h1
     ·simp only[Option.some.injEq]at hg
      exact hg▸h1
theorem ksS_rep (n:Nat):ksS (List.replicate n none)=List.replicate n none:=by simp[ksS]
theorem que_rep (n:Nat) (dn:List Bool):queR (List.replicate n none) dn=[]:=by
 rw[queR,List.filter_eq_nil_iff]
 intro i _
 rw[knU,zA9,List.getElem?_replicate]
 split<;>simp
section
variable {H G : AHeap} {v r ix d0 d1 : Nat} {least most depth : Int} {u p lv : Value} {ls : List Iv} {ss : Ss} {qv w : Value} {q q' : List Int}
theorem VAt.mod26 (V:VAt H v r ix d0 d1 least most depth u p lv ls ss qv q) {k:Nat} {L:List Value} (hk:bk H k=some ⟨26,false,L⟩) (hd:k<d0) (m:Mod [k] H G):VAt G v r ix d0 d1 least most depth u p lv ls ss qv q:=by
 have hn:∀ n,n≠k->n∉[k]:=fun n h=>by simpa using h
 refine⟨(m.bk V.vn (hn _ fun e=>?_)).trans V.vb,V.vl,V.rl,zD2 V.vn m.next,V.ins.of m.next fun n h=>m.get n (V.ins.ne n h).2 (hn _ fun e=>?_),V.insd,V.ixm.mod m (hn _ fun e=>?_),V.ixd,V.ixr,V.sts.mod m (hn _ fun e=>?_),V.que.of m.next fun n h=>m.get n (V.que.ne n h).2 (hn _ fun e=>?_),V.qd,fun i s fv h=>(V.fr i s fv h).mod m fun n h2=>hn _ fun e=>?_⟩
 ·have:=V.vb; rw[e,hk]at this; cases this
 ·have:=(V.insd n h).1; omega
 ·have:=V.ixm.bk; rw[e,hk]at this; cases this
 ·have:=V.sts.bk; rw[e,hk]at this; cases this
 ·obtain⟨M,hM⟩:=V.que.ids n h; rw[e,hk]at hM; cases hM
 ·obtain⟨M,hM⟩:=(V.fr i s fv h).ids n h2; rw[e,hk]at hM; cases hM
theorem VAt.setq (V:VAt H v r ix d0 d1 least most depth u p lv ls ss qv q) (qw:QAt H w q') (hw:∀ n∈idsV w,n∈idsV qv) (m:Mod [v] H G) (hb:bk G v=some ⟨90,false,vfC least most depth u p lv (.map (some ix)) (.map (some r)) w⟩):VAt G v r ix d0 d1 least most depth u p lv ls ss w q':=by
 have hn:∀ n,n≠v->n∉[v]:=fun n h=>by simpa using h
 refine⟨hb,V.vl,V.rl,zD2 V.vn m.next,V.ins.of m.next fun n h=>m.get n (V.ins.ne n h).2 (hn _ fun e=>?_),V.insd,V.ixm.mod m (hn _ fun e=>?_),V.ixd,V.ixr,V.sts.mod m (hn _ fun e=>?_),qw.of m.next fun n h=>m.get n (qw.ne n h).2 (hn _ fun e=>?_),fun n h=>V.qd n (hw n h),fun i s fv h=>(V.fr i s fv h).mod m fun n h2=>hn _ fun e=>?_⟩
 ·have:=(V.insd n h).1; have:=V.vl; omega
 ·have:=V.ixm.bk; rw[e,V.vb]at this; cases this
 ·have:=V.sts.bk; rw[e,V.vb]at this; cases this
 ·obtain⟨M,hM⟩:=qw.ids n h; rw[e,V.vb]at hM; cases hM
 ·obtain⟨M,hM⟩:=(V.fr i s fv h).ids n h2; rw[e,V.vb]at hM; cases hM
end
def VfOut (X:AHeap) (least most depth:Int) (u p:Value) (bs:List UInt8) (out:Out):Except (Int × Int) Ks->Prop
 |.error f=>∃ w,out=.ok (.tuple #[w,fltV f.1 f.2])
 |.ok ks=>∃ v r ix d0 d1 lv ls ss qv q,out=.ok (.tuple #[.pointer (some ⟨v,0,none⟩),fltV 0 0])/\VAt X v r ix d0 d1 least most depth u p lv ls ss qv q/\ls.map (·.1)=insA bs/\ksS ss=ks/\ss.length=ls.length
theorem verify45_c (H:AHeap) (least most depth:Int) (u p:Value) (ba ca:Option Addr) (cn cc bc:Nat) (bs:List UInt8) (eu:u=.slice ba bs.length bc) (ep:p=.slice ca cn cc) (hb1:RdAt H 1 u (bv bs) bs.length) (hu:scb H.next u=true) (hp:scb H.next p=true) (hok:H.base<=H.next) :
  CallA Tryz.prog 45 [.agg ⟨[.int .i64 least,.int .i64 most,.int .i64 depth,u,p]⟩] H (fun out X=>Mod [] H X/\VfOut X least most depth u p bs out (verA least most depth cn bs)):=by
 obtain⟨b,hb⟩:=Go.Ax.exq H.next
 have hbase:H.base<=b:=hb▸hok
 have hu0:=hu
 have hp0:=hp
 rw[hb,eu]at hu
 rw[hb,ep]at hp
 refine callE_fn mixed Tryz.func45 rfl Tryz.ntmps45 (zB3 rfl) ?_
 rw[eu,ep]
 simp only[hb,hu,hp,w_mkmap,ruW,Nat.reduceLeDiff,xF,ruU,entryE,Nat.reduceLT,Nat.reduceAdd,Nat.reduceEqDiff]
 generalize hX:AHeap.new _ (mapO [] 0)=X
 have h2:∀ L:List Bl,(ext H L).next=b+L.length:=fun L=>by rw[ext_next,hb]
 have m1:∀ L:List Bl,Mod [] H (ext H L):=fun L=>Mod.ext hok
 have m2:=hX▸Mod.new (W:=[]) ((m1 _).ok hok)
 have mX:=(m1 _).trans m2
 have k0:bk X (b+0)=some ⟨33,false,[.int .i64 least,.int .i64 most,.int .i64 depth,.slice ba bs.length bc,.slice ca cn cc]⟩:=(m2.bk (by rw[h2]; simp) (by simp)).trans (by rw[bk_at hb (by simp)]; rfl)
 have k1:bk X (b+1)=some ⟨26,false,[.int .i64 0,.int .i64 0]⟩:=(m2.bk (by rw[h2]; simp) (by simp)).trans (by rw[bk_at hb (by simp)]; rfl)
 have nX:X.next=b+3:=by rw[<-hX]; simp only[AHeap.new_eq]; rw[h2]; rfl
 have gX:X.get (b+2)=some (mapO [] 0):=by rw[<-hX,AHeap.get_new,if_pos (by rw[h2]; rfl)]
 have mpX:MpAt X (b+2) fun _=>none:=⟨by omega,[],0,gX,MapsTo.nil⟩
 clear hX
 rw[show X=ext X [] from rfl]
 have hu3:scb (b+3) (.slice ba bs.length bc)=true:=scb_mono (by omega) _ hu
 have hp3:scb (b+3) (.slice ca cn cc)=true:=scb_mono (by omega) _ hp
 have hmp:scb (b+3) (.map (some (b+2)))=true:=by simp[scb]
 have hmn:scb (b+3) (.map none)=true:=by simp[scb]
 simp only[nX,hu3,hp3,hmp,hmn,zC5,ruW,ruU,Nat.reduceLT,Nat.reduceAdd,Nat.reduceEqDiff]
 refine Eq.mpr (w_deferV (f:=71) (ca:=[.pointer (some ⟨b+1,0,none⟩)]) rfl rfl rfl) ?_
 generalize hc:Code.seq (Code.region 4 _ _) _=code
 simp only[zF3,ruW,xF,ruU,Nat.reduceLT,Nat.reduceEqDiff]
 generalize hY:ext X _=Y
 have okX:=mX.ok hok
 have mY:Mod [] X Y:=hY▸Mod.ext okX
 have nY:Y.next=b+4:=by rw[<-hY,ext_next,nX]; rfl
 have kv:bk Y (b+3)=some ⟨90,false,vfC least most depth (.slice ba bs.length bc) (.slice ca cn cc) (.slice none 0 0) (.map none) (.map (some (b+2))) (.slice none 0 0)⟩:=by
  have:=bk_at (H:=X) (L:=[⟨90,false,vfC least most depth (.slice ba bs.length bc) (.slice ca cn cc) (.slice none 0 0) (.map none) (.map (some (b+2))) (.slice none 0 0)⟩]) (i:=0) nX (by simp)
  rw[<-hY]
  exact this
 clear hY
 have kY0:=(mY.bk (by omega) (by simp)).trans k0
 have kY1:=(mY.bk (by omega) (by simp)).trans k1
 have mpY:=mpX.mod mY (by simp)
 have mHY:Mod [] H Y:=mX.trans mY
 have okY:=mHY.ok hok
 have huY:scb Y.next (.slice ba bs.length bc)=true:=by rw[nY]; exact scb_mono (by omega) _ hu
 have hpY:scb Y.next (.slice ca cn cc)=true:=by rw[nY]; exact scb_mono (by omega) _ hp
 rw[show Y=ext Y [] from rfl]
 refine (static72_c (ext Y []) (b+3) (b+2) least most depth _ _ ba ca cn cc bc bs kv (by rw[ext_nil]; omega) mpY rfl rfl (eu▸hb1.mod0 mHY) huY hpY okY).mono ?_
 rintro out Z ⟨mZ,ho⟩
 replace mZ:Mod [b+3] Y Z:=mZ
 obtain⟨R,hR⟩:=Go.Ax.exq (verA least most depth cn bs)
 rw[hR]
 unfold verA at hR
 have hnn:∀ k,k≠b+3->k∉[b+3]:=fun k h=>by simpa using h
 obtain⟨z,hz⟩:=Go.Ax.exq Z.next
 have okZ:=mZ.ok okY
 have zb:Z.base<=z:=hz▸okZ
 have lz:b+4<=z:=by have:=mZ.next; omega
 have kZ0:=(mZ.bk (n:=b+0) (by omega) (hnn _ (by omega))).trans kY0
 have kZ1:=(mZ.bk (n:=b+1) (by omega) (hnn _ (by omega))).trans kY1
 have mHZ:Mod [] H Z:=mHY.step mZ hok fun k hk=>by simp only[zA4]at hk; exact .inr (by omega)
 -- an ending with a fault
 have fin:∀ (E:Env) (T:AHeap) (e a:Int),Mod [] H T->b+1<T.next->bk T (b+1)=some ⟨26,false,[.int .i64 0,.int .i64 0]⟩->E 3=.pointer (some ⟨b+1,0,none⟩)->R=.error (e,a)->leaveA Tryz.prog Tryz.f45 (mkA 55 E (df45 (b+1))) (df45 (b+1)) (.panicking [faultP e a]) T (fun out X=>Mod [] H X/\VfOut X least most depth (.slice ba bs.length bc) (.slice ca cn cc) bs out R):=fun E T e a mT hT kT hE hr=>by
  refine leave45_pan (mT.ok hok) kT hT rfl hE fun X mX=>⟨mT.step mX hok fun k hk=>by simp only[zA4]at hk; exact .inr (by omega),?_⟩
  rw[hr]
  exact⟨_,rfl⟩
 obtain⟨sf,hsf⟩:∃ f,statA least most depth cn bs=f:=⟨_,rfl⟩
 rw[hsf]at ho hR
 cases sf with
 |some f =>
  obtain⟨e,a⟩:=f
  unfold StcOut at ho
  rw[ho]
  simp only[opC_error,seqC_panic,endA_panic]
  exact fin _ Z e a mHZ (by omega) kZ1 rfl hR.symm
 |none =>
 obtain⟨ho,lv,ls,ix,d1,V,hls,hd1,hlv⟩:=ho
 rw[ho]
 subst hc
 obtain⟨hh,hbl,hbad,hne,hst⟩:=stat_none hsf
 obtain⟨⟨n1,n2⟩,n3,n4,n5,n6⟩:=head_not hh
 simp only at hR
 have hwf:∀ x∈ls,WfI x.1:=fun x hx=>ins_wf hbad _ (hls▸List.mem_map_of_mem hx)
 have hdl:=ins_len hbad
 have hll:ls.length=(insA bs).length:=by rw[<-hls,zC8]
 have hal:∀ x∈ls,x.1.args.length<=1000000:=fun x hx=>by
  have:=hdl.2 _ (hls▸List.mem_map_of_mem hx)
  omega
 have hll2:ls.length<=60000:=by omega
 have hpos:0<ls.length:=by
  rw[hll]
  exact List.length_pos_iff.2 hne
 rw[<-hls]at hR hst
 rw[zC8]at hR
 rw[<-hll]at V
 obtain⟨l,hl⟩:=Go.Ax.exq (ls.map (·.1))
 rw[hl]at hR hst hls
 have hent:entR least most=if most=-1 then least+1 else most:=by
  unfold entR
  by_cases e:most=-1
  ·rw[if_pos (by omega),if_pos e]
  ·rw[if_neg (by omega),if_neg e]
 have hw1:IntKind.i64.wrap (least+1)=least+1:=wrap_sm (by omega) (by omega)
 obtain⟨en,hen⟩:=Go.Ax.exq (entR least most)
 rw[hen]at hR hent
 have jz0:b+0<z:=by omega
 have jz1:b+1<z:=by omega
 rw[show Z=ext Z [] from rfl]
 generalize hc:Code.seq (Code.seq (Code.region 5 _ _) _) _=code
 simp only[hz,zb,jz0,kZ0,qk_old,ruW,putL,Nat.reduceLeDiff,xF,ruU,Nat.reduceLT,Nat.reduceAdd,Nat.reduceEqDiff]
 subst hc
 refine w_env fun E hE=>?_
 have g1:E 1=.pointer (some ⟨b+0,0,none⟩):=by rw[hE]; rfl
 have g2:E 2=.pointer (some ⟨b+3,0,none⟩):=by rw[hE]; rfl
 have g3:E 3=.pointer (some ⟨b+1,0,none⟩):=by rw[hE]; rfl
 have g4:E 4=.pointer (some ⟨z+0,0,none⟩):=by rw[hE]; rfl
 clear hE
 rw[w_seq]
 refine w_meet (fun E' X'=>X'=ext Z [⟨93,false,[.int .i64 en,.int .i64 0,.slice none 0 0]⟩]/\E' 2=.pointer (some ⟨b+3,0,none⟩)/\E' 3=.pointer (some ⟨b+1,0,none⟩)/\E' 4=.pointer (some ⟨z+0,0,none⟩)) ?_ ?_
 ·obtain⟨m1,hm1⟩:∃ q,decide (most=-1)=q:=⟨_,rfl⟩
  cases m1 with
  |true =>
   rw[if_pos (of_decide_eq_true hm1)]at hent
   simp only[g1,g4,hz,zb,jz0,kZ0,hm1,hw1,qk_old,ruW,putL,Nat.reduceLeDiff,xF,ruU,Nat.reduceLT,Nat.reduceAdd,Nat.reduceEqDiff]
   exact joinR_normal ⟨by rw[hent],by simp only[g2,ruU,Nat.reduceEqDiff],by simp only[g3,ruU,Nat.reduceEqDiff],by simp only[g4,ruU,Nat.reduceEqDiff]⟩
  |false =>
   rw[if_neg (of_decide_eq_false hm1)]at hent
   simp only[g1,hz,jz0,kZ0,hm1,qk_old,ruW,xF,ruU,Nat.reduceLT,Nat.reduceAdd]
   exact joinR_normal ⟨by rw[hent],by simp only[g2,ruU,Nat.reduceEqDiff],by simp only[g3,ruU,Nat.reduceEqDiff],by simp only[g4,ruU,Nat.reduceEqDiff]⟩
 clear g1 g2 g3 g4 E
 rintro E X' ⟨hX',g2,g3,g4⟩
 rw[hX']
 generalize hT:ext Z _=T
 have mT:Mod [] Z T:=hT▸Mod.ext okZ
 have nT:T.next=z+1:=by rw[<-hT,ext_next,hz]; rfl
 have t0:bk T (z+0)=some ⟨93,false,[.int .i64 en,.int .i64 0,.slice none 0 0]⟩:=by rw[<-hT,bk_at hz (by simp)]; rfl
 clear hT hX'
 have okT:=mT.ok okZ
 have tb:T.base<=z+1:=nT▸okT
 have VT:=V.mod0 mT
 have kT1:=(mT.bk (n:=b+1) (by omega) (by simp)).trans kZ1
 have mHT:=mHZ.trans mT
 have jt:z+0<z+1:=by omega
 obtain⟨dA,hdA⟩:∃ d,deepR depth 200 1000 (entS en)=d:=⟨_,rfl⟩
 have hdp:=deep74_c (ext T []) (b+3) least most depth _ _ lv (.map (some ix)) (.map (some (b+2))) (.slice none 0 0) (entS en) none 0 VT.vb VT.vn
 rw[hdA]at hdp
 unfold stC at hdp
 simp only[entS]at hdp
 rw[show T=ext T [] from rfl]
 simp only[g2,g4,nT,jt,t0,qk_old,ruW,Nat.reduceLeDiff,xF,ruU,Nat.reduceLT,Nat.reduceAdd,Nat.reduceEqDiff]
 refine hdp.to ?_
 simp only[ruW,xF,ruU,Nat.reduceLT]
 cases dA with
 |true =>
  rw[if_pos hdA]at hR
  refine fail_t _ 12 0 _ ?_
  simp only[opC_error,seqC_panic,endA_panic]
  exact fin _ T 12 0 mHT (by omega) kT1 (by simp only[g3,ruU,Nat.reduceEqDiff]) hR.symm
 |false =>
 rw[if_neg (by rw[hdA]; simp)]at hR
 refine (fail_f _ 12 0).to ?_
 simp only[g2,g4,nT,jt,t0,qk_old,ruW,Nat.reduceLeDiff,xF,ruU,Nat.reduceLT,Nat.reduceAdd,Nat.reduceEqDiff]
 have hq0:qI (queR (ksS (List.replicate ls.length none)) (List.replicate ls.length false))=[]:=by rw[ksS_rep,que_rep]; rfl
 have hgv:=give75_c (ext T []) (b+3) (b+2) ix _ d1 least most depth _ _ lv ls (List.replicate ls.length none) (.slice none 0 0) (List.replicate ls.length false) 0 (entS en) (.slice none 0 0) 0 (by rw[hq0]; exact VT) (by rw[List.length_replicate]; exact hpos) (by rw[List.length_replicate]; omega) (zC2 hd1 (mT.next)) (FrAt.nil) (by simp[entS]) (fun _=>by
  rw[zA9,List.getElem?_replicate]; split<;>rfl) (by rw[ext_nil,nT]; exact scb_mono (by omega) _ hu) (by rw[ext_nil,nT]; exact scb_mono (by omega) _ hp) (scb_mono mT.next _ hlv) okT
 unfold stC at hgv
 simp only[entS]at hgv
 refine hgv.mono ?_
 rintro out A ⟨mA,ho⟩
 replace mA:Mod ((b+3)::(b+2)::idsV (.slice none 0 0)) T A:=mA
 have hg0:giveR (ksS (List.replicate ls.length none)) 0 (entS en)=some ((List.replicate ls.length none).set 0 (some (entS en))):=by
  rw[ksS_rep,giveR,zA9,List.getElem?_replicate,if_pos hpos]
  rfl
 unfold entS at hg0
 rw[hg0]at ho
 obtain⟨ho,ss1,qv1,V1,hk1,hl1,hq1⟩:=ho
 rw[ho]
 simp only[ruW,Nat.reduceLT]
 have okA:=mA.ok okT
 have lA:b+1<A.next:=by have:=mA.next; omega
 have hW0:∀ k,k∈(b+3)::(b+2)::idsV (.slice none 0 0)->b+2<=k:=fun k hk=>by
  simp only[idsV,zB0,zE4,or_false]at hk
  omega
 have mHA:Mod [] H A:=mHT.step mA hok fun k hk=>.inr (by have:=hW0 k hk; omega)
 have kA1:=(mA.bk (n:=b+1) (by omega) (fun h=>by have:=hW0 _ h; omega)).trans kT1
 unfold entS at hR
 rw[<-hk1]at V1 hR
 rw[List.length_replicate]at hl1
 have hks1:KsOk (ksS ss1):=fun j t h=>by
  rw[hk1,List.getElem?_set]at h
  split at h
  ·rename_i e
   subst e
   rw[List.length_replicate,if_pos hpos]at h
   simp only[Option.some.injEq]at h
   subst h
   unfold deepR at hdA
   simp only[zF6,entS,zC5]at hdA
   refine⟨?_,?_,by simp,by simp,by simp,by simp⟩
   ·simp only; rw[hent]; split<;>omega
   ·simp only; omega
  ·rw[List.getElem?_replicate]at h
   split at h<;>simp at h
 refine w_env fun E5 hE=>?_
 replace g2:E5 2=.pointer (some ⟨b+3,0,none⟩):=by rw[hE]; simp only[g2,ruU,Nat.reduceEqDiff]
 replace g3:E5 3=.pointer (some ⟨b+1,0,none⟩):=by rw[hE]; simp only[g3,ruU,Nat.reduceEqDiff]
 clear hE g4 E
 refine w_loop (fun (st:Ss × Value × List Bool) E' X'=>Mod [] H X'/\b+4<=X'.next/\bk X' (b+1)=some ⟨26,false,[.int .i64 0,.int .i64 0]⟩/\VAt X' (b+3) (b+2) ix (ext Y []).next d1 least most depth (.slice ba bs.length bc) (.slice ca cn cc) lv ls st.1 st.2.1 (qI (queR (ksS st.1) st.2.2))/\d1<=X'.next/\scb X'.next lv=true/\st.1.length=ls.length/\st.2.2.length=ls.length/\KsOk (ksS st.1)/\(∀ j,(ksS st.1).getD j none=none->st.2.2.getD j false=false)/\(∀ k∈idsV st.2.1,b<=k)/\runR depth l (leftR st.2.2+1) (ksS st.1) st.2.2=R/\E' 2=.pointer (some ⟨b+3,0,none⟩)/\E' 3=.pointer (some ⟨b+1,0,none⟩)) (fun st=>leftR st.2.2) (ss1,qv1,List.replicate ls.length false) ⟨mHA,by have:=mA.next; omega,kA1,V1,zC2 hd1 (zC2 mT.next mA.next),scb_mono (zC2 mT.next mA.next) _ hlv,hl1,List.length_replicate,hks1,fun j _=>by
  rw[zA9,List.getElem?_replicate]; split<;>rfl,fun k hk=>?_,by rw[left_rep]; exact hR,g2,g3⟩ ?_
 ·rcases hq1 k hk with h|h
  ·simp[idsV]at h
  ·have:b<=(ext T []).next:=by rw[ext_nil,nT]; omega
   omega
 clear g2 g3 E5 V1 hl1 hks1 hq1 hk1 kA1 mHA okA lA mA ho hR qv1 ss1
 rintro⟨ss,qv,dn⟩ E X ⟨mX2,lX,kX1,VX,hdX,hlX,hls2,hdl2,hks,hdn,hqb,hR,g2,g3⟩
 simp only at VX hls2 hdl2 hks hdn hqb hR
 obtain⟨x,hx⟩:=Go.Ax.exq X.next
 have okX2:=mX2.ok hok
 have xb2:X.base<=x:=hx▸okX2
 have jv:b+3<x:=by omega
 have j1:b+1<x:=by omega
 have kvX:=VX.vb
 unfold vfC at kvX
 obtain⟨qa,eq⟩:=VX.que.sl
 rw[eq]at kvX
 obtain⟨q,hq⟩:=Go.Ax.exq (queR (ksS ss) dn)
 have hnx:nxtR (ksS ss) dn=q.head?:=by rw[nxt_head,hq]
 rw[hq]at kvX
 rw[runR,hnx]at hR
 rw[show X=ext X [] from rfl]
 cases q with
 |nil =>
  have hd:decide ((0:Int)<(((qI []).length:Nat):Int))=false:=by decide
  simp only[List.head?_nil]at hR
  simp only[g2,hx,jv,kvX,hd,qk_old,ruW,xF,ruU,Nat.reduceLT,Nat.reduceAdd]
  refine w_drawB [(3,1)] [] (by kernel_rfl) (by kernel_rfl) rfl fun ops anc hA hG=>?_
  simp only[all2_cons]at hA
  simp only[g2,g3,hx,j1,kX1,hA,qk_old,ruD,ruW,putL,Nat.reduceLeDiff,xF,ruU,Nat.reduceLT,Nat.reduceAdd,Nat.reduceEqDiff]
  have mU:Mod [b+1] X (ext (uw X (b+1) 0 [.int .i64 0,.int .i64 0]) []):=Mod.uw (by simp)
  have kU:bk (ext (uw X (b+1) 0 [.int .i64 0,.int .i64 0]) []) (b+1)=some ⟨26,false,[.int .i64 0,.int .i64 0]⟩:=by rw[ext_nil,bk_uw_eq,kX1]; rfl
  generalize ext (uw X (b+1) 0 [.int .i64 0,.int .i64 0]) []=U at mU kU ⊢
  have mHU:=mX2.step mU hok fun k hk=>by simp only[zA4]at hk; exact .inr (by omega)
  refine leave45_ret (q:=b+1) (mU.ok okX2) kU (by have:=mU.next; omega) rfl (by simp only[g3,ruU,Nat.reduceEqDiff]) ?_
  refine⟨mHU,?_⟩
  rw[<-hR]
  exact⟨b+3,b+2,ix,_,d1,lv,ls,ss,qv,_,by simp only[ruU],VX.mod26 kX1 (by rw[ext_nil,nY]; omega) mU,hl.trans hls,rfl,hls2⟩
 |cons i rest =>
  obtain⟨hi,⟨s,hsi⟩,hdi,_⟩:=nxt_some (show nxtR (ksS ss) dn=some i by rw[hnx]; rfl)
  rw[ksS_len]at hi
  rw[ksS_get]at hsi
  obtain⟨⟨s',fv⟩,hss,e1⟩:∃ y:St × Value,ss[i]?=some (some y)/\y.1=s:=by
   cases h:ss[i]? with
   |none=>rw[h]at hsi; cases hsi
   |some o =>
    rw[h]at hsi
    cases o with
    |none=>simp at hsi
    |some y =>
     simp only[zA6,Option.some.injEq]at hsi
     exact⟨y,rfl,hsi⟩
  simp only at e1
  subst e1
  have hdi2:dn[i]?=some false:=by
   have hil:i<dn.length:=by omega
   rw[zA9,zA5 hil]at hdi
   rw[zA5 hil]
   exact congrArg some hdi
  have hd:decide ((0:Int)<(((qI (i::rest)).length:Nat):Int))=true:=decide_eq_true (by simp only[qI,zB4,zA8]; omega)
  have hlq:0<(qI (i::rest)).length:=by simp only[qI,zB4,zA8]; omega
  have qX:=VX.que
  rw[hq]at qX
  obtain⟨w,qw,hww,hcut⟩:=QAt.cut (k:=(i:Int)) (q:=qI rest) qX
  obtain⟨wa,ew⟩:=qw.sl
  have sww:=qw.sc
  rw[hx,ew]at sww
  obtain⟨n2,off2,s2,c2',e2,o2,M2,ek2,n12,r12,m12⟩:=qX.rd.one hlq
  rw[eq,hq]at ek2
  simp only[Value.slice.injEq]at ek2
  obtain⟨hqa,-,hc2⟩:=ek2
  have i2:aIndexAddr Tryz.prog 35 (.slice (some ⟨n2,off2,s2⟩) (qI (i::rest)).length (qI (i::rest)).length) (.int .i64 0)=some (.pointer (some ⟨n2,off2+0*1,none⟩)):=ia_of (i:=0) u35 s3 hlq
  rw[Nat.zero_mul]at i2
  rw[hx]at n12
  have m13:M2[off2+0]?=some (.int .i64 (i:Int)):=m12
  have hcut2:=hcut (ext X []) fun n _=>rfl
  rw[eq,hq,hqa]at hcut2
  rw[hqa]at kvX
  rw[ew]at hcut2
  simp only[g2,hx,jv,kvX,hd,i2,n12,r12,m13,hcut2,sww,qk_old,ruW,putL,Nat.reduceLeDiff,xF,ruU,Nat.reduceLT,Nat.reduceAdd,Nat.reduceEqDiff]
  generalize hU:ext (uw X (b+3) 8 [.slice wa (qI rest).length (qI rest).length]) []=U
  have mU:Mod [b+3] X U:=hU▸Mod.uw (by simp)
  have kUv:bk U (b+3)=some ⟨90,false,vfC least most depth (.slice ba bs.length bc) (.slice ca cn cc) lv (.map (some ix)) (.map (some (b+2))) w⟩:=by
   rw[<-hU,ext_nil,ew]
   exact bk_uw (off:=8) (vs:=[.slice wa (qI rest).length (qI rest).length]) kvX (by simp)
  clear hU
  have okU:=mU.ok okX2
  have VU:=VX.setq qw hww mU kUv
  have kU1:=(mU.bk (n:=b+1) (by omega) (by simp)).trans kX1
  have hdl3:dn.length=(ksS ss).length:=by rw[ksS_len,hls2,hdl2]
  have hdone:=que_done hdl3 hq
  rw[<-hdone]at VU
  have mHU:=mX2.step mU hok fun k hk=>by simp only[zA4]at hk; exact .inr (by omega)
  have hil:i<ls.length:=by omega
  obtain⟨y,hy⟩:∃ y,ls[i]?=some y:=⟨ls[i],zA5 hil⟩
  have hly:l[i]?=some y.1:=by rw[<-hl,zE5,hy]; rfl
  have hdn':∀ j,(ksS ss).getD j none=none->(dn.set i true).getD j false=false:=fun j hj=>by
   by_cases e:i=j
   ·subst e
    rw[zA9,ksS_get,hss]at hj
    cases hj
   ·rw[zA9,List.getElem?_set_ne e,<-zA9]
    exact hdn j hj
  have nU:X.next<=U.next:=mU.next
  have hpc:=process76_c U (b+3) (b+2) ix _ d1 least most depth _ _ lv ls ss w (dn.set i true) i y s' fv VU hy hss hls2 (by omega) (zC2 hdX nU) hwf hal hks n5 (by rw[hl]; exact stat_tgs hst (zF2 hly)) hdn' (scb_mono (by omega) _ hu) (scb_mono (by omega) _ hp) (scb_mono nU _ hlX) okU
  refine hpc.mono ?_
  rintro out D ⟨mD,ho⟩
  rw[hl]at ho
  have hwb:∀ k∈(b+3)::(b+2)::idsV w,b<=k/\k≠b+1:=fun k hk=>by
   rcases zB0.1 hk with rfl|hk
   ·omega
   rcases zB0.1 hk with rfl|hk
   ·omega
   ·refine⟨hqb k (hww k hk),fun e=>?_⟩
    obtain⟨M,hM⟩:=qw.ids k hk
    rw[e,kX1]at hM
    cases hM
  have mHD:=mHU.step mD hok fun k hk=>.inr (by have:=hwb k hk; omega)
  have kD1:=(mD.bk (n:=b+1) (by omega) (fun h=>(hwb _ h).2 rfl)).trans kU1
  have nD:=mD.next
  simp only[List.head?_cons]at hR
  obtain⟨pr,hpr⟩:∃ q,prR depth l (ksS ss) i=q:=⟨_,rfl⟩
  rw[hpr]at ho hR
  cases pr with
  |error e =>
   unfold PcOut at ho
   rw[ho]
   simp only at hR
   simp only[opC_error,seqC_panic,blockC_panic,loopC_panic,endA_panic]
   refine fin _ D e y.1.pos mHD (by omega) kD1 (by simp only[g3,ruU,Nat.reduceEqDiff]) ?_
   rw[<-hR,posR,hly]
  |ok ks' =>
   obtain⟨ho,ss',qv',V',hk',hl',hq'⟩:=ho
   rw[ho]
   simp only at hR
   simp only[ruW,Nat.reduceLT]
   rw[<-hk']at V' hR hpr
   refine loopC_next ⟨(ss',qv',dn.set i true),by have:=left_set hdi2; simp only; omega,mHD,by omega,kD1,V',zC2 hdX (by omega),scb_mono (show X.next<=D.next by omega) _ hlX,by rw[hl',hls2],by simp only[List.length_set]; exact hdl2,pr_ok (hl▸fun x hx=>by obtain⟨z,hz,rfl⟩:=zD5.1 hx; exact hwf z hz) hks n5 hpr,fun j hj=>hdn' j (pr_un hpr hj),fun k hk=>?_,?_,?_,?_⟩
   ·rcases hq' k hk with h|h
    ·exact hqb k (hww k h)
    ·have:=mHU.next
     omega
   ·rw[left_set hdi2]at hR
    exact hR
   ·exact g2
   ·exact g3
set_option maxRecDepth 100000
theorem pr_err {depth:Int} {l:List Ins} {ks:Ks} {i:Nat} {e:Int} {x:Ins} {s:St} (hx:l[i]?=some x) (hs:ks.getD i none=some s) (h:prR depth l ks i=.error e):e=9\/e=19\/e=12\/e=13:=by
 rw[prR_eq hx hs]at h
 split at h
 ·simp only[Except.error.injEq]at h; omega
 split at h
 ·simp only[Except.error.injEq]at h; omega
 unfold tl1 at h
 split at h
 ·simp only[Except.error.injEq]at h; omega
 unfold tl2 at h
 split at h
 ·simp only[Except.error.injEq]at h; omega
 generalize (if x.op.toNat≠10/\x.op.toNat≠15 then giveR ks (i+1) (aftR x.op.toNat x.args s).1 else some ks)=o at h
 cases o with
 |none =>
  rw[tl3]at h
  simp only[Except.error.injEq]at h; omega
 |some k =>
  rw[tl3]at h
  cases hg:givesR k ((targsR x.op.toNat x.args).map fun t=>(findR l t).toNat) (aftR x.op.toNat x.args s).2 with
  |none =>
   rw[hg]at h
   simp only[Except.error.injEq]at h; omega
  |some k2=>rw[hg]at h; cases h
theorem run_err {depth:Int} {l:List Ins}:∀ {n:Nat} {ks:Ks} {dn:List Bool} {f:Int × Int},ks.length=l.length->runR depth l n ks dn=.error f->f.1=9\/f.1=19\/f.1=12\/f.1=13
 |0,ks,dn,f,hl,h=>by cases h
 |n+1,ks,dn,f,hl,h=>by
  rw[runR]at h
  cases hn:nxtR ks dn with
  |none=>rw[hn]at h; cases h
  |some i =>
   rw[hn]at h
   simp only at h
   obtain⟨hi,⟨s,hs⟩,_⟩:=nxt_some hn
   have hg:ks.getD i none=some s:=by rw[zA9,hs]; rfl
   have hil:i<l.length:=by omega
   cases hp:prR depth l ks i with
   |error e =>
    rw[hp]at h
    simp only[Except.error.injEq]at h
    rw[<-h]
    exact pr_err (zA5 hil) hg hp
   |ok k =>
    rw[hp]at h
    exact run_err (by rw[pr_len hp]; exact hl) h
theorem ver_ne {least most depth:Int} {cn:Nat} {bs:List UInt8} {f:Int × Int} (h:verA least most depth cn bs=.error f):f.1≠0:=by
 unfold verA at h
 cases hs:statA least most depth cn bs with
 |some g =>
  rw[hs]at h
  simp only[Except.error.injEq]at h
  rw[<-h]
  unfold statA at hs
  split at hs
  ·simp only[Option.some.injEq]at hs; rw[<-hs]; decide
  unfold decF at hs
  split at hs
  ·rename_i f' hf
   simp only[Option.some.injEq]at hs
   rw[<-hs]
   split at hf
   ·simp only[Option.some.injEq]at hf; rw[<-hf]; decide
   ·split at hf
    ·rename_i r hb
     simp only[Option.some.injEq]at hf
     rw[<-hf]
     exact bad_ne hb
    ·cases hf
  ·split at hs
   ·simp only[Option.some.injEq]at hs; rw[<-hs]; decide
   ·rw[statR]at hs
    obtain⟨x,_,hx⟩:=List.exists_of_findSome?_eq_some hs
    unfold statO at hx
    split at hx
    ·simp only[Option.some.injEq]at hx; rw[<-hx]; simp
    split at hx
    ·simp only[Option.some.injEq]at hx; rw[<-hx]; simp
    split at hx
    ·simp only[Option.some.injEq]at hx; rw[<-hx]; simp
    ·cases hx
 |none =>
  rw[hs]at h
  simp only at h
  split at h
  ·simp only[Except.error.injEq]at h; rw[<-h]; decide
  ·have:=run_err (by rw[List.length_set,List.length_replicate]) h
   omega
theorem hgh_at {ks:Ks} {i:Nat} (hi:i<ks.length):(hghR ks)[i]?=some (match ks.getD i none with
  |some s=>s.h
  |none=>-1):=by
 rw[hghR,zE5,zA5 hi,zA9,zA5 hi]
 rfl
theorem heights16_c (H:AHeap) (least most depth:Int) (u:Value) (ca:Option Addr) (cn cc:Nat) (bs:List UInt8) (hu:RdAt H 1 u (bv bs) bs.length) (su:scb H.next u=true) (sc:scb H.next (.slice ca cn cc)=true) (hok:H.base<=H.next) :
  CallA Tryz.prog 16 [.agg ⟨[.int .i64 least,.int .i64 most,.int .i64 depth,u,.slice ca cn cc]⟩] H (fun out X=>Mod [] H X/\HgtOut (verA least most depth cn bs) out X):=by
 obtain⟨b,hb⟩:=Go.Ax.exq H.next
 have hbase:H.base<=b:=hb▸hok
 obtain⟨ba,bc,eu⟩:=hu.sl
 rw[hb]at su sc
 rw[eu]at su
 refine callE_fn mixed Tryz.func16 rfl Tryz.ntmps16 (zB3 rfl) ?_
 rw[eu]
 simp only[hb,su,sc,ruW,Nat.reduceLeDiff,xF,ruU,entryE,Nat.reduceLT,Nat.reduceAdd,Nat.reduceEqDiff]
 generalize hY:ext H _=Y
 have mY:Mod [] H Y:=hY▸Mod.ext hok
 have nY:Y.next=b+2:=by rw[<-hY,ext_next,hb]; rfl
 have kY:bk Y (b+1)=some ⟨26,false,[.int .i64 0,.int .i64 0]⟩:=by rw[<-hY,bk_at hb (by simp)]; rfl
 have okY:=mY.ok hok
 clear hY
 refine (verify45_c Y least most depth _ _ ba ca cn cc bc bs rfl rfl (eu▸hu.mod0 mY) (by rw[nY]; exact scb_mono (by omega) _ su) (by rw[nY]; exact scb_mono (by omega) _ sc) okY).mono ?_
 rintro out Z ⟨mZ,ho⟩
 obtain⟨z,hz⟩:=Go.Ax.exq Z.next
 have okZ:=mZ.ok okY
 have zb:Z.base<=z:=hz▸okZ
 have lz:b+2<=z:=by have:=mZ.next; omega
 have kZ:=(mZ.bk (by omega) (by simp)).trans kY
 have mHZ:=mY.trans mZ
 have j1:b+1<z:=by omega
 rw[show Z=ext Z [] from rfl]
 cases hv:verA least most depth cn bs with
 |error f =>
  obtain⟨e,a⟩:=f
  rw[hv]at ho
  obtain⟨w,ho⟩:=ho
  rw[ho]
  have hne:decide (¬e=0)=true:=decide_eq_true (ver_ne hv)
  simp only[fltV,hz,zb,hne,ruW,putL,Nat.reduceLeDiff,xF,ruU,Nat.reduceLT,Nat.reduceAdd,Nat.reduceEqDiff]
  refine w_drawB [(2,0),(2,1)] [] (by kernel_rfl) (by kernel_rfl) rfl fun ops anc hA hG=>?_
  simp only[all2_cons]at hA
  simp only[hz,kZ,j1,hA,Tryz.results16,qk_old,ruD,ruW,putL,Nat.reduceLeDiff,xF,ruU,Nat.reduceLT,Nat.reduceAdd,Nat.reduceEqDiff]
  exact⟨(mHZ.step (W':=[b+1]) (Mod.uw (by simp)) hok fun n hn=>by simp only[zA4]at hn; exact .inr (by omega)).trans (Mod.ext (by rw[uw_base,uw_next,hz]; exact zb)),rfl⟩
 |ok ks =>
  rw[hv]at ho
  obtain⟨v,r,ix,d0,d1,lv,ls,ss,qv,q,ho,V,hls,hks,hss⟩:=ho
  rw[ho]
  have hne:∀ i:Decidable (¬True),@decide (¬True) i=false:=fun i=>by simp
  obtain⟨la,lc,el⟩:=V.ins.rd.sl
  have kvZ:=V.vb
  unfold vfC at kvZ
  rw[el]at kvZ
  have jv:v<z:=hz▸V.vn
  simp only[fltV,hz,zb,hne,jv,kvZ,qk_old,ruW,putL,Nat.reduceLeDiff,xF,ruU,Nat.reduceLT,Nat.reduceAdd,Nat.reduceEqDiff]
  generalize hZ1:ext Z _=Z1
  have mZ1:Mod [] Z Z1:=hZ1▸Mod.ext okZ
  have nZ1:Z1.next=z+1:=by rw[<-hZ1,ext_next,hz]; rfl
  clear hZ1
  have okZ1:=mZ1.ok okZ
  have V1:=V.mod0 mZ1
  have kZ1:=(mZ1.bk (by omega) (by simp)).trans kZ
  have mHZ1:=mHZ.trans mZ1
  have hkl:ks.length=ls.length:=by rw[<-hks,ksS_len,hss]
  have hhl:(hghR ks).length=ls.length:=by rw[hghR,zC8,hkl]
  have hll:ls.length<=60000:=by
   have h1:(insA bs).length=ls.length:=by rw[<-hls,zC8]
   unfold verA at hv
   cases hs:statA least most depth cn bs with
   |some g=>rw[hs]at hv; cases hv
   |none =>
    obtain⟨_,h2,h3,_⟩:=stat_none hs
    have:=(ins_len h3).1
    omega
  refine w_env fun E hE=>?_
  have g3:E 3=.pointer (some ⟨b+1,0,none⟩):=by rw[hE]; rfl
  have g4:E 4=.pointer (some ⟨v,0,none⟩):=by rw[hE]; rfl
  have g6:E 6=.slice none 0 0:=by rw[hE]; rfl
  have g23:E 23=.int .i64 (ls.length:Int):=by rw[hE]; rfl
  have g24:E 24=.int .i64 ((0:Nat):Int):=by rw[hE]; rfl
  clear hE
  refine w_loop (fun (q:Nat × List Int × Value) E' X'=>Mod [] Z1 X'/\ArgA X' q.2.2 q.2.1/\(∀ n∈idsV q.2.2,z+1<=n)/\q.2.1=(hghR ks).take q.1/\q.1<=ls.length/\E' 3=.pointer (some ⟨b+1,0,none⟩)/\E' 4=.pointer (some ⟨v,0,none⟩)/\E' 6=q.2.2/\E' 23=.int .i64 (ls.length:Int)/\E' 24=.int .i64 (q.1:Int)) (fun q=>ls.length-q.1) (0,[],.slice none 0 0) ⟨Mod.refl,VsAt.nil,fun n hn=>by simp[idsV]at hn,by simp,zC0 _,g3,g4,g6,g23,g24⟩ ?_
  clear g3 g4 g6 g23 g24 E
  rintro⟨i,out2,w⟩ E T ⟨mT,hw,hwi,hev,hil,g3,g4,g6,g23,g24⟩
  simp only at hw hwi hev hil g6 g24
  have hol:out2.length=i:=by rw[hev,zE1,hhl]; omega
  obtain⟨t,ht⟩:=Go.Ax.exq T.next
  have okT:=mT.ok okZ1
  have tb:T.base<=t:=ht▸okT
  have lt:z+1<=t:=by have:=mT.next; omega
  have kT:=(mT.bk (by omega) (by simp)).trans kZ1
  have VT:=V1.mod0 mT
  have kvT:=VT.vb
  unfold vfC at kvT
  rw[el]at kvT
  have i1:b+1<t:=by omega
  have iv':v<t:=by omega
  obtain⟨wa,ew⟩:=VsAt.len hw
  rw[show T=ext T [] from rfl]
  by_cases hie:i=ls.length
  ·have hd:decide ((i:Int)<(ls.length:Int))=false:=decide_eq_false (by omega)
   rw[ew]at g6
   simp only[g3,g6,g23,g24,ht,hd,i1,kT,Tryz.results16,qk_old,ruW,putL,Nat.reduceLeDiff,xF,ruU,Nat.reduceLT,Nat.reduceAdd,Nat.reduceEqDiff]
   rw[ext_nil]
   have mF:Mod [b+1] T (uw T (b+1) 0 [.int .i64 0,.int .i64 0]):=Mod.uw (by simp)
   refine⟨(mHZ1.trans mT).step mF hok fun n hn=>.inr (by simp only[zA4]at hn; omega),?_⟩
   rw[<-ew]
   rw[hie,zE8 (by omega)]at hev
   refine⟨w,rfl,?_⟩
   rw[<-hev]
   exact hw.of mF.next fun k hk=>mF.get k (hw.ne k hk).2 (by have:=hwi k hk; simp only[zA4]; omega)
  ·have hil':i<ls.length:=by omega
   have hd:decide ((i:Int)<(ls.length:Int))=true:=decide_eq_true (by omega)
   have hwj:IntKind.i64.wrap ((i:Int)+1)=((i+1:Nat):Int):=wrap_succ (by omega)
   obtain⟨o,ho2⟩:=Go.Ax.exq (ss.getD i none)
   have hgi:=hgh_at (ks:=ks) (show i<ks.length by omega)
   have hko:ks.getD i none=o.map (·.1):=by rw[<-hks,zA9,ksS_get,<-ho2,zA9]; cases ss[i]?<;>rfl
   rw[hko]at hgi
   -- what lookup gives
   obtain⟨h',bb,fv,ok2,hlk,hsf,hh⟩:∃ (h' bb:Int) (fv:Value) (ok2:Bool),(∀ L,aLookup Tryz.prog (ext T L) 88 (.map (some r)) (.int .i64 (i:Int)) true=some (.tuple #[.agg ⟨[.int .i64 h',.int .i64 bb,fv]⟩,.bool ok2]))/\(∃ a n c,fv=.slice a n c/\scb t fv=true)/\(hghR ks)[i]?=some (if ok2=true then h' else -1):=by
    cases o with
    |none =>
     refine⟨0,0,.slice none 0 0,false,fun L=>?_,⟨_,_,_,rfl,rfl⟩,hgi⟩
     have:=VT.sts.look u88 z93 (i:Int) true (ext T L) (ext_get_old VT.sts.1)
     rw[stF_nat,ho2]at this
     exact this
    |some y =>
     obtain⟨s,fv⟩:=y
     have hsi:ss[i]?=some (some (s,fv)):=by
      have hi':i<ss.length:=by omega
      rw[zA9,zA5 hi']at ho2
      rw[zA5 hi']
      exact congrArg some ho2
     have fr:=VT.fr i s fv hsi
     obtain⟨a,c,e⟩:=fr.sl
     refine⟨s.h,s.b,fv,true,fun L=>?_,⟨a,_,c,e,ht▸fr.sc⟩,hgi⟩
     have:=VT.sts.look u88 z93 (i:Int) true (ext T L) (ext_get_old VT.sts.1)
     rw[stF_nat,ho2]at this
     exact this
   obtain⟨fa,fn,fc,rfl,sf⟩:=hsf
   have sf1:=scb_mono (show t<=t+1 by omega) _ sf
   have jt:t+0<t+1:=by omega
   generalize hc:Code.seq (Code.seq (Code.region 9 _ _) _) _=code
   simp only[g4,g23,g24,ht,tb,hd,iv',kvT,hlk,w_lookup,sf1,qk_old,ruW,putL,Nat.reduceLeDiff,xF,ruU,Nat.reduceLT,Nat.reduceAdd,Nat.reduceEqDiff]
   subst hc
   refine w_env fun E2 hE=>?_
   replace g3:E2 3=.pointer (some ⟨b+1,0,none⟩):=by rw[hE]; simp only[g3,ruU,Nat.reduceEqDiff]
   replace g4:E2 4=.pointer (some ⟨v,0,none⟩):=by rw[hE]; simp only[g4,ruU,Nat.reduceEqDiff]
   replace g6:E2 6=w:=by rw[hE]; simp only[g6,ruU,Nat.reduceEqDiff]
   replace g23:E2 23=.int .i64 (ls.length:Int):=by rw[hE]; simp only[g23,ruU,Nat.reduceEqDiff]
   replace g24:E2 24=.int .i64 (i:Int):=by rw[hE]; simp only[g24,ruU,Nat.reduceEqDiff]
   have g8:E2 8=.pointer (some ⟨t+0,0,none⟩):=by rw[hE]; rfl
   have g9:E2 9=.bool ok2:=by rw[hE]; rfl
   clear hE
   obtain⟨hv',hhv⟩:∃ q,(if ok2=true then h' else -1)=q:=⟨_,rfl⟩
   rw[hhv]at hh
   rw[w_seq]
   refine w_meet (fun E' X'=>X'=ext T [⟨93,false,[.int .i64 hv',.int .i64 bb,.slice fa fn fc]⟩]/\E' 3=.pointer (some ⟨b+1,0,none⟩)/\E' 4=.pointer (some ⟨v,0,none⟩)/\E' 6=w/\E' 23=.int .i64 (ls.length:Int)/\E' 24=.int .i64 (i:Int)/\E' 8=.pointer (some ⟨t+0,0,none⟩)) ?_ ?_
   ·cases ok2 with
    |true =>
     have e:h'=hv':=hhv
     subst e
     simp only[g9,ruW,ruU,Nat.reduceLT]
     refine joinR_normal ⟨rfl,?_,?_,?_,?_,?_,?_⟩
     all_goals simp only[g3,g4,g6,g23,g24,g8,ruU,Nat.reduceEqDiff]
    |false =>
     have e:-1=hv':=hhv
     subst e
     simp only[g8,g9,ht,tb,ruW,putL,Nat.reduceLeDiff,xF,ruU,Nat.reduceLT,Nat.reduceAdd,Nat.reduceEqDiff]
     refine joinR_normal ⟨rfl,?_,?_,?_,?_,?_,?_⟩
     all_goals simp only[g3,g4,g6,g23,g24,g8,ruU,Nat.reduceEqDiff]
   clear g3 g4 g6 g8 g9 g23 g24 E2 E
   rintro E X' ⟨hX',g3,g4,g6,g23,g24,g8⟩
   rw[hX']
   generalize hT1:ext T _=T1
   have mT1:Mod [] T T1:=hT1▸Mod.ext okT
   have nT1:T1.next=t+1:=by rw[<-hT1,ext_next,ht]; rfl
   have t0:bk T1 (t+0)=some ⟨93,false,[.int .i64 hv',.int .i64 bb,.slice fa fn fc]⟩:=by rw[<-hT1,bk_at ht (by simp)]; rfl
   clear hT1 hX'
   have okT1:=mT1.ok okT
   have hw1:ArgA T1 w out2:=hw.of mT1.next fun k hk=>mT1.get k (hw.ne k hk).2 (by simp)
   obtain⟨G,k1,vG,mG,nG⟩:=int_app hw1 nT1 okT1 (by omega) hv'
   have hwx:∀ q∈idsV w,z+1<=q/\q<t:=fun q hq=>⟨hwi q hq,ht▸(hw.ne q hq).2⟩
   have mZG:Mod [] Z1 G:=(mT.trans mT1).step mG okZ1 fun q hq=>.inr (by have:=hwx q hq; omega)
   rw[show T1=ext T1 [] from rfl]
   simp only[g6,g8,g24,nT1,jt,t0,k1,hwj,qk_old,ruW,xF,ruU,Nat.reduceLT,Nat.reduceAdd,Nat.reduceEqDiff]
   refine loopC_next ⟨(i+1,out2++[hv'],.slice (some ⟨t+1+1,0,none⟩) (out2.length+1) (out2.length+1)),by simp only; omega,mZG,vG,fun q hq=>by simp only[idsV,zA4]at hq; omega,?_,by simp only; omega,?_,?_,?_,?_,?_⟩
   ·simp only
    rw[List.take_add_one,<-hev,hh]
    rfl
   all_goals simp only[g3,g4,g23,ruU,Nat.reduceEqDiff]
abbrev kpa1:List Value:=[.int .i64 0,.int .i64 0,.int .i64 1,.int .i64 1,.string ⟨#[100,114,111,112,10]⟩,.int .i64 9,.int .i64 0]
abbrev kpa2:List Value:=[.int .i64 0,.int .i64 0,.int .i64 1,.int .i64 1,.string ⟨#[99,111,110,115,116,32,48,10]⟩,.int .i64 13,.int .i64 0]
abbrev kpa3:List Value:=[.int .i64 0,.int .i64 0,.int .i64 1,.int .i64 1,.string ⟨#[106,117,109,112,32,49,10]⟩,.int .i64 5,.int .i64 0]
abbrev kpa4:List Value:=[.int .i64 0,.int .i64 0,.int .i64 1,.int .i64 1,.string ⟨#[114,101,116,117,114,110,10]⟩,.int .i64 9,.int .i64 0]
abbrev kpa5:List Value:=[.int .i64 0,.int .i64 0,.int .i64 1,.int .i64 1,.string ⟨#[99,111,110,115,116,32,49,10]⟩,.int .i64 3,.int .i64 0]
abbrev kpa6:List Value:=[.int .i64 0,.int .i64 0,.int .i64 2,.int .i64 2,.string ⟨#[99,111,110,115,116,32,48,10,99,97,116,99,104,32,49,49,10,99,111,110,115,116,32,49,10,100,111,110,101,10,114,101,116,117,114,110,10]⟩,.int .i64 5,.int .i64 3]
abbrev kpa7:List Value:=[.int .i64 2,.int .i64 2,.int .i64 4,.int .i64 1,.string ⟨#[99,111,110,115,116,32,48,10,99,111,112,121,32,50,10,99,111,112,121,32,50,10,99,97,108,108,32,50,10,114,101,116,117,114,110,10]⟩,.int .i64 12,.int .i64 6]
abbrev kpl0:List (FuncId × List Value × Value):=[]
abbrev kpl1:List (FuncId × List Value × Value):=(37,kpa1,.bool true)::kpl0
abbrev kpl2:List (FuncId × List Value × Value):=(37,kpa2,.bool true)::kpl1
abbrev kpl3:List (FuncId × List Value × Value):=(37,kpa3,.bool true)::kpl2
abbrev kpl4:List (FuncId × List Value × Value):=(37,kpa4,.bool true)::kpl3
abbrev kpl5:List (FuncId × List Value × Value):=(37,kpa5,.bool true)::kpl4
abbrev kpl6:List (FuncId × List Value × Value):=(37,kpa6,.bool true)::kpl5
abbrev kpl7:List (FuncId × List Value × Value):=(37,kpa7,.bool true)::kpl6
end Go.Proofs.YtnigelgcjfhghaaGreatDoor
