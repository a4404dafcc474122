/- Parts of the proof, one behind the other. -/
import Derived.Test.YtnigelgcjfhghaaGreatDoorM4
import Derived.Test.YtnigelgcjfhghaaGreatDoorM3
set_option linter.all false
set_option maxRecDepth 10000
set_option maxHeartbeats 16000000
open And renaming intro -> zA0
open Option renaming bind_eq_bind -> zA1, bind_eq_some_iff -> zA2, bind_some -> zA3, map_some -> zA6, map_eq_some_iff -> zB3
open List renaming getElem?_eq_getElem -> zA4, mem_singleton -> zA5, mem_cons -> zA8, getD_eq_getElem?_getD -> zA9, length_cons -> zB0, mem_cons_self -> zB6, map_cons -> zB7, mem_cons_of_mem -> zB8, mem_append -> zB9, not_mem_nil -> zC0, length_append -> zC3, nil_append -> zC5, length_nil -> zC7, length_singleton -> zC8, length_map -> zC9, all_eq_true -> zD2, flatMap_cons -> zD8, append_nil -> zD9, take_of_length_le -> zE0, getElem?_cons_succ -> zE2, mem_map -> zE3, eq_nil_of_length_eq_zero -> zE5, getElem?_map -> zE6, getElem?_cons_zero -> zE7, getElem?_eq_none -> zE8, drop_zero -> zF0, mem_of_getElem? -> zF1, cons_append -> zF2, length_take -> zF3, getElem?_eq_some_iff -> zF4, map_nil -> zF6, drop_eq_getElem_cons -> zF7, length_drop -> zF8, mem_append_right -> zF9
open Bool renaming and_eq_true -> zA7, false_eq_true -> zC6, and_self -> zD3, not_true -> zF5
open Nat renaming le_refl -> zB1, le_of_ble_eq_true -> zB2, zero_le -> zB5, zero_add -> zC1, le_trans -> zC2, mul_one -> zC4, le_of_eq -> zD0, lt_succ_self -> zD1, add_zero -> zD4, ble_eq -> zD5, lt_or_ge -> zD6, lt_of_lt_of_le -> zE1, eq_of_beq_eq_true -> zE4, zero_mul -> zE9
open Int renaming cast_ofNat_Int -> zB4, toNat_natCast -> zD7

namespace Go.Proofs.YtnigelgcjfhghaaGreatDoor
open Go.Ax
set_option maxRecDepth 100000
theorem evens_step {args:List Int} {j:Nat} (h:j<args.length):evens (args.drop j)=args[j]::evens (args.drop (j+2)):=by
 rw[zF7 h,evens_one,List.drop_drop]
theorem ops104_c (H:AHeap) (pos:Int) (op:Nat) (av:Value) (args:List Int) (hop:op<28) (ha:RdAt H 1 av (iv args) args.length) (hal:args.length<=1000000) (h0:op=10\/op=11\/op=12\/op=13\/op=14\/op=16\/op=18->0<args.length) (hsv:scb H.next av=true) (hok:H.base<=H.next) :
  CallA Tryz.prog 104 [.agg ⟨[.int .i64 pos,.int .i64 (op:Int),av]⟩] H (fun out X=>∃ w,out=.ok w/\ArgA X w (targsR op args)/\Mod [] H X/\∀ n∈idsV w,H.next<=n):=by
 obtain⟨b,hb⟩:=Go.Ax.exq H.next
 obtain⟨a0,c0,e0⟩:=ha.sl
 refine callE_fn mixed Tryz.func104 rfl Tryz.ntmps104 (zB2 rfl) ?_
 rw[hb]
 have hsc0:=hsv
 rw[hb,e0]at hsc0
 have hT:∀ i:Decidable True,@decide True i=true:=fun i=>by simp
 have hF:∀ i:Decidable False,@decide False i=false:=fun i=>by simp
 by_cases h1:op=10\/op=11\/op=12\/op=13\/op=14\/op=16\/op=18
 ·have hl:=h0 h1
  obtain⟨n,off,s,c,e,o,M,e2,n1,r1,m1⟩:=ha.one hl
  have e3:=e0.symm.trans e2
  simp only[Value.slice.injEq]at e3
  obtain⟨rfl,-,rfl⟩:=e3
  rw[e0]
  rw[iv_get,zA4 hl,zA6]at m1
  have hg:args.getD 0 0=args[0]:=by rw[zA9,zA4 hl]; rfl
  have i1:aIndexAddr Tryz.prog 35 (.slice (some ⟨n,off,s⟩) args.length c0) (.int .i64 0)=some (.pointer (some ⟨n,off+0,none⟩)):=ia_of (i:=0) u35 s3 hl
  rw[hb]at n1
  have r1':∀ L,rk (ext H L) n=some ⟨e,o,M⟩:=fun L=>(rk_get (ext_get_old (by rw[hb]; exact n1))).trans r1
  have he:targsR op args=[args[0]]:=by
   unfold targsR
   rw[if_pos (by omega),hg]
  rw[he]
  obtain⟨xa,hxa⟩:=Go.Ax.exq (args[0])
  rw[hxa]at m1 ⊢
  obtain⟨Y,hY⟩:=Go.Ax.exq (ext H [⟨59,false,[.int .i64 pos,.int .i64 (op:Int),.slice (some ⟨n,off,s⟩) args.length c0]⟩])
  have mY:Mod [] H Y:=hY▸Mod.ext hok
  have nY:Y.next=b+1:=by rw[<-hY,ext_next,hb]; rfl
  have okY:=mY.ok hok
  have kY:bk Y (b+0)=some ⟨59,false,[.int .i64 pos,.int .i64 (op:Int),.slice (some ⟨n,off,s⟩) args.length c0]⟩:=by rw[<-hY,bk_at hb (by simp)]; rfl
  have r1Y:rk Y n=some ⟨e,o,M⟩:=hY▸r1' _
  obtain⟨y,hy⟩:=Go.Ax.exq Y.next
  obtain⟨G,k1,vG,mG,nG⟩:=int_app (X:=Y) (v:=.slice none 0 0) (l:=[]) (x:=y) VsAt.nil hy okY (by simp) xa
  have n1y:n<y:=by omega
  rcases h1 with rfl|rfl|rfl|rfl|rfl|rfl|rfl
  all_goals
   simp only[zB4,Int.reduceEq,hb,hsc0,hT,hF,ruW,xF,ruU,entryE,Nat.reduceLT,Nat.reduceAdd,Nat.reduceEqDiff]at hY ⊢
   rw[hY]
   rw[show Y=ext Y [] from rfl]
   simp only[hy,i1,n1y,r1Y,m1,k1,qk_old,Tryz.results104,ruW,xF,ruU,Nat.reduceLT,Nat.reduceAdd,Nat.reduceEqDiff]
   refine⟨_,rfl,vG,mY.trans (mG.mono (by simp[idsV])),fun q hq=>?_⟩
   simp only[idsV,zA5]at hq
   omega
 by_cases h17:op=17
 ·subst h17
  have he:targsR 17 args=evens (args.drop 2):=by rfl
  rw[he,e0]
  simp only[zB4,Int.reduceEq,hb,hsc0,hT,hF,ruW,xF,ruU,entryE,Nat.reduceLT,Nat.reduceAdd,Nat.reduceEqDiff]
  refine w_env fun E hE=>?_
  have g1:E 1=.pointer (some ⟨b+0,0,none⟩):=by rw[hE]; rfl
  have g3:E 3=.slice none 0 0:=by rw[hE]; rfl
  have g4:E 4=.int .i64 ((2:Nat):Int):=by rw[hE]; rfl
  clear hE
  generalize hX0:ext H _=X0
  have m0:Mod [] H X0:=hX0▸Mod.ext hok
  have n0:b+1<=X0.next:=by rw[<-hX0,ext_next,hb]; simp
  have k0:bk X0 (b+0)=some ⟨59,false,[.int .i64 pos,.int .i64 17,.slice a0 args.length c0]⟩:=by rw[<-hX0,bk_at hb (by simp)]; rfl
  clear hX0
  refine w_loop (fun (z:Nat × List Int × Value) E' X=>Mod [] H X/\b+1<=X.next/\bk X (b+0)=some ⟨59,false,[.int .i64 pos,.int .i64 17,.slice a0 args.length c0]⟩/\ArgA X z.2.2 z.2.1/\(∀ n∈idsV z.2.2,b+1<=n)/\z.2.1++evens (args.drop z.1)=evens (args.drop 2)/\z.1<=args.length+2/\z.2.1.length<=z.1/\E' 1=.pointer (some ⟨b+0,0,none⟩)/\E' 3=z.2.2/\E' 4=.int .i64 (z.1:Int)) (fun z=>args.length+2-z.1) (2,[],.slice none 0 0)
   ⟨m0,n0,k0,VsAt.nil,fun n hn=>by simp[idsV]at hn,rfl,by simp only; omega,zB5 _,g1,g3,g4⟩ ?_
  clear g1 g3 g4 m0 n0 k0 X0 E
  rintro⟨j,out,w⟩ E X ⟨m,nx,k,hw,hwi,hev,hj,hol,g1,g3,g4⟩
  simp only at hw hwi hev hj hol g3 g4
  obtain⟨x,hx⟩:=Go.Ax.exq X.next
  have okX:=m.ok hok
  have hxb:X.base<=x:=hx▸okX
  rw[hx]at nx
  have hbx:b+0<x:=by omega
  obtain⟨wa,ew⟩:=VsAt.len hw
  rw[show X=ext X [] from rfl]
  by_cases hje:args.length<=j
  ·have hd:decide ((j:Int)<(args.length:Int))=false:=decide_eq_false (by omega)
   rw[List.drop_of_length_le hje,show evens []=[] from rfl,zD9]at hev
   rw[ew]at g3
   simp only[g1,g3,g4,hx,hbx,k,hd,qk_old,Tryz.results104,ruW,xF,ruU,Nat.reduceLT,Nat.reduceAdd,Nat.reduceEqDiff]
   refine⟨w,by rw[ew],by rw[<-hev]; exact hw,m,fun q hq=>by have:=hwi q hq; omega⟩
  ·have hjl:j<args.length:=by omega
   have hd:decide ((j:Int)<(args.length:Int))=true:=decide_eq_true (by omega)
   obtain⟨n,off,s,c,e,o,M,e2,n1,r1,m1⟩:=(ha.mod0 m).one hjl
   have e3:=e0.symm.trans e2
   simp only[Value.slice.injEq]at e3
   obtain⟨ea,-,ec⟩:=e3
   rw[ea]at k
   rw[iv_get,zA4 hjl,zA6]at m1
   have i1:=ia_of (P:=Tryz.prog) (k:=.i64) (i:=j) (n:=n) (off:=off) (len:=args.length) (cap:=c0) (s:=s) u35 s3 hjl
   rw[zC4]at i1
   rw[hx]at n1
   rw[evens_step hjl]at hev
   obtain⟨xa,hxa⟩:=Go.Ax.exq (args[j])
   rw[hxa]at m1 hev
   obtain⟨G,k1,vG,mG,nG⟩:=int_app hw hx okX (by omega) xa
   have hwx:∀ q∈idsV w,b+1<=q/\q<x:=fun q hq=>⟨hwi q hq,hx▸(hw.ne q hq).2⟩
   have mHG:Mod [] H G:=m.step mG hok fun q hq=>.inr (by have:=hwx q hq; omega)
   have kG:bk G (b+0)=some ⟨59,false,[.int .i64 pos,.int .i64 17,.slice (some ⟨n,off,s⟩) args.length c0]⟩:=(mG.bk (by omega) (fun h=>by have:=hwx _ h; omega)).trans k
   have hwj:IntKind.i64.wrap ((j:Int)+2)=((j+2:Nat):Int):=(wrap_sm (by omega) (by omega)).trans (by omega)
   simp only[g1,g3,g4,hx,hbx,k,hd,i1,n1,r1,m1,k1,hwj,qk_old,ruW,xF,ruU,Nat.reduceLT,Nat.reduceAdd,Nat.reduceEqDiff]
   refine loopC_next ⟨(j+2,out++[xa],.slice (some ⟨x+1,0,none⟩) (out.length+1) (out.length+1)),by simp only; omega,mHG,by rw[ext_nil,nG]; omega,by rw[ext_nil,ea]; exact kG,vG,fun q hq=>by simp only[idsV,zA5]at hq; omega,?_,by simp only; omega,by simp only[zC3,zC8]; omega,?_,?_,?_⟩
   ·simp only
    rw[<-hev,List.append_assoc]
    rfl
   all_goals simp only[g1,ruU,Nat.reduceEqDiff]
 have hcs:op=0\/op=1\/op=2\/op=3\/op=4\/op=5\/op=6\/op=7\/op=8\/op=9\/op=15\/op=19\/op=20\/op=21\/op=22\/op=23\/op=24\/op=25\/op=26\/op=27:=by omega
 have he:targsR op args=[]:=by
  unfold targsR
  rw[if_neg (by omega),if_neg h17]
 rw[he,e0]
 rcases hcs with rfl|rfl|rfl|rfl|rfl|rfl|rfl|rfl|rfl|rfl|rfl|rfl|rfl|rfl|rfl|rfl|rfl|rfl|rfl|rfl
 all_goals
  simp only[zB4,Int.reduceEq,hb,hsc0,hF,Tryz.results104,ruW,xF,ruU,entryE,Nat.reduceLT,Nat.reduceAdd,Nat.reduceEqDiff]
  exact⟨_,rfl,VsAt.nil,Mod.ext hok,fun n hn=>by simp[idsV]at hn⟩
theorem ops103_c (H:AHeap) (pos:Int) (op:Nat) (av:Value) (args:List Int) (hop:op<28) (ha:RdAt H 1 av (iv args) args.length) (hal:args.length<=1000000) (h0:op=0\/op=5\/op=6\/op=7\/op=21\/op=24\/op=25->0<args.length) (hsv:scb H.next av=true) (hok:H.base<=H.next) :
  CallA Tryz.prog 103 [.agg ⟨[.int .i64 pos,.int .i64 (op:Int),av]⟩] H (fun out X=>∃ w,out=.ok w/\ArgA X w (constsR op args)/\Mod [] H X/\∀ n∈idsV w,H.next<=n):=by
 obtain⟨b,hb⟩:=Go.Ax.exq H.next
 obtain⟨a0,c0,e0⟩:=ha.sl
 refine callE_fn mixed Tryz.func103 rfl Tryz.ntmps103 (zB2 rfl) ?_
 rw[hb]
 have hsc0:=hsv
 rw[hb,e0]at hsc0
 have hT:∀ i:Decidable True,@decide True i=true:=fun i=>by simp
 have hF:∀ i:Decidable False,@decide False i=false:=fun i=>by simp
 by_cases h1:op=0\/op=5\/op=6\/op=7\/op=21\/op=24\/op=25
 ·have hl:=h0 h1
  obtain⟨n,off,s,c,e,o,M,e2,n1,r1,m1⟩:=ha.one hl
  have e3:=e0.symm.trans e2
  simp only[Value.slice.injEq]at e3
  obtain⟨rfl,-,rfl⟩:=e3
  rw[e0]
  rw[iv_get,zA4 hl,zA6]at m1
  have hg:args.getD 0 0=args[0]:=by rw[zA9,zA4 hl]; rfl
  have i1:aIndexAddr Tryz.prog 35 (.slice (some ⟨n,off,s⟩) args.length c0) (.int .i64 0)=some (.pointer (some ⟨n,off+0,none⟩)):=ia_of (i:=0) u35 s3 hl
  rw[hb]at n1
  have r1':∀ L,rk (ext H L) n=some ⟨e,o,M⟩:=fun L=>(rk_get (ext_get_old (by rw[hb]; exact n1))).trans r1
  have he:constsR op args=[args[0]]:=by
   unfold constsR
   rw[if_pos (by omega),hg]
  rw[he]
  obtain⟨xa,hxa⟩:=Go.Ax.exq (args[0])
  rw[hxa]at m1 ⊢
  obtain⟨Y,hY⟩:=Go.Ax.exq (ext H [⟨59,false,[.int .i64 pos,.int .i64 (op:Int),.slice (some ⟨n,off,s⟩) args.length c0]⟩])
  have mY:Mod [] H Y:=hY▸Mod.ext hok
  have nY:Y.next=b+1:=by rw[<-hY,ext_next,hb]; rfl
  have okY:=mY.ok hok
  have kY:bk Y (b+0)=some ⟨59,false,[.int .i64 pos,.int .i64 (op:Int),.slice (some ⟨n,off,s⟩) args.length c0]⟩:=by rw[<-hY,bk_at hb (by simp)]; rfl
  have r1Y:rk Y n=some ⟨e,o,M⟩:=hY▸r1' _
  obtain⟨y,hy⟩:=Go.Ax.exq Y.next
  obtain⟨G,k1,vG,mG,nG⟩:=int_app (X:=Y) (v:=.slice none 0 0) (l:=[]) (x:=y) VsAt.nil hy okY (by simp) xa
  have n1y:n<y:=by omega
  rcases h1 with rfl|rfl|rfl|rfl|rfl|rfl|rfl
  all_goals
   simp only[zB4,Int.reduceEq,hb,hsc0,hT,hF,ruW,xF,ruU,entryE,Nat.reduceLT,Nat.reduceAdd,Nat.reduceEqDiff]at hY ⊢
   rw[hY]
   rw[show Y=ext Y [] from rfl]
   simp only[hy,i1,n1y,r1Y,m1,k1,qk_old,Tryz.results103,ruW,xF,ruU,Nat.reduceLT,Nat.reduceAdd,Nat.reduceEqDiff]
   refine⟨_,rfl,vG,mY.trans (mG.mono (by simp[idsV])),fun q hq=>?_⟩
   simp only[idsV,zA5]at hq
   omega
 by_cases h17:op=17
 ·subst h17
  have he:constsR 17 args=evens (args.drop 1):=by rfl
  rw[he,e0]
  simp only[zB4,Int.reduceEq,hb,hsc0,hT,hF,ruW,xF,ruU,entryE,Nat.reduceLT,Nat.reduceAdd,Nat.reduceEqDiff]
  refine w_env fun E hE=>?_
  have g1:E 1=.pointer (some ⟨b+0,0,none⟩):=by rw[hE]; rfl
  have g3:E 3=.slice none 0 0:=by rw[hE]; rfl
  have g4:E 4=.int .i64 ((1:Nat):Int):=by rw[hE]; rfl
  clear hE
  generalize hX0:ext H _=X0
  have m0:Mod [] H X0:=hX0▸Mod.ext hok
  have n0:b+1<=X0.next:=by rw[<-hX0,ext_next,hb]; simp
  have k0:bk X0 (b+0)=some ⟨59,false,[.int .i64 pos,.int .i64 17,.slice a0 args.length c0]⟩:=by rw[<-hX0,bk_at hb (by simp)]; rfl
  clear hX0
  refine w_loop (fun (z:Nat × List Int × Value) E' X=>Mod [] H X/\b+1<=X.next/\bk X (b+0)=some ⟨59,false,[.int .i64 pos,.int .i64 17,.slice a0 args.length c0]⟩/\ArgA X z.2.2 z.2.1/\(∀ n∈idsV z.2.2,b+1<=n)/\z.2.1++evens (args.drop z.1)=evens (args.drop 1)/\z.1<=args.length+2/\z.2.1.length<=z.1/\E' 1=.pointer (some ⟨b+0,0,none⟩)/\E' 3=z.2.2/\E' 4=.int .i64 (z.1:Int)) (fun z=>args.length+2-z.1) (1,[],.slice none 0 0)
   ⟨m0,n0,k0,VsAt.nil,fun n hn=>by simp[idsV]at hn,rfl,by simp only; omega,zB5 _,g1,g3,g4⟩ ?_
  clear g1 g3 g4 m0 n0 k0 X0 E
  rintro⟨j,out,w⟩ E X ⟨m,nx,k,hw,hwi,hev,hj,hol,g1,g3,g4⟩
  simp only at hw hwi hev hj hol g3 g4
  obtain⟨x,hx⟩:=Go.Ax.exq X.next
  have okX:=m.ok hok
  have hxb:X.base<=x:=hx▸okX
  rw[hx]at nx
  have hbx:b+0<x:=by omega
  obtain⟨wa,ew⟩:=VsAt.len hw
  rw[show X=ext X [] from rfl]
  by_cases hje:args.length<=j
  ·have hd:decide ((j:Int)<(args.length:Int))=false:=decide_eq_false (by omega)
   rw[List.drop_of_length_le hje,show evens []=[] from rfl,zD9]at hev
   rw[ew]at g3
   simp only[g1,g3,g4,hx,hbx,k,hd,qk_old,Tryz.results103,ruW,xF,ruU,Nat.reduceLT,Nat.reduceAdd,Nat.reduceEqDiff]
   refine⟨w,by rw[ew],by rw[<-hev]; exact hw,m,fun q hq=>by have:=hwi q hq; omega⟩
  ·have hjl:j<args.length:=by omega
   have hd:decide ((j:Int)<(args.length:Int))=true:=decide_eq_true (by omega)
   obtain⟨n,off,s,c,e,o,M,e2,n1,r1,m1⟩:=(ha.mod0 m).one hjl
   have e3:=e0.symm.trans e2
   simp only[Value.slice.injEq]at e3
   obtain⟨ea,-,ec⟩:=e3
   rw[ea]at k
   rw[iv_get,zA4 hjl,zA6]at m1
   have i1:=ia_of (P:=Tryz.prog) (k:=.i64) (i:=j) (n:=n) (off:=off) (len:=args.length) (cap:=c0) (s:=s) u35 s3 hjl
   rw[zC4]at i1
   rw[hx]at n1
   rw[evens_step hjl]at hev
   obtain⟨xa,hxa⟩:=Go.Ax.exq (args[j])
   rw[hxa]at m1 hev
   obtain⟨G,k1,vG,mG,nG⟩:=int_app hw hx okX (by omega) xa
   have hwx:∀ q∈idsV w,b+1<=q/\q<x:=fun q hq=>⟨hwi q hq,hx▸(hw.ne q hq).2⟩
   have mHG:Mod [] H G:=m.step mG hok fun q hq=>.inr (by have:=hwx q hq; omega)
   have kG:bk G (b+0)=some ⟨59,false,[.int .i64 pos,.int .i64 17,.slice (some ⟨n,off,s⟩) args.length c0]⟩:=(mG.bk (by omega) (fun h=>by have:=hwx _ h; omega)).trans k
   have hwj:IntKind.i64.wrap ((j:Int)+2)=((j+2:Nat):Int):=(wrap_sm (by omega) (by omega)).trans (by omega)
   simp only[g1,g3,g4,hx,hbx,k,hd,i1,n1,r1,m1,k1,hwj,qk_old,ruW,xF,ruU,Nat.reduceLT,Nat.reduceAdd,Nat.reduceEqDiff]
   refine loopC_next ⟨(j+2,out++[xa],.slice (some ⟨x+1,0,none⟩) (out.length+1) (out.length+1)),by simp only; omega,mHG,by rw[ext_nil,nG]; omega,by rw[ext_nil,ea]; exact kG,vG,fun q hq=>by simp only[idsV,zA5]at hq; omega,?_,by simp only; omega,by simp only[zC3,zC8]; omega,?_,?_,?_⟩
   ·simp only
    rw[<-hev,List.append_assoc]
    rfl
   all_goals simp only[g1,ruU,Nat.reduceEqDiff]
 have hcs:op=1\/op=2\/op=3\/op=4\/op=8\/op=9\/op=10\/op=11\/op=12\/op=13\/op=14\/op=15\/op=16\/op=18\/op=19\/op=20\/op=22\/op=23\/op=26\/op=27:=by omega
 have he:constsR op args=[]:=by
  unfold constsR
  rw[if_neg (by omega),if_neg h17]
 rw[he,e0]
 rcases hcs with rfl|rfl|rfl|rfl|rfl|rfl|rfl|rfl|rfl|rfl|rfl|rfl|rfl|rfl|rfl|rfl|rfl|rfl|rfl|rfl
 all_goals
  simp only[zB4,Int.reduceEq,hb,hsc0,hF,Tryz.results103,ruW,xF,ruU,entryE,Nat.reduceLT,Nat.reduceAdd,Nat.reduceEqDiff]
  exact⟨_,rfl,VsAt.nil,Mod.ext hok,fun n hn=>by simp[idsV]at hn⟩
set_option maxRecDepth 100000
theorem miss106_c (H:AHeap) (pos:Int) (op:Nat) (av:Value) (args:List Int) (h:Int) (hop:op<28) (ha:RdAt H 1 av (iv args) args.length) (hal:args.length<=1000000) (h0:op=4\/op=9->0<args.length/\0<=args.getD 0 0/\args.getD 0 0<=65535) (h1:op=1\/op=2\/op=22\/op=23->0<args.length) (hh:-1000000000<=h/\h<=1000000000) :
  Pure 106 [.agg ⟨[.int .i64 pos,.int .i64 (op:Int),av]⟩,.int .i64 h] H (.bool (missR op args h)):=by
 obtain⟨b,hb⟩:=Go.Ax.exq H.next
 obtain⟨a0,c0,e0⟩:=ha.sl
 refine callS_fn mixed Tryz.func106 rfl Tryz.ntmps106 (zB2 rfl) fun wf hsc=>?_
 have hok:=wf.base
 have hbase:H.base<=b:=hb▸hok
 rw[scbL_iff]at hsc
 have hsc0:=hsc _ (zB6 ..)
 rw[hb,e0]at hsc0
 replace hsc0:scb b (.slice a0 args.length c0)=true:=sc_agg3 hsc0
 have hT:∀ i:Decidable True,@decide True i=true:=fun i=>by simp
 have hF:∀ i:Decidable False,@decide False i=false:=fun i=>by simp
 rw[e0]
 obtain⟨X,hX⟩:=Go.Ax.exq (ext H [⟨59,false,[.int .i64 pos,.int .i64 (op:Int),.slice a0 args.length c0]⟩])
 have mX:Mod [] H X:=hX▸Mod.ext hok
 have nX:X.next=b+1:=by rw[<-hX,ext_next,hb]; rfl
 have kX:bk X (b+0)=some ⟨59,false,[.int .i64 pos,.int .i64 (op:Int),.slice a0 args.length c0]⟩:=by rw[<-hX,bk_at hb (by simp)]; rfl
 have hbx:b+0<b+1:=by omega
 have haX:=ha.mod0 mX
 rw[e0]at haX
 simp only[hb,hsc0,ruW,Nat.reduceLeDiff,xF,ruU,entryE,Nat.reduceLT,Nat.reduceAdd,Nat.reduceEqDiff]
 rw[hX]
 rw[show X=ext X [] from rfl]
 refine (eff131_c (ext X []) pos op (.slice a0 args.length c0) args hop haX h0).to ?_
 obtain⟨pq,hpq⟩:=Go.Ax.exq (effR op args)
 obtain⟨d,hd⟩:=Go.Ax.exq (decide (h<pq.1))
 have hm:missR op args h=(d||if op=1\/op=22 then decide (h<=args.getD 0 0) else if op=2\/op=23 then decide (h-1<=args.getD 0 0) else if op=24 then (args.drop 2).any fun a=>decide (h<=a) else false):=by
  rw[missR,hpq,hd]
 rw[hpq]
 simp only[hd,ruW,ruU,Nat.reduceLT,Nat.reduceEqDiff]
 cases d with
 |true =>
  simp only[Tryz.results106,ruW,ruU,Nat.reduceLT]
  rw[hm,Bool.true_or]
  exact Ax.Fin.mod rfl mX rfl
 |false =>
  rw[Bool.false_or]at hm
  rw[hm]
  by_cases hA:op=1\/op=22\/op=2\/op=23
  ·have hl:=h1 (by omega)
   obtain⟨n,off,s,c,e,o,M,e2,n1,r1,m1⟩:=haX.one hl
   have e3:=e2
   simp only[Value.slice.injEq]at e3
   obtain⟨rfl,-,rfl⟩:=e3
   rw[iv_get,zA4 hl,zA6]at m1
   have hg:args.getD 0 0=args[0]:=by rw[zA9,zA4 hl]; rfl
   have i1:aIndexAddr Tryz.prog 35 (.slice (some ⟨n,off,s⟩) args.length c0) (.int .i64 0)=some (.pointer (some ⟨n,off+0,none⟩)):=ia_of (i:=0) u35 s3 hl
   rw[nX]at n1
   have hw:IntKind.i64.wrap (h-1)=h-1:=wrap_sm (by omega) (by omega)
   rw[hg]
   rcases hA with rfl|rfl|rfl|rfl
   all_goals
    simp only[zB4]at kX
    simp only[zB4,Int.reduceEq,nX,kX,hbx,hT,hF,i1,n1,r1,m1,hw,qk_old,Tryz.results106,ruW,xF,ruU,Nat.reduceLT,Nat.reduceAdd,Nat.reduceEqDiff]
    exact Ax.Fin.mod rfl mX rfl
  rw[if_neg (by omega),if_neg (by omega)]
  by_cases h24:op=24
  ·subst h24
   rw[if_pos rfl]
   simp only[zB4]at kX
   simp only[zB4,Int.reduceEq,nX,kX,hbx,hT,hF,qk_old,ruW,xF,ruU,Nat.reduceLT,Nat.reduceAdd,Nat.reduceEqDiff]
   refine w_env fun E hE=>?_
   have g1:E 1=.int .i64 h:=by rw[hE]; rfl
   have g2:E 2=.pointer (some ⟨b+0,0,none⟩):=by rw[hE]; rfl
   have g7:E 7=.int .i64 ((2:Nat):Int):=by rw[hE]; rfl
   clear hE
   refine w_loop (fun (j:Nat) E' X'=>X'=ext X []/\2<=j/\j<=args.length+2/\(∀ k,2<=k->k<j->∀ y,args[k]?=some y->¬h<=y)/\E' 1=.int .i64 h/\E' 2=.pointer (some ⟨b+0,0,none⟩)/\E' 7=.int .i64 (j:Int)) (fun j=>args.length+2-j) 2 ⟨rfl,zB1 _,by omega,fun k h1 h2=>absurd h2 (by omega),g1,g2,g7⟩ ?_
   clear g1 g2 g7 E
   rintro j E X' ⟨hX',h2j,hj,hall,g1,g2,g7⟩
   rw[hX']
   by_cases hje:args.length<=j
   ·have hdj:decide ((j:Int)<(args.length:Int))=false:=decide_eq_false (by omega)
    simp only[g2,g7,nX,kX,hbx,hdj,qk_old,Tryz.results106,ruW,xF,ruU,Nat.reduceLT,Nat.reduceAdd,Nat.reduceEqDiff]
    have:((args.drop 2).any fun a=>decide (h<=a))=false:=by
     rw[List.any_eq_false]
     intro y hy
     obtain⟨k,hk,e⟩:=List.mem_iff_getElem.1 hy
     rw[zF8]at hk
     have:=hall (2+k) (by omega) (by omega) y (by rw[<-e,List.getElem_drop,zA4])
     simpa using this
    rw[this]
    exact Ax.Fin.mod rfl mX rfl
   ·have hjl:j<args.length:=by omega
    have hdj:decide ((j:Int)<(args.length:Int))=true:=decide_eq_true (by omega)
    obtain⟨n,off,s,c,e,o,M,e2,n1,r1,m1⟩:=haX.one hjl
    have e3:=e2
    simp only[Value.slice.injEq]at e3
    obtain⟨ea,-,ec⟩:=e3
    have kX':=kX
    rw[ea]at kX'
    rw[iv_get,zA4 hjl,zA6]at m1
    have i1:=ia_of (P:=Tryz.prog) (k:=.i64) (i:=j) (n:=n) (off:=off) (len:=args.length) (cap:=c0) (s:=s) u35 s3 hjl
    rw[zC4]at i1
    rw[nX]at n1
    obtain⟨xa,hxa⟩:=Go.Ax.exq (args[j])
    rw[hxa]at m1
    have hw:IntKind.i64.wrap ((j:Int)+1)=((j+1:Nat):Int):=wrap_succ (by omega)
    obtain⟨dd,hdd⟩:=Go.Ax.exq (decide (h<=xa))
    simp only[g1,g2,g7,nX,kX',hbx,hdj,i1,n1,r1,m1,hdd,qk_old,ruW,xF,ruU,Nat.reduceLT,Nat.reduceAdd,Nat.reduceEqDiff]
    cases dd with
    |true =>
     have hle:=of_decide_eq_true hdd
     simp only[Tryz.results106,ruW,ruU,Nat.reduceLT]
     have:((args.drop 2).any fun a=>decide (h<=a))=true:=by
      rw[List.any_eq_true]
      refine⟨xa,?_,decide_eq_true hle⟩
      rw[List.mem_iff_getElem]
      exact⟨j-2,by rw[zF8]; omega,by rw[List.getElem_drop,<-hxa]; congr 1; omega⟩
     rw[this]
     exact Ax.Fin.mod rfl mX rfl
    |false =>
     have hle:=of_decide_eq_false hdd
     simp only[g7,hw,ruW,ruU,Nat.reduceLT,Nat.reduceEqDiff]
     refine loopC_next ⟨j+1,by omega,rfl,by omega,by omega,fun k h1 h2 y hy=>?_,?_,?_,?_⟩
     ·by_cases hk:k=j
      ·subst hk
       rw[zA4 hjl,hxa]at hy
       cases hy
       exact hle
      ·exact hall k h1 (by omega) y hy
     all_goals simp only[g1,g2,ruU,Nat.reduceEqDiff]
  rw[if_neg h24]
  have hcs:op=0\/op=3\/op=4\/op=5\/op=6\/op=7\/op=8\/op=9\/op=10\/op=11\/op=12\/op=13\/op=14\/op=15\/op=16\/op=17\/op=18\/op=19\/op=20\/op=21\/op=25\/op=26\/op=27:=by omega
  rcases hcs with rfl|rfl|rfl|rfl|rfl|rfl|rfl|rfl|rfl|rfl|rfl|rfl|rfl|rfl|rfl|rfl|rfl|rfl|rfl|rfl|rfl|rfl|rfl
  all_goals
   simp only[zB4]at kX
   simp only[zB4,Int.reduceEq,nX,kX,hbx,hF,qk_old,Tryz.results106,ruW,xF,ruU,Nat.reduceLT,Nat.reduceAdd,Nat.reduceEqDiff]
   exact Ax.Fin.mod rfl mX rfl
set_option maxRecDepth 100000
def frV (f:Fr):List Value:=[.int .i64 f.kind,.int .i64 f.height,.int .i64 f.bound]
def frC (fs:List Fr):List Value:=fs.flatMap frV
def stV (kn dn:Bool) (s:St) (fv:Value):Value:=.agg ⟨[.bool kn,.bool dn,.int .i64 s.h,.int .i64 s.b,fv]⟩
def cdV (least most depth:Int) (bv' cv:Value):Value:=.agg ⟨[.int .i64 least,.int .i64 most,.int .i64 depth,bv',cv]⟩
theorem sc_cd {N:Nat} {l m d:Int} {x y:Value} (h:scb N (cdV l m d x y)=true):scb N x=true/\scb N y=true:=by
 have h':(true&&(true&&(true&&(scb N x&&(scb N y&&true)))))=true:=h
 simp only[zA7]at h'
 exact⟨h'.2.2.2.1,h'.2.2.2.2.1⟩
theorem sc_st {N:Nat} {kn dn:Bool} {s:St} {x:Value} (h:scb N (stV kn dn s x)=true):scb N x=true:=by
 have h':(true&&(true&&(true&&(true&&(scb N x&&true)))))=true:=h
 simp only[zA7]at h'
 exact h'.2.2.2.2.1
theorem deep80_c (H:AHeap) (least most depth:Int) (ba ca fa:Option Addr) (bn bc cn cc fc:Nat) (kn dn:Bool) (s:St) (hs:s.fs.length<=1000000) :
  Pure 80 [cdV least most depth (.slice ba bn bc) (.slice ca cn cc),stV kn dn s (.slice fa s.fs.length fc)] H (.bool (deepR depth 200 1000 s)):=by
 obtain⟨b,hb⟩:=Go.Ax.exq H.next
 refine callS_fn mixed Tryz.func80 rfl Tryz.ntmps80 (zB2 rfl) fun wf hsc=>?_
 have hok:=wf.base
 have hbase:H.base<=b:=hb▸hok
 rw[scbL_iff]at hsc
 have s1:=sc_cd (hsc _ (zB6 ..))
 have s2:=sc_st (hsc _ (zB8 _ (zB6 ..)))
 rw[hb]at s1 s2
 have s11:=s1.1
 have s12:=s1.2
 have s21:=scb_mono (show b<=b+1 by omega) _ s2
 obtain⟨d1,h1⟩:∃ d,decide (depth<s.h)=d:=⟨_,rfl⟩
 obtain⟨d2,h2⟩:∃ d,decide ((200:Int)<(s.fs.length:Int))=d:=⟨_,rfl⟩
 obtain⟨d3,h3⟩:∃ d,decide ((1000:Int)<s.b)=d:=⟨_,rfl⟩
 have he:deepR depth 200 1000 s=(d1||d2||d3):=by rw[deepR,h1,h2,h3]
 rw[he]
 unfold cdV stV
 cases d1<;>cases d2<;>cases d3
 all_goals
  simp only[hb,s11,s12,s21,h1,h2,h3,Tryz.results80,ruW,xF,ruU,entryE,Nat.reduceLT,Nat.reduceAdd,Nat.reduceEqDiff]
  exact Fin.pureE rfl rfl
set_option maxRecDepth 100000
theorem frC_len (fs:List Fr):(frC fs).length=fs.length*3:=by
 induction fs with
 |nil=>rfl
 |cons x r ih=>simp only[frC,zD8,zC3,zB0]at ih ⊢; rw[ih]; simp only[frV,zB0,zC7]; omega
theorem frC_at:∀ {fs:List Fr} {i:Nat} {f:Fr},fs[i]?=some f->((frC fs).drop (i*3)).take 3=frV f
 |y::r,0,f,h=>by
  simp only[zE7,Option.some.injEq]at h
  subst h
  rfl
 |y::r,i+1,f,h=>by
  rw[zE2]at h
  rw[show (i+1)*3=3+i*3 by omega,frC,zD8,List.drop_append,List.drop_eq_nil_of_le (by simp[frV])]
  simp only[frV,zB0,zC7,zC5]
  rw[show 3+i*3-(0+1+1+1)=i*3 by omega]
  exact frC_at h
theorem u98:Tryz.prog.underlying 98=some (.slice 183):=by kernel_rfl
theorem s183:szOf Tryz.prog 183=some 3:=by kernel_rfl
theorem fr_one {H:AHeap} {v:Value} {fs:List Fr} (h:RdAt H 3 v (frC fs) fs.length) {i:Nat} {f:Fr} (hi:fs[i]?=some f):∃ n off s c e o M,v=.slice (some ⟨n,off,s⟩) fs.length c/\n<H.next/\rk H n=some ⟨e,o,M⟩/\aIndexAddr Tryz.prog 98 v (.int .i64 (i:Int))=some (.pointer (some ⟨n,off+i*3,none⟩))/\ldB Tryz.prog 183 (off+i*3) (some ⟨e,o,M⟩)=some (.agg ⟨frV f⟩):=by
 have hl:=(zF4.1 hi).1
 obtain⟨n,off,s,c,e,o,M,rfl,h2,h3,h4,h5⟩:=h.at_ hl
 rw[frC_at hi]at h5
 refine⟨n,off,s,c,e,o,M,rfl,h2,h3,ia_of u98 s183 hl,?_⟩
 have h1:aggT Tryz.prog 183=some true:=by kernel_rfl
 rw[ld_agg h1,s183,zA3,if_pos (by omega),h5]
theorem dis107_c (H:AHeap) (pos:Int) (op:Nat) (av:Value) (args:List Int) (kn dn:Bool) (s:St) (fv:Value) (hop:op<28) (ha:RdAt H 1 av (iv args) args.length) (hal:args.length<=1000000) (h8:op=8->0<args.length/\0<=args.getD 0 0/\args.getD 0 0<=65535)
  (hf:RdAt H 3 fv (frC s.fs) s.fs.length) (hfl:s.fs.length<=1000000) (hb9:-1000000000<=s.b/\s.b<=1000000000) (hfh:∀ f∈s.fs,-1000000000<=f.height/\f.height<=1000000000) :
  Pure 107 [.agg ⟨[.int .i64 pos,.int .i64 (op:Int),av]⟩,stV kn dn s fv] H (.bool (disR op args s)):=by
 obtain⟨b,hb⟩:=Go.Ax.exq H.next
 obtain⟨a0,c0,e0⟩:=ha.sl
 obtain⟨f0,fc,ef⟩:=hf.sl
 refine callS_fn mixed Tryz.func107 rfl Tryz.ntmps107 (zB2 rfl) fun wf hsc=>?_
 have hok:=wf.base
 have hbase:H.base<=b:=hb▸hok
 rw[scbL_iff]at hsc
 have hsc0:=hsc _ (zB6 ..)
 have hsc1:=sc_st (hsc _ (zB8 _ (zB6 ..)))
 rw[hb,e0]at hsc0
 rw[hb,ef]at hsc1
 replace hsc0:scb b (.slice a0 args.length c0)=true:=sc_agg3 hsc0
 have hsc2:=scb_mono (show b<=b+1 by omega) _ hsc1
 have hT:∀ i:Decidable True,@decide True i=true:=fun i=>by simp
 have hF:∀ i:Decidable False,@decide False i=false:=fun i=>by simp
 obtain⟨t,ht⟩:=Go.Ax.exq (topS s)
 rw[e0,ef]
 unfold stV
 obtain⟨dl,hdl⟩:∃ d,decide ((0:Int)<(s.fs.length:Int))=d:=⟨_,rfl⟩
 simp only[hb,hbase,hsc0,hsc2,hdl,ruW,putL,Nat.reduceLeDiff,xF,ruU,entryE,Nat.reduceLT,Nat.reduceAdd,Nat.reduceEqDiff]
 refine condC_join (fun E' X'=>X'=ext H [⟨59,false,[.int .i64 pos,.int .i64 (op:Int),.slice a0 args.length c0]⟩,⟨100,false,[.bool kn,.bool dn,.int .i64 s.h,.int .i64 s.b,.slice f0 s.fs.length fc]⟩,⟨183,false,frV t⟩]/\E' 2=.pointer (some ⟨b+0,0,none⟩)/\E' 3=.pointer (some ⟨b+1,0,none⟩)/\E' 5=.pointer (some ⟨b+2,0,none⟩)) (fun hdt=>?_) (fun hdf=>?_) ?_
 ·have hpos:0<s.fs.length:=by have:=of_decide_eq_true (hdl.trans hdt); omega
  have hlast:s.fs[s.fs.length-1]?=some t:=by
   rw[<-ht,topS,List.getLastD_eq_getLast?,List.getLast?_eq_getElem?,zA4 (by omega)]
   rfl
  obtain⟨n,off,sp,c,e,o,M,e1,n1,r1,ia,ld⟩:=fr_one hf hlast
  have e3:=ef.symm.trans e1
  simp only[Value.slice.injEq]at e3
  obtain⟨rfl,-,rfl⟩:=e3
  rw[e1]at ia
  rw[hb]at n1
  have hw:IntKind.i64.wrap ((s.fs.length:Int)-1)=((s.fs.length-1:Nat):Int):=(wrap_sm (by omega) (by omega)).trans (by omega)
  simp only[hb,hbase,hw,ia,n1,r1,ld,frV,qk_old,ruW,putL,Nat.reduceLeDiff,xF,ruU,Nat.reduceLT,Nat.reduceAdd,Nat.reduceEqDiff]
  rw[joinC_normal]
  refine⟨_,rfl,rfl,?_,?_,?_⟩<;>simp only[ruU,Nat.reduceEqDiff]
 ·have hnil:s.fs=[]:=by
   have:=of_decide_eq_false (hdl.trans hdf)
   exact zE5 (by omega)
  have htt:t=⟨-1,0,0⟩:=by rw[<-ht,topS,hnil]; rfl
  simp only[ruW]
  refine joinC_normal.mpr ⟨_,rfl,by rw[htt]; rfl,?_,?_,?_⟩<;>simp only[ruU,Nat.reduceEqDiff]
 ·clear hdl
  rintro E X ⟨hX,g2,g3,g5⟩
  have mX:Mod [] H X:=hX▸Mod.ext hok
  have nX:X.next=b+3:=by rw[hX,ext_next,hb]; rfl
  have k0:bk X (b+0)=some ⟨59,false,[.int .i64 pos,.int .i64 (op:Int),.slice a0 args.length c0]⟩:=by rw[hX,bk_at hb (by simp)]; rfl
  have k1:bk X (b+1)=some ⟨100,false,[.bool kn,.bool dn,.int .i64 s.h,.int .i64 s.b,.slice f0 s.fs.length fc]⟩:=by rw[hX,bk_at hb (by simp)]; rfl
  have k2:bk X (b+2)=some ⟨183,false,[.int .i64 t.kind,.int .i64 t.height,.int .i64 t.bound]⟩:=by rw[hX,bk_at hb (by simp)]; rfl
  clear hX
  have l0:b+0<b+3:=by omega
  have l1:b+1<b+3:=by omega
  have l2:b+2<b+3:=by omega
  have haX:=ha.mod0 mX
  rw[e0]at haX
  have htb:-1000000000<=t.height/\t.height<=1000000000:=by
   by_cases hn:s.fs=[]
   ·have htt:t=⟨-1,0,0⟩:=by rw[<-ht,topS,hn]; rfl
    rw[htt]
    decide
   ·refine hfh t ?_
    rw[<-ht,topS,List.getLastD_eq_getLast?,List.getLast?_eq_some_getLast hn]
    exact List.getLast_mem hn
  have hwt:IntKind.i64.wrap (t.height+1)=t.height+1:=wrap_sm (by omega) (by omega)
  rw[show X=ext X [] from rfl]
  unfold disR
  rw[ht]
  by_cases c8:op=8
  ·subst c8
   obtain⟨hl,hx0,hx1⟩:=h8 rfl
   obtain⟨n,off,sp,c,e,o,M,e2,n1,r1,m1⟩:=haX.one hl
   have e3:=e2
   simp only[Value.slice.injEq]at e3
   obtain⟨rfl,-,rfl⟩:=e3
   rw[iv_get,zA4 hl,zA6]at m1
   have hg:args.getD 0 0=args[0]:=by rw[zA9,zA4 hl]; rfl
   have i1:aIndexAddr Tryz.prog 35 (.slice (some ⟨n,off,sp⟩) args.length c0) (.int .i64 0)=some (.pointer (some ⟨n,off+0,none⟩)):=ia_of (i:=0) u35 s3 hl
   rw[nX]at n1
   rw[hg]at hx0 hx1
   have hw:IntKind.i64.wrap (s.b-args[0])=s.b-args[0]:=wrap_sm (by omega) (by omega)
   simp only[zB4]at k0
   simp only[zB4,g2,nX,k0,l0,hT,qk_old,ruW,xF,ruU,Nat.reduceLT,Nat.reduceAdd,Nat.reduceEqDiff]
   refine w_drawB [] [] (by kernel_rfl) (by kernel_rfl) rfl fun ops anc hA hG=>?_
   simp only[g2,g3,g5,nX,k0,k1,k2,l0,l1,l2,i1,n1,r1,m1,hw,qk_old,Tryz.results107,ruD,ruW,xF,ruU,Nat.reduceLT,Nat.reduceAdd,Nat.reduceEqDiff]
   rw[hg]
   exact Ax.Fin.mod rfl mX rfl
  rw[if_neg c8]
  have flip:∀ {x y:Int} {p:Bool},decide (¬x=y)=p->decide (x=y)=!p:=fun {x y p} h=>by
   rw[<-h]
   by_cases e:x=y<;>simp[e]
  obtain⟨p4,q4⟩:∃ p,decide (¬s.h=t.height+1)=p:=⟨_,rfl⟩
  obtain⟨p5,q5⟩:∃ p,decide (¬s.b=t.bound)=p:=⟨_,rfl⟩
  by_cases c19:op=19
  ·subst c19
   rw[if_pos rfl]
   obtain⟨p1,q1⟩:∃ p,decide (¬t.kind=16)=p:=⟨_,rfl⟩
   obtain⟨p2,q2⟩:∃ p,decide (¬t.kind=17)=p:=⟨_,rfl⟩
   obtain⟨p3,q3⟩:∃ p,decide (¬t.kind=18)=p:=⟨_,rfl⟩
   simp only[flip q1,flip q2,flip q3,flip q4,flip q5]
   simp only[zB4]at k0
   cases p1<;>cases p2<;>cases p3<;>cases p4<;>cases p5
   all_goals
    simp only[zB4,Int.reduceEq,g2,g3,g5,nX,k0,k1,k2,l0,l1,l2,hT,hF,hwt,q1,q2,q3,q4,q5,qk_old,Tryz.results107,ruW,xF,ruU,Nat.reduceLT,Nat.reduceAdd,Nat.reduceEqDiff]
    exact Ax.Fin.mod rfl mX rfl
  rw[if_neg c19]
  by_cases c20:op=20
  ·subst c20
   rw[if_pos rfl]
   obtain⟨p1,q1⟩:∃ p,decide (¬t.kind=19)=p:=⟨_,rfl⟩
   simp only[flip q1,flip q4,flip q5]
   simp only[zB4]at k0
   cases p1<;>cases p4<;>cases p5
   all_goals
    simp only[zB4,Int.reduceEq,g2,g3,g5,nX,k0,k1,k2,l0,l1,l2,hT,hF,hwt,q1,q4,q5,qk_old,Tryz.results107,ruW,xF,ruU,Nat.reduceLT,Nat.reduceAdd,Nat.reduceEqDiff]
    exact Ax.Fin.mod rfl mX rfl
  rw[if_neg c20]
  by_cases c15:op=15
  ·subst c15
   rw[if_pos rfl]
   obtain⟨p1,q1⟩:∃ p,decide ((0:Int)<(s.fs.length:Int))=p:=⟨_,rfl⟩
   obtain⟨p2,q2⟩:∃ p,decide ((0:Int)<s.b)=p:=⟨_,rfl⟩
   have e1:decide (s.fs≠[])=p1:=by
    rw[<-q1]
    cases s.fs with
    |nil=>rfl
    |cons a r=>simp
   rw[e1,q2]
   simp only[zB4]at k0
   cases p1<;>cases p2
   all_goals
    simp only[zB4,Int.reduceEq,g2,g3,nX,k0,k1,l0,l1,hT,hF,q1,q2,qk_old,Tryz.results107,ruW,xF,ruU,Nat.reduceLT,Nat.reduceAdd,Nat.reduceEqDiff]
    exact Ax.Fin.mod rfl mX rfl
  rw[if_neg c15]
  have hcs:op=0\/op=1\/op=2\/op=3\/op=4\/op=5\/op=6\/op=7\/op=9\/op=10\/op=11\/op=12\/op=13\/op=14\/op=16\/op=17\/op=18\/op=21\/op=22\/op=23\/op=24\/op=25\/op=26\/op=27:=by omega
  rcases hcs with rfl|rfl|rfl|rfl|rfl|rfl|rfl|rfl|rfl|rfl|rfl|rfl|rfl|rfl|rfl|rfl|rfl|rfl|rfl|rfl|rfl|rfl|rfl|rfl
  all_goals
   simp only[zB4]at k0
   simp only[zB4,Int.reduceEq,g2,nX,k0,l0,hF,qk_old,Tryz.results107,ruW,xF,ruU,Nat.reduceLT,Nat.reduceAdd,Nat.reduceEqDiff]
   exact Ax.Fin.mod rfl mX rfl
set_option maxRecDepth 100000
theorem fl183:flat Tryz.prog 10000 183=some [3,3,3]:=by kernel_rfl
theorem ag183:aggT Tryz.prog 183=some true:=by kernel_rfl
theorem gd183:Tryz.prog.eqGuardType Tryz.prog.depth 183=false:=by kernel_rfl
theorem ff183 (f:Fr):fits Tryz.prog [3,3,3] (frV f)=true:=by
 obtain⟨a,b,c⟩:=f
 kernel_rfl
theorem fr_neq (f g:Fr):eqOp .neq (eqL (frV f) (frV g))=some (.bool (!decide (f=g))):=by
 obtain⟨a,b,c⟩:=f
 obtain⟨a',b',c'⟩:=g
 by_cases h1:a=a'<;>by_cases h2:b=b'<;>by_cases h3:c=c'<;>simp[eqL,eqOp,eq1,frV,h1,h2,h3]
theorem same133_c (H:AHeap) (k1 d1 k2 d2:Bool) (s t:St) (fv gv:Value) (hf:RdAt H 3 fv (frC s.fs) s.fs.length) (hg:RdAt H 3 gv (frC t.fs) t.fs.length) (hl:s.fs.length<=1000000) :
  Pure 133 [stV k1 d1 s fv,stV k2 d2 t gv] H (.bool (decide (s=t))):=by
 obtain⟨b,hb⟩:=Go.Ax.exq H.next
 obtain⟨f0,fc,ef⟩:=hf.sl
 obtain⟨g0,gc,eg⟩:=hg.sl
 refine callS_fn mixed Tryz.func133 rfl Tryz.ntmps133 (zB2 rfl) fun wf hsc=>?_
 have hok:=wf.base
 have hbase:H.base<=b:=hb▸hok
 rw[scbL_iff]at hsc
 have hsc0:=sc_st (hsc _ (zB6 ..))
 have hsc1:=sc_st (hsc _ (zB8 _ (zB6 ..)))
 rw[hb,ef]at hsc0
 rw[hb,eg]at hsc1
 have hsc2:=scb_mono (show b<=b+1 by omega) _ hsc1
 obtain⟨p1,q1⟩:∃ p,decide (¬s.h=t.h)=p:=⟨_,rfl⟩
 obtain⟨p2,q2⟩:∃ p,decide (¬s.b=t.b)=p:=⟨_,rfl⟩
 obtain⟨p3,q3⟩:∃ p,decide (¬(s.fs.length:Int)=(t.fs.length:Int))=p:=⟨_,rfl⟩
 have hbad:p1=true\/p2=true\/p3=true->decide (s=t)=false:=fun h=>decide_eq_false fun e=>by
  subst e
  rcases h with h|h|h
  ·rw[h]at q1; exact of_decide_eq_true q1 rfl
  ·rw[h]at q2; exact of_decide_eq_true q2 rfl
  ·rw[h]at q3; exact of_decide_eq_true q3 rfl
 rw[ef,eg]
 unfold stV
 by_cases hor:p1=true\/p2=true\/p3=true
 ·rw[hbad hor]
  clear hbad
  cases p1<;>cases p2<;>cases p3
  all_goals first
   |(exfalso; simp at hor; done)
   | (simp only [hb, hsc0, hsc2, q1, q2, q3, Tryz.results133, ruW, xF, ruU, entryE, Nat.reduceLT, Nat.reduceAdd, Nat.reduceEqDiff]
      exact Fin.pureE rfl rfl)
 have z1:p1=false:=by cases p1<;>simp_all
 have z2:p2=false:=by cases p2<;>simp_all
 have z3:p3=false:=by cases p3<;>simp_all
 subst z1 z2 z3
 have w1:=of_decide_eq_false q1
 have w2:=of_decide_eq_false q2
 have w3:s.fs.length=t.fs.length:=by have:=of_decide_eq_false q3; omega
 simp only[hb,hsc0,hsc2,q1,q2,q3,ruW,xF,ruU,entryE,Nat.reduceLT,Nat.reduceAdd,Nat.reduceEqDiff]
 refine w_env fun E hE=>?_
 have g2:E 2=.pointer (some ⟨b+0,0,none⟩):=by rw[hE]; rfl
 have g3:E 3=.pointer (some ⟨b+1,0,none⟩):=by rw[hE]; rfl
 have g5:E 5=.int .i64 ((0:Nat):Int):=by rw[hE]; rfl
 clear hE
 generalize hX:ext H _=X
 have mX:Mod [] H X:=hX▸Mod.ext hok
 have nX:X.next=b+2:=by rw[<-hX,ext_next,hb]; rfl
 have c0:bk X (b+0)=some ⟨100,false,[.bool k1,.bool d1,.int .i64 s.h,.int .i64 s.b,.slice f0 s.fs.length fc]⟩:=by rw[<-hX,bk_at hb (by simp)]; rfl
 have c1:bk X (b+1)=some ⟨100,false,[.bool k2,.bool d2,.int .i64 t.h,.int .i64 t.b,.slice g0 t.fs.length gc]⟩:=by rw[<-hX,bk_at hb (by simp)]; rfl
 clear hX
 have l0:b+0<b+2:=by omega
 have l1:b+1<b+2:=by omega
 have hfX:=hf.mod0 mX
 have hgX:=hg.mod0 mX
 refine w_loop (fun (j:Nat) E' H'=>H'=ext X []/\j<=s.fs.length/\s.fs.take j=t.fs.take j/\E' 2=.pointer (some ⟨b+0,0,none⟩)/\E' 3=.pointer (some ⟨b+1,0,none⟩)/\E' 5=.int .i64 (j:Int)) (fun j=>s.fs.length-j) 0 ⟨rfl,zB5 _,rfl,g2,g3,g5⟩ ?_
 clear g2 g3 g5 E
 rintro j E H' ⟨hH,hj,htk,g2,g3,g5⟩
 rw[hH]
 by_cases hje:j=s.fs.length
 ·have hdj:decide ((j:Int)<(s.fs.length:Int))=false:=decide_eq_false (by omega)
  simp only[g2,g5,nX,c0,l0,hdj,qk_old,Tryz.results133,ruW,xF,ruU,Nat.reduceLT,Nat.reduceAdd,Nat.reduceEqDiff]
  have:decide (s=t)=true:=by
   rw[zE0 (by omega),zE0 (by omega)]at htk
   obtain⟨h,b',fs⟩:=s
   obtain⟨h',b'',fs'⟩:=t
   simp only at w1 w2 htk
   refine decide_eq_true ?_
   rw[htk,show h=h' by omega,show b'=b'' by omega]
  rw[this]
  exact Ax.Fin.mod rfl mX rfl
 ·have hjl:j<s.fs.length:=by omega
  have hdj:decide ((j:Int)<(s.fs.length:Int))=true:=decide_eq_true (by omega)
  obtain⟨f,hfj⟩:∃ f,s.fs[j]?=some f:=⟨_,zA4 hjl⟩
  obtain⟨g,hgj⟩:∃ g,t.fs[j]?=some g:=⟨_,zA4 (by omega)⟩
  obtain⟨n,off,sp,c,e,o,M,e1,n1,r1,ia,ld⟩:=fr_one hfX hfj
  obtain⟨n',off',sp',c',e',o',M',e1',n1',r1',ia',ld'⟩:=fr_one hgX hgj
  have x1:=ef.symm.trans e1
  have x2:=eg.symm.trans e1'
  have c0':=c0
  have c1':=c1
  rw[x1]at c0'
  rw[x2]at c1'
  rw[e1]at ia
  rw[e1']at ia'
  rw[nX]at n1 n1'
  have hw:IntKind.i64.wrap ((j:Int)+1)=((j+1:Nat):Int):=wrap_succ (by omega)
  simp only[g2,g5,nX,c0',l0,hdj,qk_old,ruW,xF,ruU,Nat.reduceLT,Nat.reduceAdd,Nat.reduceEqDiff]
  refine w_drawB [] [] (by kernel_rfl) (by kernel_rfl) rfl fun ops anc hA hG=>?_
  simp only[g2,g3,g5,nX,c0',c1',l0,l1,ia,ia',n1,n1',r1,r1',ld,ld',qk_old,ruD,ruW,xF,ruU,Nat.reduceLT,Nat.reduceAdd,Nat.reduceEqDiff]
  refine wd_eqS fl183 ag183 gd183 (fr_neq f g) rfl rfl (by decide) rfl rfl (ff183 _) (ff183 _) ?_
  by_cases hfg:f=g
  ·rw[decide_eq_true hfg]
   simp only[g5,hw,zF5,ruD,ruW,ruU,Nat.reduceLT,Nat.reduceAdd,Nat.reduceEqDiff]
   refine loopC_next ⟨j+1,by omega,rfl,by omega,?_,?_,?_,?_⟩
   ·rw[List.take_add_one,List.take_add_one,htk,hfj,hgj,hfg]
   all_goals simp only[g2,g3,ruU,Nat.reduceEqDiff]
  ·rw[decide_eq_false hfg]
   simp only[Bool.not_false,Tryz.results133,ruD,ruW,ruU,Nat.reduceLT,Nat.reduceAdd]
   have:decide (s=t)=false:=decide_eq_false fun e=>hfg (by
    rw[e,hgj]at hfj
    exact (Option.some.inj hfj).symm)
   rw[this]
   exact Ax.Fin.mod rfl mX rfl
set_option maxRecDepth 100000
def entR (least most:Int):Int:=if most<0 then least+1 else most
def headR (least most depth cn:Int):Bool :=
 decide (least<0)||decide (255<least)||(decide (¬most=-1)&&(decide (most<least)||decide (255<most)))||decide (depth<0)||decide (1000<depth)||decide (65536<cn)
theorem entry79_c (H:AHeap) (least most depth:Int) (ba ca:Option Addr) (bn bc cn cc:Nat) (h:0<=least/\least<=255):Pure 79 [cdV least most depth (.slice ba bn bc) (.slice ca cn cc)] H (.int .i64 (entR least most)):=by
 obtain⟨b,hb⟩:=Go.Ax.exq H.next
 refine callS_fn mixed Tryz.func79 rfl Tryz.ntmps79 (zB2 rfl) fun wf hsc=>?_
 have hok:=wf.base
 have hbase:H.base<=b:=hb▸hok
 rw[scbL_iff]at hsc
 have s1:=sc_cd (hsc _ (zB6 ..))
 rw[hb]at s1
 have s11:=s1.1
 have s12:=s1.2
 have hw:IntKind.i64.wrap (least+1)=least+1:=wrap_sm (by omega) (by omega)
 obtain⟨p,q⟩:=Go.Ax.exq (decide (most<0))
 unfold cdV
 cases p with
 |true =>
  rw[show entR least most=least+1 from if_pos (of_decide_eq_true q)]
  simp only[hb,s11,s12,q,hw,Tryz.results79,ruW,xF,ruU,entryE,Nat.reduceLT,Nat.reduceAdd,Nat.reduceEqDiff]
  exact Fin.pureE rfl rfl
 |false =>
  rw[show entR least most=most from if_neg (of_decide_eq_false q)]
  simp only[hb,s11,s12,q,Tryz.results79,ruW,xF,ruU,entryE,Nat.reduceLT,Nat.reduceAdd,Nat.reduceEqDiff]
  exact Fin.pureE rfl rfl
theorem head77_c (H:AHeap) (least most depth:Int) (ba ca:Option Addr) (bn bc cn cc:Nat):Pure 77 [cdV least most depth (.slice ba bn bc) (.slice ca cn cc)] H (fltV (if headR least most depth cn=true then 3 else 0) 0):=by
 obtain⟨b,hb⟩:=Go.Ax.exq H.next
 refine callS_fn mixed Tryz.func77 rfl Tryz.ntmps77 (zB2 rfl) fun wf hsc=>?_
 have hok:=wf.base
 have hbase:H.base<=b:=hb▸hok
 rw[scbL_iff]at hsc
 have s1:=sc_cd (hsc _ (zB6 ..))
 rw[hb]at s1
 have s11:=s1.1
 have s12:=s1.2
 obtain⟨p1,q1⟩:∃ p,decide (least<0)=p:=⟨_,rfl⟩
 obtain⟨p2,q2⟩:∃ p,decide (255<least)=p:=⟨_,rfl⟩
 obtain⟨p3,q3⟩:∃ p,decide (¬most=-1)=p:=⟨_,rfl⟩
 obtain⟨p4,q4⟩:∃ p,decide (most<least)=p:=⟨_,rfl⟩
 obtain⟨p5,q5⟩:∃ p,decide (255<most)=p:=⟨_,rfl⟩
 obtain⟨p6,q6⟩:∃ p,decide (depth<0)=p:=⟨_,rfl⟩
 obtain⟨p7,q7⟩:∃ p,decide (1000<depth)=p:=⟨_,rfl⟩
 obtain⟨p8,q8⟩:∃ p,decide ((65536:Int)<(cn:Int))=p:=⟨_,rfl⟩
 have hh:headR least most depth cn=(p1||p2||(p3&&(p4||p5))||p6||p7||p8):=by rw[headR,q1,q2,q3,q4,q5,q6,q7,q8]
 rw[hh]
 unfold cdV
 cases p1 with
 |true =>
  simp only[hb,hbase,s11,s12,q1,Tryz.results77,ruW,putL,Nat.reduceLeDiff,xF,ruU,entryE,Nat.reduceLT,Nat.reduceAdd,Nat.reduceEqDiff]
  exact Fin.pureE rfl rfl
 |false =>
  cases p2 with
  |true =>
   simp only[hb,hbase,s11,s12,q1,q2,Tryz.results77,ruW,putL,Nat.reduceLeDiff,xF,ruU,entryE,Nat.reduceLT,Nat.reduceAdd,Nat.reduceEqDiff]
   exact Fin.pureE rfl rfl
  |false =>
   cases p3 with
   |true =>
    cases p4 with
    |true =>
     simp only[hb,hbase,s11,s12,q1,q2,q3,q4,Tryz.results77,ruW,putL,Nat.reduceLeDiff,xF,ruU,entryE,Nat.reduceLT,Nat.reduceAdd,Nat.reduceEqDiff]
     exact Fin.pureE rfl rfl
    |false =>
     cases p5 with
     |true =>
      simp only[hb,hbase,s11,s12,q1,q2,q3,q4,q5,Tryz.results77,ruW,putL,Nat.reduceLeDiff,xF,ruU,entryE,Nat.reduceLT,Nat.reduceAdd,Nat.reduceEqDiff]
      exact Fin.pureE rfl rfl
     |false =>
      cases p6 with
      |true =>
       simp only[hb,hbase,s11,s12,q1,q2,q3,q4,q5,q6,Tryz.results77,ruW,putL,Nat.reduceLeDiff,xF,ruU,entryE,Nat.reduceLT,Nat.reduceAdd,Nat.reduceEqDiff]
       exact Fin.pureE rfl rfl
      |false =>
       cases p7 with
       |true =>
        simp only[hb,hbase,s11,s12,q1,q2,q3,q4,q5,q6,q7,Tryz.results77,ruW,putL,Nat.reduceLeDiff,xF,ruU,entryE,Nat.reduceLT,Nat.reduceAdd,Nat.reduceEqDiff]
        exact Fin.pureE rfl rfl
       |false =>
        cases p8 with
        |true =>
         simp only[hb,hbase,s11,s12,q1,q2,q3,q4,q5,q6,q7,q8,Tryz.results77,ruW,putL,Nat.reduceLeDiff,xF,ruU,entryE,Nat.reduceLT,Nat.reduceAdd,Nat.reduceEqDiff]
         exact Fin.pureE rfl rfl
        |false =>
         simp only[hb,hbase,s11,s12,q1,q2,q3,q4,q5,q6,q7,q8,Tryz.results77,ruW,putL,Nat.reduceLeDiff,xF,ruU,entryE,Nat.reduceLT,Nat.reduceAdd,Nat.reduceEqDiff]
         exact Fin.pureE rfl rfl
   |false =>
    cases p6 with
    |true =>
     simp only[hb,hbase,s11,s12,q1,q2,q3,q6,Tryz.results77,ruW,putL,Nat.reduceLeDiff,xF,ruU,entryE,Nat.reduceLT,Nat.reduceAdd,Nat.reduceEqDiff]
     exact Fin.pureE rfl rfl
    |false =>
     cases p7 with
     |true =>
      simp only[hb,hbase,s11,s12,q1,q2,q3,q6,q7,Tryz.results77,ruW,putL,Nat.reduceLeDiff,xF,ruU,entryE,Nat.reduceLT,Nat.reduceAdd,Nat.reduceEqDiff]
      exact Fin.pureE rfl rfl
     |false =>
      cases p8 with
      |true =>
       simp only[hb,hbase,s11,s12,q1,q2,q3,q6,q7,q8,Tryz.results77,ruW,putL,Nat.reduceLeDiff,xF,ruU,entryE,Nat.reduceLT,Nat.reduceAdd,Nat.reduceEqDiff]
       exact Fin.pureE rfl rfl
      |false =>
       simp only[hb,hbase,s11,s12,q1,q2,q3,q6,q7,q8,Tryz.results77,ruW,putL,Nat.reduceLeDiff,xF,ruU,entryE,Nat.reduceLT,Nat.reduceAdd,Nat.reduceEqDiff]
       exact Fin.pureE rfl rfl
set_option maxRecDepth 100000
set_option maxRecDepth 100000
set_option maxRecDepth 100000
theorem OwnI.mod0 {b:Nat} {X G:AHeap} {v:Value} {ls:List Iv} (h:OwnI b X v ls) (m:Mod [] X G):OwnI b G v ls :=
 ⟨h.vs.of m.next fun n hn=>m.get n (h.vs.ne n hn).2 (by simp),fun z hz=>(h.av z hz).of m.next fun n hn=>m.get n ((h.av z hz).ne n hn).2 (by simp),h.lo,h.alo,h.nd⟩
theorem OwnI.snoc {b:Nat} {X G:AHeap} {v nv:Value} {ls:List Iv} {y:Iv} (h:OwnI b X v ls) (m:Mod (idsV v) X G) (vG:VsAt G 59 3 nv (insC (ls++[y])) (ls++[y]).length) (hi:∀ n∈idsV nv,X.next<=n) (hb:b<=X.next) (ha:ArgA X y.2 y.1.args) (hy:∀ n∈idsV y.2,b<=n/\n∉idsV v/\∀ z∈ls,n∉idsV z.2):OwnI b G nv (ls++[y]):=by
 have hall:∀ z∈ls++[y],ArgA X z.2 z.1.args/\∀ n∈idsV z.2,b<=n/\n∉idsV v:=fun z hz=>by
  rcases zB9.1 hz with hz|hz
  ·exact⟨h.av z hz,h.alo z hz⟩
  ·rw[zA5]at hz
   subst hz
   exact⟨ha,fun n hn=>⟨(hy n hn).1,(hy n hn).2.1⟩⟩
 refine⟨vG,fun z hz=>(hall z hz).1.of m.next fun n hn=>m.get n ((hall z hz).1.ne n hn).2 ((hall z hz).2 n hn).2,fun n hn=>by have:=hi n hn; omega,fun z hz n hn=>⟨((hall z hz).2 n hn).1,fun hn'=>by have:=hi n hn'; have:=((hall z hz).1.ne n hn).2; omega⟩,?_⟩
 rw[List.flatMap_append,List.nodup_append]
 obtain⟨aa,ea⟩:=VsAt.len ha
 refine⟨h.nd,?_,fun n hn k hk e=>?_⟩
 ·simp only[zD8,List.flatMap_nil,zD9,ea]
  cases aa<;>simp[idsV]
 ·subst e
  obtain⟨z,hz,hn'⟩:=List.mem_flatMap.1 hn
  simp only[zD8,List.flatMap_nil,zD9]at hk
  exact (hy n hk).2.2 z hz hn'
theorem OwnI.rd {b:Nat} {X:AHeap} {v:Value} {ls:List Iv} (h:OwnI b X v ls):InsRd X v ls:=⟨h.vs.rd,fun z hz=>(h.av z hz).rd,fun z hz=>VsAt.sc (h.av z hz)⟩
set_option maxRecDepth 100000
set_option maxRecDepth 100000
def ownW (b cnt:Nat):Value:=if cnt=0 then .slice (some ⟨b+0,0,some 0⟩) 0 0 else .slice (some ⟨b+1,0,none⟩) cnt cnt
def ownL (e:TypeId) (vs:List Value) (cnt:Nat):List Bl:=if cnt=0 then [⟨e,false,[]⟩] else [⟨e,false,[]⟩,⟨e,true,vs⟩]
theorem own_form (b cnt:Nat):∃ oa,ownW b cnt=.slice oa cnt cnt:=by
 rw[ownW]
 split
 ·rename_i h; subst h; exact⟨_,rfl⟩
 ·exact⟨_,rfl⟩
theorem own_app {H:AHeap} {b by1 cnt:Nat} {st e:TypeId} {z v:Value} {vs:List Value} (hu:Tryz.prog.underlying st=some (.slice e)) (hsz:szOf Tryz.prog e=some 1) (hby:bytesOf Tryz.prog e=some by1) (hz:zeroOf Tryz.prog e=some z) (hzl:z.cells.toList.length=1) (hi:intTy Tryz.prog st=some false)
  (hb:H.next=b) (hok:H.base<=H.next) (h:RdAt H 1 v vs cnt) (hone:vs.all one=true) (hsc:scbL (b+1) vs=true) (hsm:small cnt by1=true) :
  aBuiltin Tryz.prog (ext H [⟨e,false,[]⟩]) .append ⟨[st,st]⟩ [.slice (some ⟨b+0,0,some 0⟩) 0 0,v]=some (ownW b cnt,ext H (ownL e vs cnt)):=by
 obtain⟨h1,⟨rfl,a,c,rfl⟩|⟨h0,n,off,s,c,e',o,M,rfl,hr,hn,hle,hM⟩⟩:=h
 ·have hw:=write_new (H:=H) (L:=[⟨e,false,[]⟩]) (i:=0) (off:=0+0*1) (vs:=[]) hb hok rfl (by simp) rfl rfl
  have hf:firstC (ext H [⟨e,false,[]⟩]) 1 0 (.slice a 0 c)=some []:=by
   cases a<;>simp[firstC]
  simp only[aBuiltin,aAppend,hu,hsz,hby,hz,hi,zA1,zA3,lenV,hf,zC7,zE9,hzl,zC1,hsm,and_self,if_true,aAppend2,zB1]at hw ⊢
  rw[hw]
  rfl
 ·have hr':rk (ext H [⟨e,false,[]⟩]) n=some ⟨e',o,M⟩:=(rk_get (ext_get_old hn)).trans hr
  have hl:((M.drop off).take (cnt*1)).length=cnt*1:=by rw[hM,h1]
  simp only[aBuiltin,aAppend,hu,hsz,hby,hz,hi,zA1,zA3,lenV,first_rk hr' hle,hl,hzl,zC1,hsm,and_self,if_true,aAppend2]
  rw[if_neg (by omega)]
  have hn1:=new_ext (H:=H) (L:=[⟨e,false,[]⟩]) (e:=e) (l:=vs) (o:=true) (by rw[hb]; exact hsc)
  have hf:firstC (ext H [⟨e,false,[]⟩]) 1 0 (.slice (some ⟨b+0,0,some 0⟩) 0 0)=some []:=by simp[firstC]
  simp only[hf,zA3,hM,zC7,zE9,List.all_nil,hone,decide_true,zD3,if_true,exactAp,exactAt,zC5,hn1]
  rw[ownW,ownL,if_neg (by omega),if_neg (by omega),ext_next,hb]
  rfl
theorem own_rd {H:AHeap} {b cnt:Nat} {e:TypeId} {vs:List Value} (hb:H.next=b) (hl:vs.length=cnt*1):RdAt (ext H (ownL e vs cnt)) 1 (ownW b cnt) vs cnt:=by
 by_cases h0:cnt=0
 ·subst h0
  have:vs=[]:=zE5 (by omega)
  subst this
  exact⟨rfl,.inl ⟨rfl,_,_,rfl⟩⟩
 ·rw[ownW,ownL,if_neg h0,if_neg h0]
  refine⟨hl,.inr ⟨by omega,b+1,0,none,cnt,e,true,vs,rfl,rk_of (by rw[bk_at hb (by simp)]; rfl),by rw[ext_next,hb]; simp,by omega,by rw[zF0]; exact zE0 (by omega)⟩⟩
theorem own_sc {H:AHeap} {b cnt:Nat} {e:TypeId} {vs:List Value} (hb:H.next=b):scb (ext H (ownL e vs cnt)).next (ownW b cnt)=true:=by
 rw[ext_next,hb,ownW,ownL]
 split<;>simp[scb]
theorem own_ids {b cnt:Nat}:∀ n∈idsV (ownW b cnt),n=b\/n=b+1:=fun n hn=>by
 rw[ownW]at hn
 split at hn<;>simp[idsV]at hn<;>omega
theorem own22_c (H:AHeap) (u:Value) (l:List UInt8) (hu:RdAt H 1 u (bv l) l.length) (hl:l.length<=1000000):CallS Tryz.prog 22 [u] H (.ok (ownW H.next l.length)) (ext H (ownL 5 (bv l) l.length)):=by
 obtain⟨b,hbn⟩:=Go.Ax.exq H.next
 obtain⟨a0,c0,rfl⟩:=hu.sl
 refine callS_fn mixed Tryz.func22 rfl Tryz.ntmps22 (zB2 rfl) fun wf hsc=>?_
 have hok:=wf.base
 have happ:=own_app (st:=23) (e:=5) (by1:=1) (z:=.int .u8 0) u23 s5 (by kernel_rfl) (by kernel_rfl) rfl (by kernel_rfl) hbn hok hu (by simp[bv,one]) (scbL_bv _ _) (by simp only[small,zA7,zD5]; omega)
 rw[hbn]
 simp only[hbn,happ,Tryz.results22,ruW,xF,ruU,entryE,Nat.reduceLT,Nat.reduceEqDiff]
 exact Ax.Fin.same
theorem scbL_iv (n:Nat) (ws:List Int):scbL n (iv ws)=true:=by
 rw[scbL_iff]
 intro v' hv'
 obtain⟨w',_,rfl⟩:=zE3.1 hv'
 rfl
set_option maxRecDepth 100000
theorem app_ex0 {X:AHeap} {sz by1 n off cnt cap m:Nat} {s:Option Nat} {st e:TypeId} {z:Value} {bl:Bl} {ws:List Value} (hu:Tryz.prog.underlying st=some (.slice e)) (hsz:szOf Tryz.prog e=some sz) (hby:bytesOf Tryz.prog e=some by1) (hz:zeroOf Tryz.prog e=some z) (hzl:z.cells.toList.length=sz) (hi:intTy Tryz.prog st=some false)
  (hr:rk X n=some bl) (hle:off+cnt*sz<=bl.l.length) (hM:(bl.l.drop off).take (cnt*sz)=ws) (h0:0<cnt) (hone:ws.all one=true) (hsc:scbL X.next ws=true) (hsm:small cnt by1=true) :
  aBuiltin Tryz.prog X .append ⟨[st,st]⟩ [.slice (some ⟨m,0,some 0⟩) 0 0,.slice (some ⟨n,off,s⟩) cnt cap]=some (.slice (some ⟨X.next,0,none⟩) cnt cnt,ext X [⟨e,true,ws⟩]):=by
 have hl:((bl.l.drop off).take (cnt*sz)).length=cnt*sz:=by rw[zF3,zF8]; omega
 simp only[aBuiltin,aAppend,hu,hsz,hby,hz,hi,zA1,zA3,lenV,first_rk hr hle,hl,hzl,zC1,hsm,and_self,if_true,aAppend2]
 rw[if_neg (by omega)]
 have hn1:=new_ext (H:=X) (L:=[]) (e:=e) (l:=ws) (o:=true) (by simpa using hsc)
 rw[ext_nil]at hn1
 have hf:firstC X sz 0 (.slice (some ⟨m,0,some 0⟩) 0 0)=some []:=by simp[firstC]
 simp only[hf,zA3,hM,zC7,zE9,List.all_nil,hone,decide_true,zD3,if_true,exactAp,exactAt,zC5,hn1]
theorem frC_append (a b:List Fr):frC (a++b)=frC a++frC b:=by simp[frC]
theorem frC_one:∀ fs:List Fr,(frC fs).all one=true
 |[]=>rfl
 |f::r=>by
  have h:=frC_one r
  simp only[frC]at h
  simp only[frC,zD8,List.all_append,h,Bool.and_true]
  rfl
theorem frC_sc (N:Nat):∀ fs:List Fr,scbL N (frC fs)=true
 |[]=>rfl
 |f::r=>by
  have h:=frC_sc N r
  exact scbL_append (by rfl) h
theorem by183:bytesOf Tryz.prog 183=some 24:=by kernel_rfl
theorem z183:zeroOf Tryz.prog 183=some (.agg #[.int .i64 0,.int .i64 0,.int .i64 0]):=by kernel_rfl
theorem i98:intTy Tryz.prog 98=some false:=by kernel_rfl
theorem fr_app {X:AHeap} {v:Value} {fs:List Fr} {f:Fr} {x:Nat} (h:VsAt X 183 3 v (frC fs) fs.length) (hx:X.next=x) (hb:X.base<=X.next) (hlen:fs.length<=1000000) :
  ∃ G,aBuiltin Tryz.prog (ext X [⟨183,false,frV f⟩]) .append ⟨[98,98]⟩ [v,.slice (some ⟨x+0,0,some 0⟩) 1 1]=some (.slice (some ⟨x+1,0,none⟩) (fs.length+1) (fs.length+1),ext G [])/\VsAt G 183 3 (.slice (some ⟨x+1,0,none⟩) (fs.length+1) (fs.length+1)) (frC (fs++[f])) (fs++[f]).length/\Mod (idsV v) X G/\G.next=x+2:=by
 have h2:VsAt (ext X [⟨183,false,frV f⟩]) 183 3 v (frC fs) fs.length:=h.of (by rw[ext_next]; omega) (fun n hn=>ext_get_old (h.ne n hn).2)
 have hk:bk (ext X [⟨183,false,frV f⟩]) (x+0)=some ⟨183,false,frV f⟩:=by rw[bk_at hx (by simp)]; rfl
 have hsm:small (fs.length+1) 24=true:=by simp only[small,zA7,zD5]; omega
 obtain⟨G,k1,k2,k3,k4,_⟩:=vs_app (P:=Tryz.prog) (H:=ext X [⟨183,false,frV f⟩]) (st:=98) (xt:=98) (e:=183) (sz:=3) (by1:=24) (z:=.agg #[.int .i64 0,.int .i64 0,.int .i64 0]) (n:=x+0) (off:=0) (cnt2:=1) (cap:=1) (s:=some 0) (x:=x+1) (ws:=frV f) (b:=⟨183,false,frV f⟩)
  u98 s183 by183 z183 rfl i98 h2 (rk_of hk) (by simp[frV]) rfl rfl (by decide) hsm (by rw[ext_next,hx]; rfl) (scbL_append (frC_sc _ _) rfl)
 have e1:frC fs++frV f=frC (fs++[f]):=by rw[frC_append]; simp[frC]
 rw[e1]at k2
 exact⟨G,k1,by rw[zC3]; exact k2,(Mod.ext hb).trans (k3 ((Mod.ext (W:=[]) hb).ok hb)),k4⟩
theorem with132_c (H:AHeap) (v:Value) (fs:List Fr) (f:Fr) (hf:RdAt H 3 v (frC fs) fs.length) (hl:fs.length<=1000000) (hok:H.base<=H.next) :
  CallA Tryz.prog 132 [v,.agg ⟨frV f⟩] H (fun out X=>∃ w,out=.ok w/\VsAt X 183 3 w (frC (fs++[f])) (fs++[f]).length/\Mod [] H X/\∀ n∈idsV w,H.next<=n):=by
 obtain⟨b,hb⟩:=Go.Ax.exq H.next
 have hw:frC (fs++[f])=frC fs++frV f:=by rw[frC_append]; simp[frC]
 obtain⟨h1,⟨h0,a,c,rfl⟩|⟨h0,n,off,sp,c,e,o,M,rfl,hr,hn,hle,hM⟩⟩:=id hf
 ·have hnil:fs=[]:=zE5 h0
  subst hnil
  refine callE_fn mixed Tryz.func132 rfl Tryz.ntmps132 (zB2 rfl) ?_
  have hsf:∀ N,scbL N (frV f)=true:=fun N=>rfl
  have hA:aBuiltin Tryz.prog (ext H [⟨183,false,frV f⟩,⟨183,false,[]⟩]) .append ⟨[98,98]⟩ [.slice (some ⟨b+1,0,some 0⟩) 0 0,.slice a 0 c]=some (.slice (some ⟨b+1,0,some 0⟩) 0 0,ext H [⟨183,false,frV f⟩,⟨183,false,[]⟩]):=by
   have hw':=write_new (H:=H) (L:=[⟨183,false,frV f⟩,⟨183,false,[]⟩]) (i:=1) (off:=0+0*3) (vs:=[]) hb hok rfl (by simp) rfl rfl
   have hf':firstC (ext H [⟨183,false,frV f⟩,⟨183,false,[]⟩]) 3 0 (.slice a 0 c)=some []:=by
    cases a<;>simp[firstC]
   have hby:bytesOf Tryz.prog 183=some 24:=by kernel_rfl
   have hz:zeroOf Tryz.prog 183=some (.agg #[.int .i64 0,.int .i64 0,.int .i64 0]):=by kernel_rfl
   have hi:intTy Tryz.prog 98=some false:=by kernel_rfl
   have hsm:small 0 24=true:=by decide
   have hzl:(Value.agg #[.int .i64 0,.int .i64 0,.int .i64 0]).cells.toList.length=3:=rfl
   simp only[aBuiltin,aAppend,u98,s183,hby,hz,hi,zA1,zA3,lenV,hf',zC7,zE9,hzl,zC1,hsm,and_self,if_true,aAppend2,zB1]at hw' ⊢
   rw[hw']
   rfl
  unfold frV at hA hsf ⊢
  have hA2:=app_ex0 (X:=ext H [⟨183,false,[.int .i64 f.kind,.int .i64 f.height,.int .i64 f.bound]⟩,⟨183,false,[]⟩,⟨183,false,[.int .i64 f.kind,.int .i64 f.height,.int .i64 f.bound]⟩]) (st:=98) (n:=b+2) (off:=0) (cnt:=1) (cap:=1) (m:=b+1) (s:=some 0) (bl:=⟨183,false,[.int .i64 f.kind,.int .i64 f.height,.int .i64 f.bound]⟩) (ws:=[.int .i64 f.kind,.int .i64 f.height,.int .i64 f.bound]) u98 s183 by183 z183 rfl i98 (rk_of (by rw[bk_at hb (by simp)]; rfl)) (by simp) rfl (by decide) rfl rfl (by decide)
  have nx:(ext H [⟨183,false,[.int .i64 f.kind,.int .i64 f.height,.int .i64 f.bound]⟩,⟨183,false,[]⟩,⟨183,false,[.int .i64 f.kind,.int .i64 f.height,.int .i64 f.bound]⟩]).next=b+3:=by rw[ext_next,hb]; rfl
  rw[nx,ext_append]at hA2
  simp only[zF2,zC5]at hA2
  simp only[hb,hA,ruW,Nat.reduceLeDiff,xF,ruU,entryE,Nat.reduceLT,Nat.reduceAdd,Nat.reduceEqDiff]
  rw[hA2]
  simp only[Tryz.results132,ruW,ruU,Nat.reduceLT]
  refine⟨_,rfl,?_,?_,fun n hn=>by simp only[idsV,zA5]at hn; omega⟩
  ·refine⟨rfl,rfl,.inr ⟨by decide,b+3,rfl,?_,?_⟩⟩
   ·rw[bk_at hb (by simp)]; rfl
   ·rw[ext_next,hb]; simp
  ·exact Mod.ext hok
 ·refine callE_fn mixed Tryz.func132 rfl Tryz.ntmps132 (zB2 rfl) ?_
  have hsm:small fs.length 24=true:=by simp only[small,zA7,zD5]; omega
  have hA:=app_ex0 (X:=ext H [⟨183,false,frV f⟩,⟨183,false,[]⟩]) (st:=98) (n:=n) (off:=off) (cnt:=fs.length) (cap:=c) (m:=b+1) (s:=sp) (bl:=⟨e,o,M⟩) (ws:=frC fs) u98 s183 by183 z183 rfl i98 ((rk_get (ext_get_old hn)).trans hr) hle hM h0 (frC_one fs) (frC_sc _ _) hsm
  have nx:(ext H [⟨183,false,frV f⟩,⟨183,false,[]⟩]).next=b+2:=by rw[ext_next,hb]; rfl
  rw[nx,ext_append]at hA
  simp only[zF2,zC5]at hA
  obtain⟨X1,hX1⟩:=Go.Ax.exq (ext H [⟨183,false,frV f⟩,⟨183,false,[]⟩,⟨183,true,frC fs⟩])
  have m1:Mod [] H X1:=hX1▸Mod.ext hok
  have n1:X1.next=b+3:=by rw[<-hX1,ext_next,hb]; rfl
  have k0:bk X1 (b+0)=some ⟨183,false,frV f⟩:=by rw[<-hX1,bk_at hb (by simp)]; rfl
  have k2:bk X1 (b+2)=some ⟨183,true,frC fs⟩:=by rw[<-hX1,bk_at hb (by simp)]; rfl
  have ok1:=m1.ok hok
  obtain⟨x,hx⟩:=Go.Ax.exq X1.next
  have hxb:x=b+3:=hx.symm.trans n1
  have v1:VsAt X1 183 3 (.slice (some ⟨b+2,0,none⟩) fs.length fs.length) (frC fs) fs.length:=⟨h1,frC_one fs,.inr ⟨h0,b+2,rfl,k2,by omega⟩⟩
  obtain⟨G,k1,vG,mG,nG⟩:=fr_app (f:=f) v1 hx ok1 hl
  rw[hX1]at hA
  have l0:b+0<x:=by omega
  unfold frV at hA k0 k1 ⊢
  simp only[hb,hA,ruW,xF,ruU,entryE,Nat.reduceLT,Nat.reduceAdd,Nat.reduceEqDiff]
  rw[show X1=ext X1 [] from rfl]
  simp only[hx,l0,k0,k1,Tryz.results132,ruW,Nat.reduceLeDiff,xF,ruU,Nat.reduceLT,Nat.reduceAdd,Nat.reduceEqDiff]
  refine⟨_,rfl,vG,m1.step mG hok fun q hq=>?_,fun q hq=>?_⟩
  ·simp only[idsV,zA5]at hq; exact .inr (by omega)
  ·simp only[idsV,zA5]at hq; omega
set_option maxRecDepth 100000
theorem own_appN {H:AHeap} {b by1 cnt sz:Nat} {st e:TypeId} {z v:Value} {vs:List Value} (hu:Tryz.prog.underlying st=some (.slice e)) (hsz:szOf Tryz.prog e=some sz) (hby:bytesOf Tryz.prog e=some by1) (hz:zeroOf Tryz.prog e=some z) (hzl:z.cells.toList.length=sz) (hi:intTy Tryz.prog st=some false)
  (hb:H.next=b) (hok:H.base<=H.next) (h:RdAt H sz v vs cnt) (hone:vs.all one=true) (hsc:scbL (b+1) vs=true) (hsm:small cnt by1=true) :
  aBuiltin Tryz.prog (ext H [⟨e,false,[]⟩]) .append ⟨[st,st]⟩ [.slice (some ⟨b+0,0,some 0⟩) 0 0,v]=some (ownW b cnt,ext H (ownL e vs cnt)):=by
 obtain⟨h1,⟨rfl,a,c,rfl⟩|⟨h0,n,off,s,c,e',o,M,rfl,hr,hn,hle,hM⟩⟩:=h
 ·have hw:=write_new (H:=H) (L:=[⟨e,false,[]⟩]) (i:=0) (off:=0+0*sz) (vs:=[]) hb hok rfl (by simp) rfl rfl
  have hf:firstC (ext H [⟨e,false,[]⟩]) sz 0 (.slice a 0 c)=some []:=by
   cases a<;>simp[firstC]
  simp only[aBuiltin,aAppend,hu,hsz,hby,hz,hi,zA1,zA3,lenV,hf,zC7,zE9,hzl,zC1,hsm,and_self,if_true,aAppend2,zB1]at hw ⊢
  rw[hw]
  rfl
 ·have hA:=app_ex0 (X:=ext H [⟨e,false,[]⟩]) (st:=st) (n:=n) (off:=off) (cnt:=cnt) (cap:=c) (m:=b+0) (s:=s) (bl:=⟨e',o,M⟩) (ws:=vs) hu hsz hby hz hzl hi ((rk_get (ext_get_old hn)).trans hr) hle hM h0 hone (by rw[ext_next,hb]; exact hsc) hsm
  rw[ext_append,ext_next,hb]at hA
  rw[hA,ownW,ownL,if_neg (by omega),if_neg (by omega)]
  rfl
theorem own_rdN {H:AHeap} {b cnt sz:Nat} {e:TypeId} {vs:List Value} (hb:H.next=b) (hl:vs.length=cnt*sz):RdAt (ext H (ownL e vs cnt)) sz (ownW b cnt) vs cnt:=by
 by_cases h0:cnt=0
 ·subst h0
  have:vs=[]:=zE5 (by omega)
  subst this
  exact⟨by simp,.inl ⟨rfl,_,_,rfl⟩⟩
 ·rw[ownW,ownL,if_neg h0,if_neg h0]
  refine⟨hl,.inr ⟨by omega,b+1,0,none,cnt,e,true,vs,rfl,rk_of (by rw[bk_at hb (by simp)]; rfl),by rw[ext_next,hb]; simp,by omega,by rw[zF0]; exact zE0 (by omega)⟩⟩
def wdC (l:List (Int × Int)):List Value:=l.flatMap fun p=>[.int .i64 p.1,.int .i64 p.2]
theorem wdC_len (l:List (Int × Int)):(wdC l).length=l.length*2:=by
 induction l with
 |nil=>rfl
 |cons x r ih=>simp only[wdC,zD8,zC3,zB0,zC7]at ih ⊢; omega
theorem wdC_one:∀ l:List (Int × Int),(wdC l).all one=true
 |[]=>rfl
 |f::r=>by
  have h:=wdC_one r
  simp only[wdC]at h
  simp only[wdC,zD8,List.all_append,h,Bool.and_true]
  rfl
theorem wdC_sc (N:Nat):∀ l:List (Int × Int),scbL N (wdC l)=true
 |[]=>rfl
 |f::r=>scbL_append (by rfl) (wdC_sc N r)
theorem wdC_at:∀ {l:List (Int × Int)} {i:Nat} {f:Int × Int},l[i]?=some f->((wdC l).drop (i*2)).take 2=[.int .i64 f.1,.int .i64 f.2]
 |y::r,0,f,h=>by
  simp only[zE7,Option.some.injEq]at h
  subst h
  rfl
 |y::r,i+1,f,h=>by
  rw[zE2]at h
  rw[show (i+1)*2=2+i*2 by omega,wdC,zD8,List.drop_append,List.drop_eq_nil_of_le (by simp)]
  simp only[zB0,zC7,zC5]
  rw[show 2+i*2-(0+1+1)=i*2 by omega]
  exact wdC_at h
theorem u31:Tryz.prog.underlying 31=some (.slice 83):=by kernel_rfl
theorem s83:szOf Tryz.prog 83=some 2:=by kernel_rfl
theorem own44_c (H:AHeap) (u:Value) (l:List (Int × Int)) (hu:RdAt H 2 u (wdC l) l.length) (hl:l.length<=1000000):CallS Tryz.prog 44 [u] H (.ok (ownW H.next l.length)) (ext H (ownL 83 (wdC l) l.length)):=by
 obtain⟨b,hbn⟩:=Go.Ax.exq H.next
 obtain⟨a0,c0,rfl⟩:=hu.sl
 refine callS_fn mixed Tryz.func44 rfl Tryz.ntmps44 (zB2 rfl) fun wf hsc=>?_
 have hok:=wf.base
 have happ:=own_appN (st:=31) (e:=83) (by1:=16) (z:=.agg #[.int .i64 0,.int .i64 0]) u31 s83 (by kernel_rfl) (by kernel_rfl) rfl (by kernel_rfl) hbn hok hu (wdC_one l) (wdC_sc _ l) (by simp only[small,zA7,zD5]; omega)
 rw[hbn]
 simp only[hbn,happ,Tryz.results44,ruW,xF,ruU,entryE,Nat.reduceLT,Nat.reduceEqDiff]
 exact Ax.Fin.same
open Go.ChangeShapes Go.WideShapes Go.ChangeAt Go.RowKit Go.Ax
section
variable {K : Type} {enc : TypeId × Value -> K} {w : World} {ρ : Ren} {H : AHeap} {e' : TypeId}
theorem fl83E:flat Tryz.prog 1000 83=some [3,3]:=by kernel_rfl
theorem wd_of:∀ cs,fits Tryz.prog [3,3] cs=true->∃ c:Int × Int,cs=[.int .i64 c.1,.int .i64 c.2]:=fun cs h=>by
 have hl:=fits_length h
 match cs,hl,h with
 |[a,b],_,h =>
  simp only[fits,zA7,Bool.and_true]at h
  obtain⟨h1,h2⟩:=h
  unfold fit1 at h1 h2
  rw[u3C]at h1 h2
  cases a<;>simp at h1
  cases b<;>simp at h2
  subst h1 h2
  exact⟨⟨_,_⟩,rfl⟩
theorem RoF_words (R:RoF Tryz.prog ρ H w 3) (hl:LaidP w e') {fuel:Nat} {v:Value} {x:DataW K × List MemPlace} (h:DataW.trod enc Tryz.prog w 0 (fun _=>true) true fuel 31 [v]=some x) :
  ∃ ρ1 H1 u l,RoF Tryz.prog ρ1 H1 w 3/\Ext H.next ρ ρ1/\Gro H H1/\ρ1.val u=v/\scb H1.next u=true/\RdAt H1 2 u (wdC l) l.length:=by
 have u31:Tryz.prog.underlying 31=some (.slice 83):=by kernel_rfl
 have s83:szOf Tryz.prog 83=some 2:=by kernel_rfl
 rcases DataW.trod_slice u31 h with⟨h1,_⟩|⟨a,len,cap,_,_,_,_,h1,_,_,hlc,_⟩
 ·simp only[List.cons.injEq,and_true]at h1
  subst h1
  exact⟨ρ,H,.slice none 0 0,[],R,Ext.refl _ _,Gro.refl,by rw[Ren.val],rfl,RdAt.nil⟩
 ·simp only[List.cons.injEq,and_true]at h1
  subst h1
  have hs0:=sl_spot (fun _=>rfl) u31 s83 h
  obtain⟨b,off,s⟩:=a
  simp only at hs0
  rcases hs0 with hs0|⟨rfl,rfl⟩
  case inr =>
   obtain⟨ρ1,H1,u,q1,q2,q3,q4,q5,q6⟩:=R.sl (sz:=2) (len:=0) (cap:=0) (b:=b) (off:=off) (sp:=s) (vs:=[]) (.inr ⟨rfl,rfl⟩) (by simp) (.inl rfl) rfl (.inl rfl) (zB1 _)
   exact⟨ρ1,H1,u,[],q1,q2,q3,q4,q5,SlAt.rd q6⟩
  subst hs0
  obtain⟨vs,n,k1,k2,k3⟩:=sl_cells u31 s83 h
  have hch:chunkd Tryz.prog [3,3] vs len:=fun i hi=>by
   obtain⟨y,hy⟩:=k3 i hi
   exact trod_fits n 1000 83 [3,3] _ y fl83E s83 hy
  obtain⟨l,hll,rfl⟩:=chunk_of (ts:=[3,3]) (f:=fun c:Int × Int=>[.int .i64 c.1,.int .i64 c.2]) wd_of len vs k1 hch
  subst hll
  have hfm:l.flatMap (fun c:Int × Int=>[Value.int .i64 c.1,.int .i64 c.2])=wdC l:=rfl
  rw[hfm]at k1 k2 hch
  have haf:∀ v∈wdC l,af v=true:=chunkd_af (ts:=[3,3]) k1 hch
  have hval:∀ i,i<(wdC l).length->ρ.val ((wdC l).getD i undef)=(wdC l).getD i undef:=fun i hi=>map_val_af haf i hi
  have hcell:l.length=0\/∃ c e fz,w.heap[b]?=some (.cells c e fz)/\∀ i,i<(wdC l).length->c[off+i]?=some (ρ.val ((wdC l).getD i undef)):=by
   rcases k2 with h|⟨c,e,fz,h1,h2⟩
   ·exact .inl (by omega)
   ·exact .inr ⟨c,e,fz,h1,fun i hi=>by rw[hval i hi]; exact h2 i (by omega)⟩
  have hne:l.length=0\/b≠3:=by
   rcases Nat.eq_zero_or_pos l.length with h0|h0
   ·exact .inl h0
   ·rcases k2 with h|⟨c,e,fz,h1,h2⟩
    ·exact .inl (by omega)
    ·right
     obtain⟨p,r,rfl⟩:=List.exists_cons_of_ne_nil (l:=l) (fun h=>by rw[h]at h0; simp at h0)
     have h3:=h2 0 (by omega)
     exact ne_pow hl h1 (i:=off+0) (k:=.i64) (n:=p.1) h3 (by decide)
  obtain⟨ρ1,H1,u,q1,q2,q3,q4,q5,q6⟩:=R.sl (cap:=cap) (.inl rfl) k1 hcell (wdC_sc _ _) hne hlc
  exact⟨ρ1,H1,u,l,q1,q2,q3,q4,q5,SlAt.rd q6⟩
theorem RoF_code (R:RoF Tryz.prog ρ H w 3) (hl:LaidP w e') {fuel:Nat} {v:Value} {x:DataW K × List MemPlace} (h:DataW.trod enc Tryz.prog w 0 (fun _=>true) true fuel 33 v.cells.toList=some x) :
  ∃ ρ1 H1 least most depth u p l ws,RoF Tryz.prog ρ1 H1 w 3/\Ext H.next ρ ρ1/\Gro H H1/\ρ1.val (cdV least most depth u p)=v/\scb H1.next u=true/\scb H1.next p=true/\RdAt H1 1 u (bv l) l.length/\RdAt H1 2 p (wdC ws) ws.length:=by
 have hfl:flds Tryz.prog 33=some [(3,0),(3,1),(3,2),(23,3),(31,4)]:=by kernel_rfl
 obtain⟨hcl,n,hs⟩:=trod_flds hfl h
 rw[cellsOf_szOf (n:=5) (by kernel_rfl)]at hcl
 have c3:Tryz.prog.cellsOf 3=1:=cellsOf_szOf s3
 have c23:Tryz.prog.cellsOf 23=1:=cellsOf_szOf (by kernel_rfl)
 have c31:Tryz.prog.cellsOf 31=1:=cellsOf_szOf (by kernel_rfl)
 cases v with
 |agg cs =>
  obtain⟨cs⟩:=cs
  simp only[Value.cells]at hcl hs
  match cs,hcl,hs with
  |[a,b,c,d,f],_,hs =>
   obtain⟨y0,h0⟩:=hs 0 3 0 rfl
   obtain⟨y1,h1⟩:=hs 1 3 1 rfl
   obtain⟨y2,h2⟩:=hs 2 3 2 rfl
   obtain⟨y3,h3⟩:=hs 3 23 3 rfl
   obtain⟨y4,h4⟩:=hs 4 31 4 rfl
   rw[c3]at h0 h1 h2
   rw[c23]at h3
   rw[c31]at h4
   obtain⟨least,e0,_⟩:=DataW.trod_int u3C h0
   obtain⟨most,e1,_⟩:=DataW.trod_int u3C h1
   obtain⟨depth,e2,_⟩:=DataW.trod_int u3C h2
   simp only[List.drop_succ_cons,zF0,List.take_succ_cons,List.take_zero,List.cons.injEq,and_true]at e0 e1 e2 h3 h4
   subst e0 e1 e2
   obtain⟨ρ1,H1,u,l,a1,a2,a3,a4,a5,a6⟩:=RoF_bytes R hl h3
   obtain⟨ρ2,H2,p,ws,b1,b2,b3,b4,b5,b6⟩:=RoF_words a1 hl h4
   refine⟨ρ2,H2,least,most,depth,u,p,l,ws,b1,a2.trans b2 a3.next,a3.trans b3,?_,scb_mono b3.next _ a5,b5,a6.of b3.next fun n hn=>b3.get n (a6.ne n hn).2,b6⟩
   have hu:ρ2.val u=d:=by rw[val_ext b2 u a5,a4]
   unfold cdV
   simp[Ren.val,Ren.valA,Ren.valL,hu,b4]
 |_=>simp[Value.cells]at hcl
end
theorem law_callsE {K:Type} {enc:TypeId × Value->K} {f:FuncId} {W:World} {v1:Value} {d1:DataW K} {p1:List MemPlace} {e:TypeId} (hl:LaidP W e) (post:List Value) (h2:post.all af=true) (h1:DataW.Trod enc Tryz.prog W 0 (fun _=>true) true 33 v1 d1 p1)
  (walk:∀ (least most depth:Int) (u p:Value) (l:List UInt8) (ws:List (Int × Int)) (H:AHeap),H.base<=H.next->RdAt H 1 u (bv l) l.length->RdAt H 2 p (wdC ws) ws.length->scb H.next u=true->scb H.next p=true->CallA Tryz.prog f (cdV least most depth u p::post) H fun out H1=>out=.ok (.bool true)/\Mod [] H H1) :
  Calls Tryz.prog f (v1::post).toArray W (fun e w'=>e=.returned (.bool true)/\RowKit.Below W.heap.size W w'):=by
 obtain⟨N,hN⟩:∃ N,N=Tryz.prog.globals.size:=⟨_,rfl⟩
 have r:Rel Tryz.prog (enR N 0 0) (AHeap.none (N+1)) W:=⟨zB1 _,⟨by rw[<-hN]; exact Nat.le_succ _,fun g hg=>by
   have:g≠N:=by omega
   exact⟨if_neg this,if_neg this⟩⟩,fun m _ hm=>absurd (none_get _ m) hm,fun n o ho=>(by rw[none_get]at ho; cases ho),fun n o ho=>(by rw[none_get]at ho; cases ho)⟩
 have R:RoF Tryz.prog (enR N 0 0) (AHeap.none (N+1)) W 3:=⟨r,rfl,rfl,fun n hn=>absurd (none_get _ n) hn,fun _=>rfl⟩
 obtain⟨f1,hf1⟩:=h1
 obtain⟨ρ1,H1,least,most,depth,u,p,l,ws,a1,a2,a3,a4,su,sp,hu,hp⟩:=RoF_code R hl hf1
 have e1:post.map ρ1.val=post:=map_af ρ1 post (fun x hx=>zD2.1 h2 x hx)
 have s1:scbL H1.next post=true:=scbL_of_af _ (afL_of fun x hx=>zD2.1 h2 x hx)
 have s0:scb H1.next (cdV least most depth u p)=true:=by
  show (true&&(true&&(true&&(scb H1.next u&&(scb H1.next p&&true)))))=true
  simp only[su,sp,zD3]
 have:=rel_calls a1.rel (args:=cdV least most depth u p::post) (by simp only[scbL,s0,s1,zD3]) a1.base a1.dirty (walk least most depth u p l ws H1 (zD0 a1.base) hu hp su sp)
 rw[zB7,e1,a4]at this
 exact this
set_option maxRecDepth 100000
theorem fl83:flat Tryz.prog 10000 83=some [3,3]:=by kernel_rfl
theorem ag83:aggT Tryz.prog 83=some true:=by kernel_rfl
theorem gd83:Tryz.prog.eqGuardType Tryz.prog.depth 83=false:=by kernel_rfl
theorem ff83 (a b:Int):fits Tryz.prog [3,3] [.int .i64 a,.int .i64 b]=true:=by kernel_rfl
theorem wd_one {H:AHeap} {v:Value} {l:List (Int × Int)} (h:RdAt H 2 v (wdC l) l.length) {i:Nat} {f:Int × Int} (hi:l[i]?=some f):∃ n off s c e o M,v=.slice (some ⟨n,off,s⟩) l.length c/\n<H.next/\rk H n=some ⟨e,o,M⟩/\aIndexAddr Tryz.prog 31 v (.int .i64 (i:Int))=some (.pointer (some ⟨n,off+i*2,none⟩))/\ldB Tryz.prog 83 (off+i*2) (some ⟨e,o,M⟩)=some (.agg ⟨[.int .i64 f.1,.int .i64 f.2]⟩):=by
 have hl:=(zF4.1 hi).1
 obtain⟨n,off,s,c,e,o,M,rfl,h2,h3,h4,h5⟩:=h.at_ hl
 rw[wdC_at hi]at h5
 refine⟨n,off,s,c,e,o,M,rfl,h2,h3,ia_of u31 s83 hl,?_⟩
 rw[ld_agg ag83,s83,zA3,if_pos (by omega),h5]
theorem same47_c (H:AHeap) (v w:Value) (l:List (Int × Int)) (ha:RdAt H 2 v (wdC l) l.length) (hb:RdAt H 2 w (wdC l) l.length) (hl:l.length<=1000000):Pure 47 [v,w] H (.bool true):=by
 obtain⟨x,hx⟩:=Go.Ax.exq H.next
 obtain⟨a0,c0,e0⟩:=ha.sl
 obtain⟨a1,c1,e1⟩:=hb.sl
 refine callS_fn mixed Tryz.func47 rfl Tryz.ntmps47 (zB2 rfl) fun wf hsc=>?_
 have hz0:∀ i:Decidable (¬True),@decide (¬True) i=false:=fun i=>by simp
 rw[e0,e1]
 simp only[hz0,ruW,xF,ruU,entryE,Nat.reduceLT,Nat.reduceAdd,Nat.reduceEqDiff]
 rw[<-e0,<-e1]
 refine w_env fun E hE=>?_
 have g0:E 0=v:=by rw[hE,e0]; simp only[ruU,Nat.reduceEqDiff]
 have g1:E 1=w:=by rw[hE,e1]; simp only[ruU,Nat.reduceEqDiff]
 have g5:E 5=.int .i64 ((0:Nat):Int):=by rw[hE]; rfl
 clear hE
 refine w_loop (fun (j:Nat) E' H'=>H'=ext H []/\j<=l.length/\E' 0=v/\E' 1=w/\E' 5=.int .i64 (j:Int)) (fun j=>l.length-j) 0 ⟨rfl,zB5 _,g0,g1,g5⟩ ?_
 clear g0 g1 g5 E
 rintro j E H' ⟨hH,hj,g0,g1,g5⟩
 rw[hH]
 by_cases hje:j=l.length
 ·have hdj:decide ((j:Int)<(l.length:Int))=false:=decide_eq_false (by omega)
  rw[e0]at g0
  simp only[g0,g5,hdj,Tryz.results47,ruW,xF,ruU,Nat.reduceLT,Nat.reduceEqDiff]
  exact Fin.pureE rfl rfl
 ·have hjl:j<l.length:=by omega
  have hdj:decide ((j:Int)<(l.length:Int))=true:=decide_eq_true (by omega)
  obtain⟨f,hf⟩:∃ f,l[j]?=some f:=⟨_,zA4 hjl⟩
  obtain⟨n,off,s,c,e,o,M,k1,n1,r1,i1,m1⟩:=wd_one ha hf
  obtain⟨n',off',s',c',e',o',M',k2,n2,r2,i2,m2⟩:=wd_one hb hf
  rw[hx]at n1 n2
  have hw:IntKind.i64.wrap ((j:Int)+1)=((j+1:Nat):Int):=wrap_succ (by omega)
  rw[k1]at g0 i1
  rw[k2]at g1 i2
  simp only[g0,g5,hdj,ruW,xF,ruU,Nat.reduceLT,Nat.reduceEqDiff]
  refine w_drawB [] [] (by kernel_rfl) (by kernel_rfl) rfl fun ops anc hA hG=>?_
  simp only[g0,g1,g5,hx,i1,i2,n1,n2,r1,r2,m1,m2,qk_old,ruD,ruW,ruU,Nat.reduceLT,Nat.reduceAdd,Nat.reduceEqDiff]
  refine wd_eqS fl83 ag83 gd83 (r:=false) (show eqOp .neq (eqL [.int .i64 f.1,.int .i64 f.2] [.int .i64 f.1,.int .i64 f.2])=some (.bool false) by simp[eqL,eqOp,eq1]) rfl rfl (by decide) rfl rfl (ff83 _ _) (ff83 _ _) ?_
  simp only[g5,hw,ruD,ruW,ruU,Nat.reduceLT,Nat.reduceAdd,Nat.reduceEqDiff]
  refine loopC_next ⟨j+1,by omega,rfl,by omega,?_,?_,?_⟩
  ·rw[k1]; simp only[g0,ruU,Nat.reduceEqDiff]
  ·rw[k2]; simp only[g1,ruU,Nat.reduceEqDiff]
  ·rfl
set_option maxRecDepth 100000
theorem same14_c (H:AHeap) (v w:Value) (a b:List UInt8) (ha:RdAt H 1 v (bv a) a.length) (hb:RdAt H 1 w (bv b) b.length) (hl:a.length<=100000000):Pure 14 [v,w] H (.bool (decide (a=b))):=by
 obtain⟨x,hx⟩:=Go.Ax.exq H.next
 obtain⟨a0,c0,e0⟩:=ha.sl
 obtain⟨a1,c1,e1⟩:=hb.sl
 refine callS_fn mixed Tryz.func14 rfl Tryz.ntmps14 (zB2 rfl) fun wf hsc=>?_
 by_cases hne:a.length=b.length
 ·have hd:decide (¬(a.length:Int)=(b.length:Int))=false:=decide_eq_false (by omega)
  rw[e0,e1]
  simp only[hd,ruW,xF,ruU,entryE,Nat.reduceLT,Nat.reduceAdd,Nat.reduceEqDiff]
  rw[<-e0,<-e1]
  refine w_env fun E hE=>?_
  have g0:E 0=v:=by rw[hE,e0]; simp only[ruU,Nat.reduceEqDiff]
  have g1:E 1=w:=by rw[hE,e1]; simp only[ruU,Nat.reduceEqDiff]
  have g5:E 5=.int .i64 ((0:Nat):Int):=by rw[hE]; rfl
  clear hE
  refine w_loop (fun (j:Nat) E' H'=>H'=ext H []/\j<=a.length/\a.take j=b.take j/\E' 0=v/\E' 1=w/\E' 5=.int .i64 (j:Int)) (fun j=>a.length-j) 0 ⟨rfl,zB5 _,rfl,g0,g1,g5⟩ ?_
  clear g0 g1 g5 E
  rintro j E H' ⟨hH,hj,htk,g0,g1,g5⟩
  rw[hH]
  by_cases hje:j=a.length
  ·have hdj:decide ((j:Int)<(a.length:Int))=false:=decide_eq_false (by omega)
   rw[e0]at g0
   simp only[g0,g5,hdj,Tryz.results14,ruW,xF,ruU,Nat.reduceLT,Nat.reduceEqDiff]
   have:decide (a=b)=true:=by
    rw[zE0 (by omega),zE0 (by omega)]at htk
    exact decide_eq_true htk
   rw[this]
   exact Fin.pureE rfl rfl
  ·have hjl:j<a.length:=by omega
   have hdj:decide ((j:Int)<(a.length:Int))=true:=decide_eq_true (by omega)
   obtain⟨n,off,s,c,e,o,M,k1,n1,r1,m1⟩:=ha.one hjl
   have hjb:j<b.length:=by omega
   obtain⟨n',off',s',c',e',o',M',k2,n2,r2,m2⟩:=hb.one hjb
   rw[bv_get,zA4 hjl,zA6]at m1
   rw[bv_get,zA4 hjb,zA6]at m2
   have i1:=ia_of (P:=Tryz.prog) (k:=.i64) (i:=j) (n:=n) (off:=off) (len:=a.length) (cap:=c) (s:=s) u23 s5 hjl
   have i2:=ia_of (P:=Tryz.prog) (k:=.i64) (i:=j) (n:=n') (off:=off') (len:=b.length) (cap:=c') (s:=s') u23 s5 hjb
   rw[zC4]at i1 i2
   rw[hx]at n1 n2
   have hw:IntKind.i64.wrap ((j:Int)+1)=((j+1:Nat):Int):=wrap_succ (by omega)
   obtain⟨d,hdd⟩:=Go.Ax.exq (decide (¬((a[j].toNat:Nat):Int)=((b[j].toNat:Nat):Int)))
   rw[k1]at g0
   rw[k2]at g1
   simp only[g0,g5,hdj,ruW,xF,ruU,Nat.reduceLT,Nat.reduceEqDiff]
   refine w_drawB [] [] (by kernel_rfl) (by kernel_rfl) rfl fun ops anc hA hG=>?_
   simp only[g0,g1,g5,hx,i1,i2,n1,n2,r1,r2,m1,m2,hdd,qk_old,ruD,ruW,xF,ruU,Nat.reduceLT,Nat.reduceAdd,Nat.reduceEqDiff]
   cases d with
   |true =>
    have:=of_decide_eq_true hdd
    simp only[Tryz.results14,ruW,ruU,Nat.reduceLT]
    have:decide (a=b)=false:=decide_eq_false fun e=>by subst e; exact this rfl
    rw[this]
    exact Fin.pureE rfl rfl
   |false =>
    have hq:=of_decide_eq_false hdd
    have hab:a[j]=b[j]:=UInt8.toNat_inj.1 (by omega)
    simp only[g5,hw,ruW,ruU,Nat.reduceLT,Nat.reduceEqDiff]
    refine loopC_next ⟨j+1,by omega,rfl,by omega,?_,?_,?_,?_⟩
    ·rw[List.take_add_one,List.take_add_one,htk,zA4 hjl,zA4 hjb,hab]
    ·rw[k1]; simp only[g0,ruU,Nat.reduceEqDiff]
    ·rw[k2]; simp only[g1,ruU,Nat.reduceEqDiff]
    ·rfl
 ·have hd:decide (¬(a.length:Int)=(b.length:Int))=true:=decide_eq_true (by omega)
  rw[e0,e1]
  simp only[hd,Tryz.results14,ruW,xF,ruU,entryE,Nat.reduceLT,Nat.reduceAdd,Nat.reduceEqDiff]
  have:decide (a=b)=false:=decide_eq_false fun e=>hne (by rw[e])
  rw[this]
  exact Fin.pureE rfl rfl
set_option maxRecDepth 100000
theorem same20_c (H:AHeap) (least most depth:Int) (u v p q:Value) (l:List UInt8) (w:List (Int × Int)) (hu:RdAt H 1 u (bv l) l.length) (hv:RdAt H 1 v (bv l) l.length) (hp:RdAt H 2 p (wdC w) w.length) (hq:RdAt H 2 q (wdC w) w.length) (hl:l.length<=1000000) (hw:w.length<=1000000) :
  Pure 20 [cdV least most depth u p,cdV least most depth v q] H (.bool true):=by
 obtain⟨b,hb⟩:=Go.Ax.exq H.next
 obtain⟨ua,uc,eu⟩:=hu.sl
 obtain⟨va,vc,ev⟩:=hv.sl
 obtain⟨pa,pc,ep⟩:=hp.sl
 obtain⟨qa,qc,eq⟩:=hq.sl
 refine callS_fn mixed Tryz.func20 rfl Tryz.ntmps20 (zB2 rfl) fun wf hsc=>?_
 have hok:=wf.base
 have hbase:H.base<=b:=hb▸hok
 rw[scbL_iff]at hsc
 have s1:=sc_cd (hsc _ (zB6 ..))
 have s2:=sc_cd (hsc _ (zB8 _ (zB6 ..)))
 rw[hb,eu,ep]at s1
 rw[hb,ev,eq]at s2
 have s11:=s1.1
 have s12:=s1.2
 have s21:=scb_mono (show b<=b+1 by omega) _ s2.1
 have s22:=scb_mono (show b<=b+1 by omega) _ s2.2
 have hT:∀ i:Decidable True,@decide True i=true:=fun i=>by simp
 obtain⟨X,hX⟩:=Go.Ax.exq (ext H [⟨33,false,[.int .i64 least,.int .i64 most,.int .i64 depth,u,p]⟩,⟨33,false,[.int .i64 least,.int .i64 most,.int .i64 depth,v,q]⟩])
 have mX:Mod [] H X:=hX▸Mod.ext hok
 have nX:X.next=b+2:=by rw[<-hX,ext_next,hb]; rfl
 have k0:bk X (b+0)=some ⟨33,false,[.int .i64 least,.int .i64 most,.int .i64 depth,u,p]⟩:=by rw[<-hX,bk_at hb (by simp)]; rfl
 have k1:bk X (b+1)=some ⟨33,false,[.int .i64 least,.int .i64 most,.int .i64 depth,v,q]⟩:=by rw[<-hX,bk_at hb (by simp)]; rfl
 have l0:b+0<b+2:=by omega
 have l1:b+1<b+2:=by omega
 have h14:=same14_c (ext X []) u v l l (hu.mod0 mX) (hv.mod0 mX) (by omega)
 rw[show decide (l=l)=true from decide_eq_true rfl]at h14
 have h47:=same47_c (ext X []) p q w (hp.mod0 mX) (hq.mod0 mX) hw
 unfold cdV
 rw[eu,ep,ev,eq]at hX ⊢
 rw[eu,ep]at k0
 rw[ev,eq]at k1
 rw[eu,ev]at h14
 rw[ep,eq]at h47
 simp only[hb,s11,s12,s21,s22,ruW,xF,ruU,entryE,Nat.reduceLT,Nat.reduceAdd,Nat.reduceEqDiff]
 rw[hX]
 rw[show X=ext X [] from rfl]
 simp only[nX,k0,k1,l0,l1,hT,qk_old,ruW,xF,ruU,Nat.reduceLT,Nat.reduceAdd,Nat.reduceEqDiff]
 refine h14.to ?_
 simp only[nX,k0,k1,l0,l1,qk_old,ruW,xF,ruU,Nat.reduceLT,Nat.reduceAdd,Nat.reduceEqDiff]
 refine h47.to ?_
 simp only[Tryz.results20,ruW,ruU,Nat.reduceLT,Nat.reduceEqDiff]
 exact Ax.Fin.mod rfl mX rfl
end Go.Proofs.YtnigelgcjfhghaaGreatDoor
namespace Go.Ax
theorem rdF_ids {v:Value} {cnt n:Nat} (h:n∈rdF v cnt):n∈idsV v:=by
 unfold rdF at h
 split at h
 ·cases h
 ·exact h
theorem RdAt.modW {H G:AHeap} {sz cnt:Nat} {v:Value} {vs:List Value} {W:List Nat} (h:RdAt H sz v vs cnt) (m:Mod W H G) (hd:∀ n∈rdF v cnt,n∉W):RdAt G sz v vs cnt:=h.of m.next fun n hn=>m.get n (h.ne n hn).2 (hd n hn)
end Go.Ax
namespace Go.Proofs.YtnigelgcjfhghaaGreatDoor
open Go.Ax
set_option maxRecDepth 100000
theorem copy15_c (H:AHeap) (least most depth:Int) (u p:Value) (l:List UInt8) (w:List (Int × Int)) (hu:RdAt H 1 u (bv l) l.length) (hp:RdAt H 2 p (wdC w) w.length) (hl:l.length<=1000000) (hw:w.length<=1000000) (su:scb H.next u=true) (sp:scb H.next p=true) (hok:H.base<=H.next) :
  CallA Tryz.prog 15 [cdV least most depth u p] H (fun out X=>∃ u' p',out=.ok (cdV least most depth u' p')/\RdAt X 1 u' (bv l) l.length/\RdAt X 2 p' (wdC w) w.length/\scb X.next u'=true/\scb X.next p'=true/\Mod [] H X):=by
 obtain⟨b,hb⟩:=Go.Ax.exq H.next
 obtain⟨ua,uc,eu⟩:=hu.sl
 obtain⟨pa,pc,ep⟩:=hp.sl
 refine callE_fn mixed Tryz.func15 rfl Tryz.ntmps15 (zB2 rfl) ?_
 have s1:=su
 have s2:=sp
 rw[hb,eu]at s1
 rw[hb,ep]at s2
 unfold cdV
 rw[eu,ep]
 simp only[hb,s1,s2,ruW,xF,ruU,entryE,Nat.reduceLT,Nat.reduceAdd,Nat.reduceEqDiff]
 generalize hX:ext H _=X
 have mX:Mod [] H X:=hX▸Mod.ext hok
 have nX:X.next=b+2:=by rw[<-hX,ext_next,hb]; rfl
 have k0:bk X (b+0)=some ⟨33,false,[.int .i64 least,.int .i64 most,.int .i64 depth,u,p]⟩:=by rw[<-hX,bk_at hb (by simp),eu,ep]; rfl
 have k1:bk X (b+1)=some ⟨33,false,[.int .i64 0,.int .i64 0,.int .i64 0,.slice none 0 0,.slice none 0 0]⟩:=by rw[<-hX,bk_at hb (by simp)]; rfl
 clear hX
 have okX:=mX.ok hok
 have l0:b+0<b+2:=by omega
 have l1:b+1<b+2:=by omega
 rw[eu,ep]at k0
 have h22:=own22_c X u l (hu.mod0 mX) hl
 rw[eu,nX]at h22
 refine h22.to ?_
 obtain⟨oa,ho⟩:=own_form (b+2) l.length
 have r1:=own_rd (H:=X) (b:=b+2) (cnt:=l.length) (e:=5) (vs:=bv l) nX (by simp[bv])
 have c1:=own_sc (H:=X) (b:=b+2) (cnt:=l.length) (e:=5) (vs:=bv l) nX
 have i1:=own_ids (b:=b+2) (cnt:=l.length)
 rw[ho]at r1 c1 i1 ⊢
 generalize hY:ext X (ownL 5 (bv l) l.length)=Y at r1 c1 ⊢
 have mY:Mod [] X Y:=hY▸Mod.ext okX
 obtain⟨y,hy⟩:=Go.Ax.exq Y.next
 have okY:=mY.ok okX
 have ly:b+2<=y:=by have:=mY.next; omega
 have l1:b+1<y:=by omega
 have l0:b+0<y:=by omega
 have k1Y:=(mY.bk (by omega) (by simp)).trans k1
 have k0Y:=(mY.bk (by omega) (by simp)).trans k0
 rw[hy]at c1
 rw[show Y=ext Y [] from rfl]
 simp only[hy,k0Y,l0,c1,qk_old,ruW,putL,Nat.reduceLeDiff,xF,ruU,Nat.reduceLT,Nat.reduceAdd,Nat.reduceEqDiff]
 generalize hZ:uw Y (b+0) 3 _=Z
 have mZ:Mod [b+0] Y Z:=hZ▸Mod.uw (by simp)
 have nZ:Z.next=y:=by rw[<-hZ,uw_next,hy]
 have k0Z:bk Z (b+0)=some ⟨33,false,[.int .i64 least,.int .i64 most,.int .i64 depth,.slice oa l.length l.length,p]⟩:=by rw[<-hZ,bk_uw_eq,k0Y,ep]; rfl
 have k1Z:=(mZ.bk (n:=b+1) (by omega) (by simp)).trans k1Y
 clear hZ
 have okZ:=mZ.ok okY
 have l0':b+0<Z.next:=by omega
 have rp:RdAt Z 2 p (wdC w) w.length:=((hp.mod0 mX).mod0 mY).of mZ.next fun n hn=>mZ.get n (by have:=(hp.ne n (by exact hn)).2; omega) (by have:=(hp.ne n (by exact hn)).2; simp; omega)
 have ru:RdAt Z 1 (.slice oa l.length l.length) (bv l) l.length:=r1.of mZ.next fun n hn=>mZ.get n (r1.ne n hn).2 (by
  have:n∈idsV (.slice oa l.length l.length):=by
   unfold rdF at hn
   split at hn
   ·cases hn
   ·exact hn
  have:=i1 n this
  simp; omega)
 have h44:=own44_c Z p w rp hw
 rw[ep,nZ]at h44
 refine h44.to ?_
 obtain⟨ob,ho2⟩:=own_form y w.length
 have r2:=own_rdN (H:=Z) (b:=y) (cnt:=w.length) (sz:=2) (e:=83) (vs:=wdC w) nZ (wdC_len w)
 have c2:=own_sc (H:=Z) (b:=y) (cnt:=w.length) (e:=83) (vs:=wdC w) nZ
 have i2:=own_ids (b:=y) (cnt:=w.length)
 rw[ho2]at r2 c2 i2 ⊢
 generalize hT:ext Z (ownL 83 (wdC w) w.length)=T at r2 c2 ⊢
 have mT:Mod [] Z T:=hT▸Mod.ext okZ
 clear hT
 obtain⟨t,ht⟩:=Go.Ax.exq T.next
 have okT:=mT.ok okZ
 have lt:y<=t:=by have:=mT.next; omega
 have k1T:=(mT.bk (by omega) (by simp)).trans k1Z
 have k0T:=(mT.bk (by omega) (by simp)).trans k0Z
 have l1t:b+1<t:=by omega
 have l0t:b+0<t:=by omega
 have c1t:scb t (.slice oa l.length l.length)=true:=scb_mono lt _ c1
 rw[ht]at c2
 rw[ep]at k0T
 rw[show T=ext T [] from rfl]
 simp only[ht,k1T,k0T,l1t,l0t,c1t,c2,uw_next,qk_old,Tryz.results15,ruW,putL,Nat.reduceLeDiff,xF,ruU,Nat.reduceLT,Nat.reduceAdd,Nat.reduceEqDiff]
 generalize hF:uw (uw T (b+0) 4 _) (b+1) 0 _=F
 have mF:Mod [b+0,b+1] T F:=hF▸(Mod.uw (by simp)).trans (Mod.uw (by simp))
 clear hF
 rw[ext_nil]
 have mH:Mod [] H F:=(((mX.trans mY).step mZ hok fun n hn=>.inr (by simp only[zA5]at hn; omega)).trans mT).step mF hok fun n hn=>.inr (by simp only[zA8,zC0,or_false]at hn; omega)
 refine⟨_,_,rfl,(ru.mod0 mT).modW mF fun n hn=>?_,r2.modW mF fun n hn=>?_,c1t,c2,mH⟩
 ·have:=i1 n (rdF_ids hn)
  simp only[zA8,zC0,or_false]; omega
 ·have:=i2 n (rdF_ids hn)
  simp only[zA8,zC0,or_false]; omega
set_option maxRecDepth 100000
def FrAt (e:TypeId) (H:AHeap) (v:Value) (fs:List Fr):Prop :=
 (fs=[]/\v=.slice none 0 0)\/∃ n c M,v=.slice (some ⟨n,0,none⟩) fs.length c/\fs.length<=c/\bk H n=some ⟨e,true,M⟩/\n<H.next/\fs.length*3<=M.length/\M.take (fs.length*3)=frC fs
section
variable {e : TypeId} {H G : AHeap} {v : Value} {fs : List Fr}
theorem FrAt.nil:FrAt e H (.slice none 0 0) []:=.inl ⟨rfl,rfl⟩
theorem FrAt.vs (h:VsAt H e 3 v (frC fs) fs.length):FrAt e H v fs:=by
 obtain⟨h1,h2,⟨h0,rfl⟩|⟨h0,n,rfl,hb,hlt⟩⟩:=h
 ·exact .inl ⟨zE5 h0,rfl⟩
 ·exact .inr ⟨n,_,_,rfl,zB1 _,hb,hlt,by omega,by rw[zE0 (by omega)]⟩
theorem FrAt.rd (h:FrAt e H v fs):RdAt H 3 v (frC fs) fs.length:=by
 obtain⟨rfl,rfl⟩|⟨n,c,M,rfl,hc,hb,hn,hl,ht⟩:=h
 ·exact RdAt.nil
 ·by_cases h0:fs.length=0
  ·exact⟨frC_len fs,.inl ⟨h0,some ⟨n,0,none⟩,c,by rw[h0]⟩⟩
  ·exact⟨frC_len fs,.inr ⟨by omega,n,0,none,c,e,true,M,rfl,rk_of hb,hn,by omega,by rw[zF0]; exact ht⟩⟩
theorem FrAt.of (h:FrAt e H v fs) (hn:H.next<=G.next) (hg:∀ n∈idsV v,G.get n=H.get n):FrAt e G v fs:=by
 obtain⟨rfl,rfl⟩|⟨n,c,M,rfl,hc,hb,hlt,hl,ht⟩:=h
 ·exact .inl ⟨rfl,rfl⟩
 ·exact .inr ⟨n,c,M,rfl,hc,(bk_get (hg n (by simp[idsV]))).trans hb,by omega,hl,ht⟩
theorem FrAt.ne (h:FrAt e H v fs):∀ n∈idsV v,H.get n≠none/\n<H.next:=by
 obtain⟨rfl,rfl⟩|⟨n,c,M,rfl,hc,hb,hlt,hl,ht⟩:=h
 ·intro n hn; simp[idsV]at hn
 ·intro k hk
  simp only[idsV,zA5]at hk
  subst hk
  exact⟨bk_ne hb,hlt⟩
theorem FrAt.mod {W:List Nat} (h:FrAt e H v fs) (m:Mod W H G) (hd:∀ n∈idsV v,n∉W):FrAt e G v fs:=h.of m.next fun n hn=>m.get n (h.ne n hn).2 (hd n hn)
theorem FrAt.mod0 (h:FrAt e H v fs) (m:Mod [] H G):FrAt e G v fs:=h.mod m (by simp)
theorem FrAt.sc (h:FrAt e H v fs):scb H.next v=true:=by
 obtain⟨rfl,rfl⟩|⟨n,c,M,rfl,hc,hb,hlt,hl,ht⟩:=h
 ·rfl
 ·simp only[scb]; exact blt_of hlt
theorem FrAt.sl (h:FrAt e H v fs):∃ a c,v=.slice a fs.length c:=by
 obtain⟨rfl,rfl⟩|⟨n,c,M,rfl,hc,hb,hlt,hl,ht⟩:=h
 ·exact⟨_,_,rfl⟩
 ·exact⟨_,_,rfl⟩
theorem frC_take:∀ (fs:List Fr) (k:Nat),frC (fs.take k)=(frC fs).take (k*3)
 |[],k=>by simp[frC]
 |f::r,0=>by simp[frC]
 |f::r,k+1=>by
  have h:=frC_take r k
  simp only[frC]at h
  rw[List.take_succ_cons,frC,frC,zD8,zD8,h,List.take_append,zE0 (l:=frV f) (by simp[frV]; omega)]
  simp only[frV,zB0,zC7]
  rw[show (k+1)*3-(0+1+1+1)=k*3 by omega]
theorem FrAt.cut {st:TypeId} (h:FrAt e H v fs) (hu:Tryz.prog.underlying st=some (.slice e)) (hs:szOf Tryz.prog e=some 3) (hne:fs≠[]) :
  ∃ a c,FrAt e H (.slice a (fs.length-1) c) fs.dropLast/\(∀ n∈idsV (.slice a (fs.length-1) c),n∈idsV v)/\∀ G:AHeap,(∀ n∈idsV v,G.get n=H.get n)->aSlice Tryz.prog G st v none (some (.int .i64 ((fs.length-1:Nat):Int))) none=some (.slice a (fs.length-1) c,G):=by
 obtain⟨rfl,rfl⟩|⟨n,c,M,rfl,hc,hb,hlt,hl,ht⟩:=h
 ·exact absurd rfl hne
 ·have hd:fs.dropLast=fs.take (fs.length-1):=List.dropLast_eq_take
  have hdl:fs.dropLast.length=fs.length-1:=List.length_dropLast
  refine⟨some ⟨n,0,none⟩,c,.inr ⟨n,c,M,by rw[hdl],by omega,hb,hlt,by omega,?_⟩,fun k hk=>hk,fun G hg=>?_⟩
  ·rw[hdl,hd,frC_take,<-ht,List.take_take,Nat.min_eq_left (by omega)]
  ·have ho:isOpen G n=some true:=isOpen_bk ((bk_get (hg n (by simp[idsV]))).trans hb)
   simp only[aSlice,hu,hs,aSlice2,bound,zA1,zA3,exactAt,ho,zA6,zF5]
   rw[if_pos (by omega),zA3,zD7,if_pos (by omega),if_pos trivial]
end
theorem eff_bd (op:Nat) (args:List Int) (h0:op=4\/op=9->0<args.length/\0<=args.getD 0 0/\args.getD 0 0<=65535):0<=(effR op args).1/\(effR op args).1<=65536/\0<=(effR op args).2/\(effR op args).2<=1:=by
 unfold effR
 split
 ·decide
 split
 ·rename_i h; have:=h0 h; simp only; omega
 split
 ·decide
 split<;>decide
end Go.Proofs.YtnigelgcjfhghaaGreatDoor
namespace Go.Ax
section
variable {P : Program} {H : AHeap} {N : Nat} {E : Env} {ds : List Deferred} {ops : Array Oper} {rest : List Oper} {ty : TypeId} {pos : String} {after : Array Edge} {d i : Nat} {fps : List Fp} {anc : List Nat} {Q : AAct -> AHeap -> Prop}
theorem genV_cut {t:TypeId} {x:Operand} {lo hi mx:Option Operand} {v:Value} (F:List Nat) (hx:opOk P N x=true) (h1:bndsOk P N lo=true) (h2:bndsOk P N hi=true) (h3:bndsOk P N mx=true) (hd:d<N) (hF:∀ n∈F,H.get n≠none)
  (hc:∀ G:AHeap,(∀ n∈F,G.get n=H.get n)->aSlice P G t (opv E x) (bnds E lo) (bnds E hi) (bnds E mx)=some (v,G)) (hm:∀ r∈fps,Meets (anc.getD i 0) F [] (idsV v++([]:List Bl).flatMap fun x=>idsL x.l) r)
  (h:wkD P ops anc rest (i+1) (⟨i,F,[],H.next,H.next⟩::fps) (mkA N (upd E d v) ds) (ext H []) Q):genV P ops anc ⟨some d,.slice t x lo hi mx,ty,pos,after,none⟩ rest i fps (mkA N E ds) H Q :=
 genV_extO (v:=v) (M:=[]) F rfl hd hF (fun G _ h4=>opS_of (x:=.value v) (g:=G) (slice_aop hx h1 h2 h3 (hc G h4)) ⟨rfl,rfl⟩) hm h
end
end Go.Ax
namespace Go.Proofs.YtnigelgcjfhghaaGreatDoor
open Go.Ax
set_option maxRecDepth 100000
theorem after108_c (H:AHeap) (pos:Int) (op:Nat) (av:Value) (args:List Int) (kn dn:Bool) (s:St) (fv:Value) (hop:op<28) (ha:RdAt H 1 av (iv args) args.length) (hal:args.length<=1000000) (h0:op=4\/op=9->0<args.length/\0<=args.getD 0 0/\args.getD 0 0<=65535) (h8:op=8->0<args.length/\0<=args.getD 0 0/\args.getD 0 0<=65535)
  (hf:FrAt 183 H fv s.fs) (hfl:s.fs.length<=1000000) (hne:op=19\/op=20->s.fs≠[]) (hh:-1000000000<=s.h/\s.h<=1000000000) (hb9:-1000000000<=s.b/\s.b<=1000000000) (hok:H.base<=H.next) (sav:scb H.next av=true) :
  CallA Tryz.prog 108 [.agg ⟨[.int .i64 pos,.int .i64 (op:Int),av]⟩,stV kn dn s fv] H (fun out X=>∃ v1 v2,out=.ok (.tuple #[stV true false (aftR op args s).1 v1,stV true false (aftR op args s).2 v2])/\FrAt 183 X v1 (aftR op args s).1.fs/\FrAt 183 X v2 (aftR op args s).2.fs/\Mod [] H X):=by
 obtain⟨b,hb⟩:=Go.Ax.exq H.next
 have hbase:H.base<=b:=hb▸hok
 obtain⟨a0,c0,e0⟩:=ha.sl
 obtain⟨f0,fc,ef⟩:=hf.sl
 have sfv:=hf.sc
 rw[hb,e0]at sav
 rw[hb,ef]at sfv
 have sfv1:=scb_mono (show b<=b+1 by omega) _ sfv
 have hT:∀ i:Decidable True,@decide True i=true:=fun i=>by simp
 have hF:∀ i:Decidable False,@decide False i=false:=fun i=>by simp
 refine callE_fn mixed Tryz.func108 rfl Tryz.ntmps108 (zB2 rfl) ?_
 rw[e0,ef]
 unfold stV
 simp only[hb,sav,sfv1,ruW,Nat.reduceLeDiff,xF,ruU,entryE,Nat.reduceLT,Nat.reduceAdd,Nat.reduceEqDiff]
 generalize hX:ext H _=X
 have mX:Mod [] H X:=hX▸Mod.ext hok
 have nX:X.next=b+4:=by rw[<-hX,ext_next,hb]; rfl
 have k0:bk X (b+0)=some ⟨59,false,[.int .i64 pos,.int .i64 (op:Int),.slice a0 args.length c0]⟩:=by rw[<-hX,bk_at hb (by simp)]; rfl
 have k1:bk X (b+1)=some ⟨100,false,[.bool kn,.bool dn,.int .i64 s.h,.int .i64 s.b,.slice f0 s.fs.length fc]⟩:=by rw[<-hX,bk_at hb (by simp)]; rfl
 have k2:bk X (b+2)=some ⟨100,false,[.bool false,.bool false,.int .i64 0,.int .i64 0,.slice none 0 0]⟩:=by rw[<-hX,bk_at hb (by simp)]; rfl
 have k3:bk X (b+3)=some ⟨100,false,[.bool false,.bool false,.int .i64 0,.int .i64 0,.slice none 0 0]⟩:=by rw[<-hX,bk_at hb (by simp)]; rfl
 clear hX
 have okX:=mX.ok hok
 have xb:X.base<=b+4:=nX▸okX
 have haX:=ha.mod0 mX
 have hfX:=hf.mod0 mX
 rw[e0]at haX
 have l0:b+0<b+4:=by omega
 have l1:b+1<b+4:=by omega
 obtain⟨pq,hpq⟩:=Go.Ax.exq (effR op args)
 have hbd:=eff_bd op args h0
 rw[show X=ext X [] from rfl]
 refine (eff131_c (ext X []) pos op (.slice a0 args.length c0) args hop haX h0).to ?_
 rw[hpq]at hbd ⊢
 obtain⟨p,q⟩:=pq
 simp only at hbd ⊢
 have hw1:IntKind.i64.wrap (s.h-p)=s.h-p:=wrap_sm (by omega) (by omega)
 have hw2:IntKind.i64.wrap (s.h-p+q)=s.h-p+q:=wrap_sm (by omega) (by omega)
 obtain⟨h',hh'⟩:∃ h',s.h-p+q=h':=⟨_,rfl⟩
 rw[hh']at hw2
 obtain⟨x,hx⟩:=Go.Ax.exq X.next
 have hxb:b+4=x:=nX.symm.trans hx
 have xb:X.base<=x:=hx▸okX
 have l0:b+0<x:=by omega
 have l1:b+1<x:=by omega
 have sf4:=scb_mono (show b<=x+1 by omega) _ sfv
 have sf5:=scb_mono (show b<=x+2 by omega) _ sfv
 simp only[hx,xb,k0,k1,l0,l1,hw1,hw2,hh',sf4,sf5,qk_old,ruW,putL,Nat.reduceLeDiff,xF,ruU,Nat.reduceLT,Nat.reduceAdd,Nat.reduceEqDiff]
 generalize hY:ext X _=Y
 have mXY:Mod [] X Y:=hY▸Mod.ext okX
 have k4:bk Y (x+0)=some ⟨100,false,[.bool true,.bool false,.int .i64 h',.int .i64 s.b,.slice f0 s.fs.length fc]⟩:=by rw[<-hY,bk_at hx (by simp)]; rfl
 have k5:bk Y (x+1)=some ⟨100,false,[.bool true,.bool false,.int .i64 h',.int .i64 s.b,.slice f0 s.fs.length fc]⟩:=by rw[<-hY,bk_at hx (by simp)]; rfl
 have nY:Y.next=x+2:=by rw[<-hY,ext_next,hx]; rfl
 clear hY
 have okY:=mXY.ok okX
 have mY:=mX.trans mXY
 replace k0:=(mXY.bk (by omega) (by simp)).trans k0
 replace k1:=(mXY.bk (by omega) (by simp)).trans k1
 replace k2:=(mXY.bk (by omega) (by simp)).trans k2
 replace k3:=(mXY.bk (by omega) (by simp)).trans k3
 obtain⟨y,hy⟩:=Go.Ax.exq Y.next
 have hyx:x+2=y:=nY.symm.trans hy
 have yb:Y.base<=y:=hy▸okY
 have haY:=haX.mod0 mXY
 have hfY:=hfX.mod0 mXY
 have j0:b+0<y:=by omega
 have j1:b+1<y:=by omega
 have j2:b+2<y:=by omega
 have j3:b+3<y:=by omega
 have j4:x+0<y:=by omega
 have j5:x+1<y:=by omega
 have syv:=scb_mono (show b<=y by omega) _ sfv
 have syw:=scb_mono (show b<=y+0 by omega) _ sfv
 have dd:∀ i j,i<4->(b+i=x+j)=False:=fun i j h=>eq_false (by omega)
 have de:∀ i j,i<4->(x+j=b+i)=False:=fun i j h=>eq_false (by omega)
 clear l0 l1 sf4 sf5 xb nY
 rw[show Y=ext Y [] from rfl]
 rw[ef]at hfY hfX hf
 have fin:∀ F,Mod [b+2,b+3,x+0,x+1] Y F->FrAt 183 F (.slice f0 s.fs.length fc) s.fs/\Mod [] H F:=fun F mF=>⟨hfY.mod mF fun n hn=>by
  have:=(hf.ne n hn).2
  simp only[zA8,zC0,or_false]
  omega,mY.step mF hok fun n hn=>.inr (by simp only[zA8,zC0,or_false]at hn; omega)⟩
 have hwh:IntKind.i64.wrap (h'+1)=h'+1:=wrap_sm (by omega) (by omega)
 have hwb:IntKind.i64.wrap (s.b+1)=s.b+1:=wrap_sm (by omega) (by omega)
 by_cases hA:op=13\/op=14
 ·have haft:aftR op args s=(⟨h',s.b,s.fs⟩,⟨s.h,s.b,s.fs⟩):=by
   unfold aftR
   rw[hpq,if_pos hA]
   simp only[hh']
  rw[haft]
  rcases hA with rfl|rfl
  all_goals
   simp only[zB4]at k0
   simp only[zB4,Int.reduceEq,hy,k1,k5,j1,j5,hT,hF,not_false_eq_true,qk_old,ruW,putL,Nat.reduceLeDiff,xF,ruU,Nat.reduceLT,Nat.reduceAdd,Nat.reduceEqDiff]
   refine w_drawB [] [] (by kernel_rfl) (by kernel_rfl) rfl fun ops anc hA hG=>?_
   simp only[hy,k2,k3,k4,k5,j2,j3,j4,j5,dd,de,not_false_eq_true,syw,qk_old,Tryz.results108,ruD,ruW,putL,Nat.reduceLeDiff,xF,ruU,Nat.reduceLT,Nat.reduceAdd,Nat.reduceEqDiff]
   rw[ext_nil]
   refine (fun hm=>⟨_,_,rfl,(fin _ hm).1,(fin _ hm).1,(fin _ hm).2⟩) ?_
   exact ((Mod.uw (by simp)).trans (Mod.uw (by simp))).trans (Mod.uw (by simp))
 by_cases h7:op=7
 ·subst h7
  have haft:aftR 7 args s=(⟨h',s.b+1,s.fs⟩,⟨h',s.b,s.fs⟩):=by
   unfold aftR
   rw[hpq,if_neg (by omega),if_pos rfl]
   simp only[hh']
  rw[haft]
  ·simp only[zB4]at k0
   simp only[zB4,Int.reduceEq,hy,k1,k4,j1,j4,hT,hF,not_false_eq_true,hwb,qk_old,ruW,putL,Nat.reduceLeDiff,xF,ruU,Nat.reduceLT,Nat.reduceAdd,Nat.reduceEqDiff]
   refine w_drawB [] [] (by kernel_rfl) (by kernel_rfl) rfl fun ops anc hA hG=>?_
   simp only[hy,k2,k3,k4,k5,j2,j3,j4,j5,dd,de,not_false_eq_true,syw,qk_old,Tryz.results108,ruD,ruW,putL,Nat.reduceLeDiff,xF,ruU,Nat.reduceLT,Nat.reduceAdd,Nat.reduceEqDiff]
   rw[ext_nil]
   refine (fun hm=>⟨_,_,rfl,(fin _ hm).1,(fin _ hm).1,(fin _ hm).2⟩) ?_
   exact ((Mod.uw (by simp)).trans (Mod.uw (by simp))).trans (Mod.uw (by simp))
 by_cases c8:op=8
 ·subst c8
  obtain⟨hl,hx0,hx1⟩:=h8 rfl
  obtain⟨n,off,sp,c,e,o,M,e2,n1,r1,m1⟩:=haY.one hl
  have e3:=e2
  simp only[Value.slice.injEq]at e3
  obtain⟨rfl,-,rfl⟩:=e3
  rw[iv_get,zA4 hl,zA6]at m1
  have hg:args.getD 0 0=args[0]:=by rw[zA9,zA4 hl]; rfl
  have i1:aIndexAddr Tryz.prog 35 (.slice (some ⟨n,off,sp⟩) args.length c0) (.int .i64 0)=some (.pointer (some ⟨n,off+0,none⟩)):=ia_of (i:=0) u35 s3 hl
  rw[hy]at n1
  rw[hg]at hx0 hx1
  have hw:IntKind.i64.wrap (s.b-args[0])=s.b-args[0]:=wrap_sm (by omega) (by omega)
  have haft:aftR 8 args s=(⟨h',s.b-args[0],s.fs⟩,⟨h',s.b,s.fs⟩):=by
   unfold aftR
   rw[hpq,if_neg (by omega),if_neg (by omega),if_pos rfl,hg]
   simp only[hh']
  rw[haft]
  ·simp only[zB4]at k0
   simp only[zB4,Int.reduceEq,hT,hF,not_false_eq_true,ruW,ruU,Nat.reduceLT,Nat.reduceEqDiff]
   refine w_drawB [(8,0),(8,1),(8,2),(8,3),(8,4),(8,5),(8,6),(8,7)] [] (by kernel_rfl) (by kernel_rfl) rfl fun ops anc hA hG=>?_
   simp only[all2_cons]at hA
   simp only[hy,k0,k1,k4,j0,j1,j4,i1,n1,r1,m1,hw,hA,not_false_eq_true,qk_old,ruD,ruW,putL,Nat.reduceLeDiff,xF,ruU,Nat.reduceLT,Nat.reduceAdd,Nat.reduceEqDiff]
   refine w_drawB [] [] (by kernel_rfl) (by kernel_rfl) rfl fun ops anc hA hG=>?_
   simp only[hy,k2,k3,k4,k5,j2,j3,j4,j5,dd,de,not_false_eq_true,syw,qk_old,Tryz.results108,ruD,ruW,putL,Nat.reduceLeDiff,xF,ruU,Nat.reduceLT,Nat.reduceAdd,Nat.reduceEqDiff]
   rw[ext_nil]
   refine (fun hm=>⟨_,_,rfl,(fin _ hm).1,(fin _ hm).1,(fin _ hm).2⟩) ?_
   exact ((Mod.uw (by simp)).trans (Mod.uw (by simp))).trans (Mod.uw (by simp))
 have fin2:∀ Z F,Mod [] Y Z->Mod [b+2,b+3,x+0,x+1] Z F->(∀ v fs,FrAt 183 Z v fs->(∀ n∈idsV v,n<b\/y<=n)->FrAt 183 F v fs)/\Mod [] H F:=fun Z F mZ mF=>⟨fun v fs hv hi=>hv.mod mF fun n hn=>by
  have:=hi n hn
  simp only[zA8,zC0,or_false]
  omega,(mY.trans mZ).step mF hok fun n hn=>.inr (by simp only[zA8,zC0,or_false]at hn; omega)⟩
 have hfid:∀ n∈idsV (.slice f0 s.fs.length fc),n<b\/y<=n:=fun n hn=>.inl (by have:=(hf.ne n hn).2; omega)
 by_cases hD:op=16\/op=17
 ·obtain⟨f,hf'⟩:∃ f:Fr,f=⟨(op:Int),h',s.b⟩:=⟨_,rfl⟩
  have haft:aftR op args s=(⟨h',s.b,s.fs++[f]⟩,⟨h'+1,s.b,s.fs⟩):=by
   unfold aftR
   rw[hpq,if_neg (by omega),if_neg (by omega),if_neg (by omega),if_pos (by omega)]
   simp only[hh',hf']
  rw[haft]
  have hcall:=with132_c Y (.slice f0 s.fs.length fc) s.fs f hfY.rd hfl okY
  have hfv:frV f=[.int .i64 (op:Int),.int .i64 h',.int .i64 s.b]:=by rw[hf']; rfl
  rw[hfv]at hcall
  rcases hD with rfl|rfl
  all_goals
   simp only[zB4]at k0 hcall
   simp only[zB4,Int.reduceEq,hy,k0,k1,k4,j0,j1,j4,hT,hF,not_false_eq_true,qk_old,ruW,xF,ruU,Nat.reduceLT,Nat.reduceAdd,Nat.reduceEqDiff]
   rw[ext_nil]
   refine hcall.mono ?_
   rintro _ Z ⟨w,rfl,vw,mZ,hwlo⟩
   have fw:=FrAt.vs vw
   have hwid:∀ n∈idsV w,n<b\/y<=n:=fun n hn=>.inr (by have:=hwlo n hn; omega)
   obtain⟨z,hz⟩:=Go.Ax.exq Z.next
   have okZ:=mZ.ok okY
   have lz:y<=z:=by have:=mZ.next; omega
   have hfZ:=hfY.mod0 mZ
   have sw:=fw.sc
   obtain⟨wa,wc,ew⟩:=fw.sl
   rw[ew,hz]at sw
   rw[ew]at fw hwid
   have sw0:=scb_mono (show z<=z+0 by omega) _ sw
   have szw:=scb_mono (show b<=z+0 by omega) _ sfv
   replace k0:=(mZ.bk (by omega) (by simp)).trans k0
   replace k1:=(mZ.bk (by omega) (by simp)).trans k1
   replace k2:=(mZ.bk (by omega) (by simp)).trans k2
   replace k3:=(mZ.bk (by omega) (by simp)).trans k3
   replace k4:=(mZ.bk (by omega) (by simp)).trans k4
   replace k5:=(mZ.bk (by omega) (by simp)).trans k5
   replace j0:b+0<z:=by omega
   replace j1:b+1<z:=by omega
   replace j2:b+2<z:=by omega
   replace j3:b+3<z:=by omega
   replace j4:x+0<z:=by omega
   replace j5:x+1<z:=by omega
   rw[ew]
   rw[show Z=ext Z [] from rfl]
   simp only[Int.reduceEq,hz,k0,k4,k5,j0,j4,j5,hF,dd,not_false_eq_true,sw0,hwh,qk_old,ruW,putL,Nat.reduceLeDiff,xF,ruU,Nat.reduceLT,Nat.reduceAdd,Nat.reduceEqDiff]
   refine w_drawB [] [] (by kernel_rfl) (by kernel_rfl) rfl fun ops anc hA hG=>?_
   simp only[hz,k2,k3,k4,k5,j2,j3,j4,j5,dd,de,not_false_eq_true,sw0,szw,qk_old,Tryz.results108,ruD,ruW,putL,Nat.reduceLeDiff,xF,ruU,Nat.reduceLT,Nat.reduceAdd,Nat.reduceEqDiff]
   rw[ext_nil]
   refine (fun hm=>⟨_,_,rfl,(fin2 Z _ mZ hm).1 _ _ fw hwid,(fin2 Z _ mZ hm).1 _ _ hfZ hfid,(fin2 Z _ mZ hm).2⟩) ?_
   exact (((Mod.uw (by simp)).trans (Mod.uw (by simp))).trans (Mod.uw (by simp))).trans (Mod.uw (by simp))
 by_cases hE:op=18
 ·obtain⟨f,hf'⟩:∃ f:Fr,f=⟨18,h',s.b⟩:=⟨_,rfl⟩
  obtain⟨g,hg'⟩:∃ g:Fr,g=⟨19,h',s.b⟩:=⟨_,rfl⟩
  subst hE
  have haft:aftR 18 args s=(⟨h',s.b,s.fs++[f]⟩,⟨h'+1,s.b,s.fs++[g]⟩):=by
   unfold aftR
   rw[hpq,if_neg (by omega),if_neg (by omega),if_neg (by omega),if_neg (by omega),if_pos rfl]
   simp only[hh',hf',hg']
  rw[haft]
  have hcall:=with132_c Y (.slice f0 s.fs.length fc) s.fs f hfY.rd hfl okY
  have hfv:frV f=[.int .i64 18,.int .i64 h',.int .i64 s.b]:=by rw[hf']; rfl
  have hgv:frV g=[.int .i64 19,.int .i64 h',.int .i64 s.b]:=by rw[hg']; rfl
  rw[hfv]at hcall
  simp only[zB4]at k0 hcall
  simp only[zB4,Int.reduceEq,hy,k0,k1,k4,j0,j1,j4,hT,hF,not_false_eq_true,qk_old,ruW,xF,ruU,Nat.reduceLT,Nat.reduceAdd,Nat.reduceEqDiff]
  rw[ext_nil]
  refine hcall.mono ?_
  rintro _ Z ⟨w,rfl,vw,mZ,hwlo⟩
  have fw:=FrAt.vs vw
  have hwid:∀ n∈idsV w,n<b\/y<=n:=fun n hn=>.inr (by have:=hwlo n hn; omega)
  obtain⟨z,hz⟩:=Go.Ax.exq Z.next
  have okZ:=mZ.ok okY
  have lz:y<=z:=by have:=mZ.next; omega
  have hfZ:=hfY.mod0 mZ
  have sw:=fw.sc
  obtain⟨wa,wc,ew⟩:=fw.sl
  rw[ew,hz]at sw
  rw[ew]at fw hwid
  have sw0:=scb_mono (show z<=z+0 by omega) _ sw
  replace k0:=(mZ.bk (by omega) (by simp)).trans k0
  replace k1:=(mZ.bk (by omega) (by simp)).trans k1
  replace k2:=(mZ.bk (by omega) (by simp)).trans k2
  replace k3:=(mZ.bk (by omega) (by simp)).trans k3
  replace k4:=(mZ.bk (by omega) (by simp)).trans k4
  replace k5:=(mZ.bk (by omega) (by simp)).trans k5
  replace j0:b+0<z:=by omega
  replace j1:b+1<z:=by omega
  replace j2:b+2<z:=by omega
  replace j3:b+3<z:=by omega
  replace j4:x+0<z:=by omega
  replace j5:x+1<z:=by omega
  rw[ew]
  rw[show Z=ext Z [] from rfl]
  simp only[hz,k0,k1,k4,k5,j0,j1,j4,j5,hT,dd,not_false_eq_true,sw0,hwh,qk_old,ruW,putL,Nat.reduceLeDiff,xF,ruU,Nat.reduceLT,Nat.reduceAdd,Nat.reduceEqDiff]
  rw[ext_nil]
  obtain⟨U,hU⟩:=Go.Ax.exq (uw (uw Z (x+0) 4 [.slice wa (s.fs++[f]).length wc]) (x+1) 2 [.int .i64 (h'+1)])
  rw[hU]
  have mU:Mod [x+0,x+1] Z U:=hU▸(Mod.uw (by simp)).trans (Mod.uw (by simp))
  have nU:U.next=z:=by rw[<-hU,uw_next,uw_next,hz]
  have hx01:x+0≠x+1:=by omega
  have u4:bk U (x+0)=some ⟨100,false,[.bool true,.bool false,.int .i64 h',.int .i64 s.b,.slice wa (s.fs++[f]).length wc]⟩:=by rw[<-hU,bk_uw_ne hx01,bk_uw_eq,k4]; rfl
  have u5:bk U (x+1)=some ⟨100,false,[.bool true,.bool false,.int .i64 (h'+1),.int .i64 s.b,.slice f0 s.fs.length fc]⟩:=by rw[<-hU,bk_uw_eq,bk_uw_ne hx01.symm,k5]; rfl
  have hxn:∀ i,i<4->b+i∉[x+0,x+1]:=fun i h hn=>by simp only[zA8,zC0,or_false]at hn; omega
  have hxf:∀ n,n<b\/y<=n->n∉[x+0,x+1]:=fun n h hn=>by simp only[zA8,zC0,or_false]at hn; omega
  replace k0:=(mU.bk (by omega) (hxn 0 (by decide))).trans k0
  replace k1:=(mU.bk (by omega) (hxn 1 (by decide))).trans k1
  replace k2:=(mU.bk (by omega) (hxn 2 (by decide))).trans k2
  replace k3:=(mU.bk (by omega) (hxn 3 (by decide))).trans k3
  have hfU:=hfZ.mod mU fun n hn=>hxf n (hfid n hn)
  have fwU:=fw.mod mU fun n hn=>hxf n (hwid n hn)
  have okU:=mU.ok okZ
  clear hU k4 k5
  have hcal2:=with132_c U (.slice f0 s.fs.length fc) s.fs g hfU.rd hfl okU
  rw[hgv]at hcal2
  refine hcal2.mono ?_
  rintro _ T ⟨r,rfl,vr,mT,hrlo⟩
  have fr:=FrAt.vs vr
  have hrid:∀ n∈idsV r,n<b\/y<=n:=fun n hn=>.inr (by have:=hrlo n hn; omega)
  obtain⟨t,ht⟩:=Go.Ax.exq T.next
  have okT:=mT.ok okU
  have lt:z<=t:=by have:=mT.next; omega
  have fwT:=fwU.mod0 mT
  have sr:=fr.sc
  obtain⟨ra,rc,er⟩:=fr.sl
  rw[er,ht]at sr
  rw[er]at fr hrid
  have sr0:=scb_mono (show t<=t+0 by omega) _ sr
  have sw2:=scb_mono (show z<=t+0 by omega) _ sw
  replace k0:=(mT.bk (by omega) (by simp)).trans k0
  replace k1:=(mT.bk (by omega) (by simp)).trans k1
  replace k2:=(mT.bk (by omega) (by simp)).trans k2
  replace k3:=(mT.bk (by omega) (by simp)).trans k3
  have k4:=(mT.bk (by omega) (by simp)).trans u4
  have k5:=(mT.bk (by omega) (by simp)).trans u5
  replace j0:b+0<t:=by omega
  replace j1:b+1<t:=by omega
  replace j2:b+2<t:=by omega
  replace j3:b+3<t:=by omega
  replace j4:x+0<t:=by omega
  replace j5:x+1<t:=by omega
  rw[er]
  rw[show T=ext T [] from rfl]
  simp only[ht,k5,j5,not_false_eq_true,sr0,ruW,putL,Nat.reduceLeDiff,xF,ruU,Nat.reduceLT,Nat.reduceAdd,Nat.reduceEqDiff]
  refine w_drawB [] [] (by kernel_rfl) (by kernel_rfl) rfl fun ops anc hA hG=>?_
  simp only[ht,k2,k3,k4,k5,j2,j3,j4,j5,dd,de,not_false_eq_true,sw2,sr0,qk_old,Tryz.results108,ruD,ruW,putL,Nat.reduceLeDiff,xF,ruU,Nat.reduceLT,Nat.reduceAdd,Nat.reduceEqDiff]
  rw[ext_nil]
  have mUT:Mod [x+0,x+1] Z T:=mU.trans (mT.mono (by simp))
  have fin3:∀ F,Mod [b+2,b+3,x+0,x+1] T F->(∀ v fs,FrAt 183 T v fs->(∀ n∈idsV v,n<b\/y<=n)->FrAt 183 F v fs)/\Mod [] H F:=fun F mF=>⟨fun v fs hv hi=>hv.mod mF fun n hn=>by
   have:=hi n hn
   simp only[zA8,zC0,or_false]
   omega,((mY.trans mZ).step mUT hok fun n hn=>.inr (by simp only[zA8,zC0,or_false]at hn; omega)).step mF hok fun n hn=>.inr (by simp only[zA8,zC0,or_false]at hn; omega)⟩
  refine (fun hm=>⟨_,_,rfl,(fin3 _ hm).1 _ _ fwT hwid,(fin3 _ hm).1 _ _ fr hrid,(fin3 _ hm).2⟩) ?_
  exact ((Mod.uw (by simp)).trans (Mod.uw (by simp))).trans (Mod.uw (by simp))
 by_cases h19:op=19\/op=20
 ·have hne':=hne h19
  have hpos:0<s.fs.length:=List.length_pos_iff.2 hne'
  obtain⟨t,ht⟩:=Go.Ax.exq (topS s)
  have hlast:s.fs[s.fs.length-1]?=some t:=by
   rw[<-ht,topS,List.getLastD_eq_getLast?,List.getLast?_eq_getElem?,zA4 (by omega)]
   rfl
  have hwl:IntKind.i64.wrap ((s.fs.length:Int)-1)=((s.fs.length-1:Nat):Int):=(wrap_sm (by omega) (by omega)).trans (by omega)
  obtain⟨ca,cc,fcut,cid,hcut⟩:=hfY.cut (st:=98) u98 s183 hne'
  have hdl:s.fs.dropLast.length=s.fs.length-1:=List.length_dropLast
  have hcid:∀ n∈idsV (.slice ca (s.fs.length-1) cc),n<b\/y<=n:=fun n hn=>hfid n (cid n hn)
  have scu:=fcut.sc
  rw[hy]at scu
  have scu0:=scb_mono (show y<=y+0 by omega) _ scu
  have scu1:=scb_mono (show y<=y+1 by omega) _ scu
  have hsl:∀ L,aSlice Tryz.prog (ext Y L) 98 (.slice f0 s.fs.length fc) none (some (.int .i64 ((s.fs.length-1:Nat):Int))) none=some (.slice ca (s.fs.length-1) cc,ext Y L):=fun L=>hcut _ fun n hn=>ext_get_old (hfY.ne n hn).2
  rcases h19 with rfl|rfl
  ·have haft:aftR 19 args s=(⟨h',s.b,if t.kind=18 then s.fs.dropLast++[⟨19,t.height,t.bound⟩] else s.fs.dropLast⟩,⟨h',s.b,s.fs⟩):=by
    unfold aftR
    rw[hpq,if_neg (by omega),if_neg (by omega),if_neg (by omega),if_neg (by omega),if_neg (by omega),if_pos rfl]
    simp only[hh',ht]
   rw[haft]
   obtain⟨n,off,sp,c,e,o,M,e1,n1,r1,ia,ld⟩:=fr_one hfY.rd hlast
   have e3:=e1
   simp only[Value.slice.injEq]at e3
   obtain⟨ef0,-,efc⟩:=e3
   rw[hy]at n1
   obtain⟨d18,hd18⟩:∃ d,decide (t.kind=18)=d:=⟨_,rfl⟩
   unfold frV at ld
   simp only[zB4]at k0
   simp only[zB4,Int.reduceEq,hy,yb,k1,k4,j1,j4,hT,hF,not_false_eq_true,hwl,ia,n1,r1,ld,hsl,scu1,hd18,qk_old,ruW,putL,Nat.reduceLeDiff,xF,ruU,Nat.reduceLT,Nat.reduceAdd,Nat.reduceEqDiff]
   obtain⟨U,hU⟩:=Go.Ax.exq (ext (uw Y (x+0) 4 [.slice ca (s.fs.length-1) cc]) [⟨183,false,[.int .i64 t.kind,.int .i64 t.height,.int .i64 t.bound]⟩])
   rw[hU]
   have hyu:(uw Y (x+0) 4 [.slice ca (s.fs.length-1) cc]).next=y:=by rw[uw_next,hy]
   have mU:Mod [x+0] Y U:=hU▸(Mod.uw (by simp)).trans (Mod.ext (by rw[uw_base,uw_next]; exact okY))
   have nU:U.next=y+1:=by rw[<-hU,ext_next,hyu]; rfl
   have u6:bk U (y+0)=some ⟨183,false,[.int .i64 t.kind,.int .i64 t.height,.int .i64 t.bound]⟩:=by rw[<-hU,bk_at hyu (by simp)]; rfl
   have u4:bk U (x+0)=some ⟨100,false,[.bool true,.bool false,.int .i64 h',.int .i64 s.b,.slice ca (s.fs.length-1) cc]⟩:=by rw[<-hU,bk_old (by rw[hyu]; exact j4),bk_uw_eq,k4]; rfl
   have hxf:∀ n,n<b\/y<=n->n∉[x+0]:=fun n h hn=>by simp only[zA5]at hn; omega
   have hxn:∀ i,i<4->b+i∉[x+0]:=fun i h hn=>by simp only[zA5]at hn; omega
   replace k0:=(mU.bk (by omega) (hxn 0 (by decide))).trans k0
   replace k1:=(mU.bk (by omega) (hxn 1 (by decide))).trans k1
   replace k2:=(mU.bk (by omega) (hxn 2 (by decide))).trans k2
   replace k3:=(mU.bk (by omega) (hxn 3 (by decide))).trans k3
   replace k5:=(mU.bk (n:=x+1) (by omega) (by simp)).trans k5
   have hfU:=hfY.mod mU fun n hn=>hxf n (hfid n hn)
   have fcU:=fcut.mod mU fun n hn=>hxf n (hcid n hn)
   have okU:=mU.ok okY
   obtain⟨u,hu⟩:=Go.Ax.exq U.next
   clear hU k4
   have suw:=scb_mono (show b<=u+0 by omega) _ sfv
   have scw:=scb_mono (show y<=u+0 by omega) _ scu
   replace j0:b+0<u:=by omega
   replace j1:b+1<u:=by omega
   replace j2:b+2<u:=by omega
   replace j3:b+3<u:=by omega
   replace j4:x+0<u:=by omega
   replace j5:x+1<u:=by omega
   have j6:y+0<u:=by omega
   have fin4:∀ F,Mod [b+2,b+3,x+0,x+1] U F->(∀ v fs,FrAt 183 U v fs->(∀ n∈idsV v,n<b\/y<=n)->FrAt 183 F v fs)/\Mod [] H F:=fun F mF=>⟨fun v fs hv hi=>hv.mod mF fun n hn=>by
    have:=hi n hn
    simp only[zA8,zC0,or_false]
    omega,(mY.step mU hok fun n hn=>.inr (by simp only[zA5]at hn; omega)).step mF hok fun n hn=>.inr (by simp only[zA8,zC0,or_false]at hn; omega)⟩
   rw[show U=ext U [] from rfl]
   cases d18 with
   |false =>
    rw[if_neg (of_decide_eq_false hd18)]
    simp only[ruW]
    refine w_drawB [] [] (by kernel_rfl) (by kernel_rfl) rfl fun ops anc hA hG=>?_
    simp only[hu,k2,k3,u4,k5,j2,j3,j4,j5,de,not_false_eq_true,suw,scw,qk_old,Tryz.results108,ruD,ruW,putL,Nat.reduceLeDiff,xF,ruU,Nat.reduceLT,Nat.reduceAdd,Nat.reduceEqDiff]
    rw[ext_nil]
    refine (fun hm=>⟨_,_,rfl,(fin4 _ hm).1 _ _ fcU hcid,(fin4 _ hm).1 _ _ hfU hfid,(fin4 _ hm).2⟩) ?_
    exact (Mod.uw (by simp)).trans (Mod.uw (by simp))
   |true =>
    rw[if_pos (of_decide_eq_true hd18)]
    simp only[ruW]
    refine w_drawB [(3,2),(9,3),(9,8),(9,0),(9,1),(9,4),(9,5),(9,6),(9,7),(10,9),(10,8),(10,7),(10,5),(10,3),(10,1),(11,9),(11,0),(11,1),(11,2),(11,3),(11,4),(11,5),(11,6),(11,7),(11,8)] [] (by kernel_rfl) (by kernel_rfl) rfl fun ops anc hA hG=>?_
    simp only[all2_cons]at hA
    simp only[hu,k1,j1,not_false_eq_true,qk_old,wd_slice,ruD,ruW,xF,ruU,Nat.reduceLT,Nat.reduceAdd,Nat.reduceEqDiff]
    have hagree:∀ n∈idsV (.slice f0 s.fs.length fc),U.get n=Y.get n:=fun n hn=>mU.get n (hfY.ne n hn).2 (hxf n (hfid n hn))
    refine genV_cut (v:=.slice ca (s.fs.length-1) cc) (idsV (.slice f0 s.fs.length fc)) rfl rfl (by simp only[bndsOk_some,ruU,Nat.reduceLT]) rfl (by decide) (fun n hn=>(hfU.ne n hn).1) (fun G hG=>?_) (by simp[Meets]) ?_
    ·simp only[bnds_none,bnds_some,ruU,Nat.reduceEqDiff]
     exact hcut G fun n hn=>(hG n hn).trans (hagree n hn)
    rw[ext_nil,show U=ext U [] from rfl]
    simp only[hu,u6,j6,not_false_eq_true,qk_old,ruD,ruW,xF,ruU,Nat.reduceLT,Nat.reduceAdd,Nat.reduceEqDiff]
    have hrn:=restrict_next U (idsV (.slice ca (s.fs.length-1) cc))
    have fcR:FrAt 183 (U.restrict (idsV (.slice ca (s.fs.length-1) cc))) (.slice ca (s.fs.length-1) cc) s.fs.dropLast:=fcU.of (by rw[hrn.1]; exact zB1 _) fun m hm=>by rw[restrict_get,if_pos hm]
    obtain⟨_,g,hc,w,rfl,vw,mg,hwlo⟩:=with132_c (U.restrict (idsV (.slice ca (s.fs.length-1) cc))) (.slice ca (s.fs.length-1) cc) s.fs.dropLast ⟨19,t.height,t.bound⟩ fcR.rd (by omega) (by rw[hrn.1,hrn.2.1]; exact zB1 _)
    rw[hrn.1]at hwlo
    refine genV_mod (W:=[]) (v:=w) (g:=g) (idsV (.slice ca (s.fs.length-1) cc)) okU rfl (by kernel_rfl) (fun n hn=>(fcU.ne n hn).1) (fun n hn=>(fcU.ne n hn).2) (by simp) (by simp only[ruU,Nat.reduceEqDiff]; exact hc) mg (by simp[]) ?_
    intro Z D mZ hgF hgN hnZ hD
    have hD0:D=[]:=List.eq_nil_iff_forall_not_mem.2 fun n hn=>by have:=hD n hn; simp at this
    subst hD0
    replace mZ:Mod [] U Z:=mZ
    replace hnZ:Z.next=g.next:=hnZ
    have vwZ:VsAt Z 183 3 w (frC (s.fs.dropLast++[(⟨19,t.height,t.bound⟩:Fr)])) (s.fs.dropLast++[(⟨19,t.height,t.bound⟩:Fr)]).length:=vw.of (zD0 hnZ.symm) fun n hn=>hgN n (hwlo n hn) (vw.ne n hn).2
    have fw:=FrAt.vs vwZ
    have hwid:∀ n∈idsV w,n<b\/y<=n:=fun n hn=>.inr (by have:=hwlo n hn; omega)
    obtain⟨z,hz⟩:=Go.Ax.exq Z.next
    have okZ:=mZ.ok okU
    have lz:u<=z:=by have:=mZ.next; omega
    have hfZ:=hfU.mod0 mZ
    have sw:=fw.sc
    obtain⟨wa,wc,ew⟩:=fw.sl
    rw[ew,hz]at sw
    rw[ew]at fw hwid
    have sw0:=scb_mono (show z<=z+0 by omega) _ sw
    have szw:=scb_mono (show b<=z+0 by omega) _ sfv
    replace k0:=(mZ.bk (by omega) (by simp)).trans k0
    replace k1:=(mZ.bk (by omega) (by simp)).trans k1
    replace k2:=(mZ.bk (by omega) (by simp)).trans k2
    replace k3:=(mZ.bk (by omega) (by simp)).trans k3
    replace k5:=(mZ.bk (by omega) (by simp)).trans k5
    have k4:=(mZ.bk (by omega) (by simp)).trans u4
    replace j0:b+0<z:=by omega
    replace j1:b+1<z:=by omega
    replace j2:b+2<z:=by omega
    replace j3:b+3<z:=by omega
    replace j4:x+0<z:=by omega
    replace j5:x+1<z:=by omega
    rw[ew]
    rw[show Z=ext Z [] from rfl]
    simp only[hz,k4,j4,hA,not_false_eq_true,sw0,ruD,ruW,putL,Nat.reduceLeDiff,xF,ruU,Nat.reduceLT,Nat.reduceAdd,Nat.reduceEqDiff]
    refine w_drawB [] [] (by kernel_rfl) (by kernel_rfl) rfl fun ops anc hA hG=>?_
    simp only[hz,k2,k3,k4,k5,j2,j3,j4,j5,dd,de,not_false_eq_true,sw0,szw,qk_old,Tryz.results108,ruD,ruW,putL,Nat.reduceLeDiff,xF,ruU,Nat.reduceLT,Nat.reduceAdd,Nat.reduceEqDiff]
    rw[ext_nil]
    have fin5:∀ F,Mod [b+2,b+3,x+0,x+1] Z F->(∀ v fs,FrAt 183 Z v fs->(∀ n∈idsV v,n<b\/y<=n)->FrAt 183 F v fs)/\Mod [] H F:=fun F mF=>⟨fun v fs hv hi=>hv.mod mF fun n hn=>by
     have:=hi n hn
     simp only[zA8,zC0,or_false]
     omega,((mY.step mU hok fun n hn=>.inr (by simp only[zA5]at hn; omega)).trans mZ).step mF hok fun n hn=>.inr (by simp only[zA8,zC0,or_false]at hn; omega)⟩
    refine (fun hm=>⟨_,_,rfl,(fin5 _ hm).1 _ _ fw hwid,(fin5 _ hm).1 _ _ hfZ hfid,(fin5 _ hm).2⟩) ?_
    exact ((Mod.uw (by simp)).trans (Mod.uw (by simp))).trans (Mod.uw (by simp))
  ·have haft:aftR 20 args s=(⟨h',s.b,s.fs.dropLast⟩,⟨h',s.b,s.fs⟩):=by
    unfold aftR
    rw[hpq,if_neg (by omega),if_neg (by omega),if_neg (by omega),if_neg (by omega),if_neg (by omega),if_neg (by omega),if_pos rfl]
    simp only[hh']
   rw[haft]
   have hcY:FrAt 183 Y (.slice ca (s.fs.length-1) cc) s.fs.dropLast:=fcut
   simp only[zB4]at k0
   simp only[zB4,Int.reduceEq,hy,k1,k4,j1,j4,hT,hF,not_false_eq_true,hwl,hsl,scu0,qk_old,ruW,putL,Nat.reduceLeDiff,xF,ruU,Nat.reduceLT,Nat.reduceAdd,Nat.reduceEqDiff]
   refine w_drawB [] [] (by kernel_rfl) (by kernel_rfl) rfl fun ops anc hA hG=>?_
   simp only[hy,k2,k3,k4,k5,j2,j3,j4,j5,dd,de,not_false_eq_true,syw,scu0,qk_old,Tryz.results108,ruD,ruW,putL,Nat.reduceLeDiff,xF,ruU,Nat.reduceLT,Nat.reduceAdd,Nat.reduceEqDiff]
   rw[ext_nil]
   refine (fun hm=>⟨_,_,rfl,(fin2 Y _ Mod.refl hm).1 _ _ hcY hcid,(fin2 Y _ Mod.refl hm).1 _ _ hfY hfid,(fin2 Y _ Mod.refl hm).2⟩) ?_
   exact ((Mod.uw (by simp)).trans (Mod.uw (by simp))).trans (Mod.uw (by simp))
 have haft:aftR op args s=(⟨h',s.b,s.fs⟩,⟨h',s.b,s.fs⟩):=by
  unfold aftR
  rw[hpq,if_neg (by omega),if_neg (by omega),if_neg (by omega),if_neg (by omega),if_neg (by omega),if_neg (by omega),if_neg (by omega)]
  simp only[hh']
 rw[haft]
 have hcs:op=0\/op=1\/op=2\/op=3\/op=4\/op=5\/op=6\/op=9\/op=10\/op=11\/op=12\/op=15\/op=21\/op=22\/op=23\/op=24\/op=25\/op=26\/op=27:=by omega
 rcases hcs with rfl|rfl|rfl|rfl|rfl|rfl|rfl|rfl|rfl|rfl|rfl|rfl|rfl|rfl|rfl|rfl|rfl|rfl|rfl
 all_goals
  simp only[zB4]at k0
  simp only[zB4,Int.reduceEq,hF,not_false_eq_true,ruW,ruU,Nat.reduceLT,Nat.reduceEqDiff]
  refine w_drawB [] [] (by kernel_rfl) (by kernel_rfl) rfl fun ops anc hA hG=>?_
  simp only[hy,k2,k3,k4,k5,j2,j3,j4,j5,de,not_false_eq_true,syw,qk_old,Tryz.results108,ruD,ruW,putL,Nat.reduceLeDiff,xF,ruU,Nat.reduceLT,Nat.reduceAdd,Nat.reduceEqDiff]
  rw[ext_nil]
  refine (fun hm=>⟨_,_,rfl,(fin2 Y _ Mod.refl hm).1 _ _ hfY hfid,(fin2 Y _ Mod.refl hm).1 _ _ hfY hfid,(fin2 Y _ Mod.refl hm).2⟩) ?_
  exact (Mod.uw (by simp)).trans (Mod.uw (by simp))
set_option maxRecDepth 100000
abbrev Ks:=List (Option St)
def knU (ks:Ks) (dn:List Bool) (i:Nat):Bool:=(ks.getD i none).isSome&&!dn.getD i false
def nxtR (ks:Ks) (dn:List Bool):Option Nat:=(List.range ks.length).find? (knU ks dn)
def queR (ks:Ks) (dn:List Bool):List Nat:=(List.range ks.length).filter (knU ks dn)
def prR (depth:Int) (l:List Ins) (ks:Ks) (i:Nat):Except Int Ks:=procR 9 19 12 13 depth 200 1000 l ks i
def posR (l:List Ins) (i:Nat):Int:=match l[i]? with
 |some x=>x.pos
 |none=>0
def runR (depth:Int) (l:List Ins):Nat->Ks->List Bool->Except (Int × Int) Ks
 |0,ks,_=>.ok ks
 |n+1,ks,dn=>match nxtR ks dn with
  |none=>.ok ks
  |some i=>match prR depth l ks i with
   |.error e=>.error (e,posR l i)
   |.ok ks=>runR depth l n ks (dn.set i true)
def leftR (dn:List Bool):Nat:=(dn.filter (! ·)).length
theorem left_set:∀ {dn:List Bool} {i:Nat},dn[i]?=some false->leftR dn=leftR (dn.set i true)+1
 |b::r,0,h=>by
  simp only[zE7,Option.some.injEq]at h
  subst h
  simp[leftR]
 |b::r,i+1,h=>by
  rw[zE2]at h
  have:=left_set h
  simp only[leftR]at this
  cases b<;>simp[leftR,this]
theorem left_rep (n:Nat):leftR (List.replicate n false)=n:=by simp[leftR]
theorem nxt_some {ks:Ks} {dn:List Bool} {i:Nat} (h:nxtR ks dn=some i):i<ks.length/\(∃ s,ks[i]?=some (some s))/\dn.getD i false=false/\∀ j,j<i->knU ks dn j=false:=by
 rw[nxtR,List.find?_range_eq_some]at h
 obtain⟨h1,h2,h3⟩:=h
 rw[List.mem_range]at h2
 simp only[knU,zA7,Bool.not_eq_true']at h1
 refine⟨h2,?_,h1.2,fun j hj=>?_⟩
 ·rw[zA9,zA4 h2]at h1
  cases hk:ks[i]with
  |none=>rw[hk]at h1; simp at h1
  |some s=>exact⟨s,by rw[zA4 h2,hk]⟩
 ·simpa using h3 j hj
theorem nxt_of {ks:Ks} {dn:List Bool} {i:Nat} (hi:i<ks.length) (hk:knU ks dn i=true) (h:∀ j,j<i->knU ks dn j=false):nxtR ks dn=some i:=by
 rw[nxtR,List.find?_range_eq_some]
 exact⟨hk,List.mem_range.2 hi,fun j hj=>by rw[h j hj]; rfl⟩
theorem nxt_none {ks:Ks} {dn:List Bool} (h:∀ j,j<ks.length->knU ks dn j=false):nxtR ks dn=none:=by
 rw[nxtR,List.find?_eq_none]
 intro x hx
 rw[List.mem_range]at hx
 rw[h x hx]
 simp
theorem nxt_head {ks:Ks} {dn:List Bool}:nxtR ks dn=(queR ks dn).head?:=by rw[nxtR,queR,List.head?_filter]
theorem que_give {ks:Ks} {dn:List Bool} {i:Nat} {s:St} (hi:i<ks.length) (h0:ks.getD i none=none) (hd:dn.getD i false=false) :
  queR (ks.set i (some s)) dn=(queR ks dn).filter (fun j=>decide (j<i))++i::(queR ks dn).filter (fun j=>decide (i<j)):=by
 obtain⟨m,hm⟩:∃ m,ks.length=i+(m+1):=⟨ks.length-i-1,by omega⟩
 have hr:List.range ks.length=List.range' 0 i++i::List.range' (i+1) m:=by
  rw[hm,List.range_eq_range',<-List.range'_append_1,zC1,List.range'_succ]
 have e1:∀ j,j≠i->knU (ks.set i (some s)) dn j=knU ks dn j:=fun j hj=>by
  rw[knU,knU,zA9,List.getElem?_set_ne (fun h=>hj h.symm),<-zA9]
 have e2:knU (ks.set i (some s)) dn i=true:=by
  rw[knU,zA9,List.getElem?_set_self (by omega),hd]; rfl
 have e3:knU ks dn i=false:=by rw[knU,h0]; rfl
 have a1:∀ j∈List.range' 0 i,j<i:=fun j hj=>by rw[List.mem_range'_1]at hj; omega
 have a2:∀ j∈List.range' (i+1) m,i<j:=fun j hj=>by rw[List.mem_range'_1]at hj; omega
 rw[queR,queR,List.length_set,hr]
 simp only[List.filter_append,List.filter_cons,e2,e3,if_true,List.filter_filter]
 congr 1
 ·rw[List.filter_congr fun j hj=>e1 j (by have:=a1 j hj; omega)]
  have h1:(List.range' 0 i).filter (fun a=>decide (a<i)&&knU ks dn a)=(List.range' 0 i).filter (knU ks dn):=List.filter_congr fun j hj=>by simp[a1 j hj]
  have:(List.range' (i+1) m).filter (fun a=>decide (a<i)&&knU ks dn a)=[]:=by
   rw[List.filter_eq_nil_iff]
   intro j hj
   have:=a2 j hj
   simp only[zA7,decide_eq_true_eq,not_and]
   omega
  simp[this,h1]
 ·congr 1
  rw[List.filter_congr fun j hj=>e1 j (by have:=a2 j hj; omega)]
  have h1:(List.range' (i+1) m).filter (fun a=>decide (i<a)&&knU ks dn a)=(List.range' (i+1) m).filter (knU ks dn):=List.filter_congr fun j hj=>by simp[a2 j hj]
  have h2:(List.range' 0 i).filter (fun a=>decide (i<a)&&knU ks dn a)=[]:=by
   rw[List.filter_eq_nil_iff]
   intro j hj
   have:=a1 j hj
   simp only[zA7,decide_eq_true_eq,not_and]
   omega
  simp[h1,h2]
theorem que_done {ks:Ks} {dn:List Bool} {i:Nat} {r:List Nat} (hlen:dn.length=ks.length) (h:queR ks dn=i::r):queR ks (dn.set i true)=r:=by
 have hn:nxtR ks dn=some i:=by rw[nxt_head,h]; rfl
 obtain⟨h1,_,h2,h3⟩:=nxt_some hn
 have hnd:(queR ks dn).Nodup:=List.Pairwise.filter _ List.nodup_range
 have he:queR ks (dn.set i true)=(queR ks dn).filter fun j=>decide (j≠i):=by
  rw[queR,queR,List.filter_filter]
  refine List.filter_congr fun j hj=>?_
  by_cases hji:j=i
  ·subst hji
   have:knU ks (dn.set j true) j=false:=by
    rw[knU]
    rw[zA9 (l:=dn.set j true),List.getElem?_set_self (by omega)]
    simp
   simp[this]
  ·simp only[knU,zA9]
   rw[List.getElem?_set_ne (fun h=>hji h.symm)]
   simp[hji]
 rw[he,h]
 rw[h]at hnd
 have hr:=(List.nodup_cons.1 hnd).1
 rw[List.filter_cons,if_neg (by simp)]
 rw[List.filter_eq_self]
 intro j hj
 exact decide_eq_true fun e=>hr (e▸hj)
theorem que_sorted (ks:Ks) (dn:List Bool):(queR ks dn).Pairwise (· < ·):=List.Pairwise.filter _ List.pairwise_lt_range
def statO (l:List Ins) (cn:Nat) (x:Ins):Option (Int × Int) :=
 if (constsR x.op.toNat x.args).any (fun k=>decide ((cn:Int)<=k))=true then some (3,x.pos) else
 if x.op.toNat=8/\x.args.getD 0 0=0 then some (3,x.pos) else
 if (targsR x.op.toNat x.args).any (fun t=>decide (findR l t<0))=true then some (5,x.pos) else none
def statR (l:List Ins) (cn:Nat):Option (Int × Int):=l.findSome? (statO l cn)
def entS (h:Int):St:=⟨h,0,[]⟩
def hghR (ks:Ks):List Int:=ks.map fun o=>match o with
 |some s=>s.h
 |none=>-1
set_option maxRecDepth 100000
theorem put_nl:∀ (l:List Value) (off:Nat),putL l off []=l
 |[],0=>rfl
 |[],_+1=>rfl
 |_::_,0=>rfl
 |x::r,k+1=>by rw[putL,put_nl r k]
theorem put_app:∀ (A L:List Value) (n:Nat) (v:List Value),putL (A++L) (A.length+n) v=A++putL L n v
 |[],L,n,v=>by rw[zC5,zC7,zC1,zC5]
 |a::A,L,n,v=>by
  rw[zF2,zB0,show A.length+1+n=(A.length+n)+1 by omega,putL,put_app A L n v,zF2]
theorem set_same {α:Type}:∀ {l:List α} {i:Nat} {a:α},l[i]?=some a->l.set i a=l
 |b::r,0,a,h=>by
  simp only[zE7,Option.some.injEq]at h
  rw[h,List.set_cons_zero]
 |b::r,i+1,a,h=>by
  rw[zE2]at h
  rw[List.set_cons_succ,set_same h]
abbrev Rs:=Option (St × Value) × Bool
def rsC:Rs->List Value
 |(none,d)=>[.bool false,.bool d,.int .i64 0,.int .i64 0,.slice none 0 0]
 |(some (s,v),d)=>[.bool true,.bool d,.int .i64 s.h,.int .i64 s.b,v]
def rsL (l:List Rs):List Value:=l.flatMap rsC
def rsK (l:List Rs):Ks:=l.map fun x=>x.1.map (·.1)
def rsD (l:List Rs):List Bool:=l.map (·.2)
theorem rsC_len (x:Rs):(rsC x).length=5:=by obtain⟨_|⟨s,v⟩,d⟩:=x<;>rfl
theorem rsL_cons (x:Rs) (l:List Rs):rsL (x::l)=rsC x++rsL l:=rfl
theorem rsL_len (l:List Rs):(rsL l).length=l.length*5:=by
 induction l with
 |nil=>rfl
 |cons x r ih=>rw[rsL_cons,zC3,rsC_len,ih,zB0]; omega
theorem rsL_at:∀ {l:List Rs} {i:Nat} {x:Rs},l[i]?=some x->((rsL l).drop (i*5)).take 5=rsC x
 |y::r,0,x,h=>by
  simp only[zE7,Option.some.injEq]at h
  subst h
  rw[rsL_cons,zE9,zF0,List.take_append,zE0 (by rw[rsC_len]; exact zB1 _),rsC_len]
  simp
 |y::r,i+1,x,h=>by
  rw[zE2]at h
  rw[show (i+1)*5=5+i*5 by omega,rsL_cons,List.drop_append,List.drop_eq_nil_of_le (by rw[rsC_len]; omega),rsC_len,zC5]
  rw[show 5+i*5-5=i*5 by omega]
  exact rsL_at h
theorem rsL_fld {l:List Rs} {i k:Nat} {x:Rs} (h:l[i]?=some x) (hk:k<5):(rsL l)[i*5+k]?=(rsC x)[k]?:=by
 have h1:=rsL_at h
 have h2:=congrArg (fun q=>q[k]?) h1
 simp only[List.getElem?_take,if_pos hk,List.getElem?_drop]at h2
 exact h2
theorem rsL_set:∀ {l:List Rs} {i:Nat} {x y:Rs} {o:Nat} {vs:List Value},l[i]?=some x->o+vs.length<=5->putL (rsC x) o vs=rsC y->putL (rsL l) (i*5+o) vs=rsL (l.set i y)
 |a::l,0,x,y,o,vs,h,ho,hp=>by
  simp only[zE7,Option.some.injEq]at h
  subst h
  rw[List.set_cons_zero,rsL_cons,rsL_cons,zE9,zC1,<-hp]
  have:∀ (A L:List Value) (o:Nat) (vs:List Value),o+vs.length<=A.length->putL (A++L) o vs=putL A o vs++L:=by
   intro A
   induction A with
   |nil =>
    intro L o vs ho
    simp only[zC7,Nat.le_zero_eq,Nat.add_eq_zero_iff]at ho
    obtain⟨rfl,hv⟩:=ho
    have:=zE5 hv
    subst this
    rw[put_nl,put_nl]
   |cons b A ih =>
    intro L o vs ho
    cases o with
    |zero =>
     cases vs with
     |nil=>rw[put_nl,put_nl]
     |cons w vs =>
      simp only[zF2,putL]
      rw[ih L 0 vs (by simp only[zB0]at ho; omega)]
    |succ o =>
     simp only[zF2,putL]
     rw[ih L o vs (by simp only[zB0]at ho; omega)]
  rw[this _ _ _ _ (by rw[rsC_len]; exact ho)]
 |a::l,i+1,x,y,o,vs,h,ho,hp=>by
  rw[zE2]at h
  rw[List.set_cons_succ,rsL_cons,rsL_cons,show (i+1)*5+o=(rsC a).length+(i*5+o) by rw[rsC_len]; omega,put_app,rsL_set h ho hp]
theorem u95:Tryz.prog.underlying 95=some (.slice 100):=by kernel_rfl
theorem s100:szOf Tryz.prog 100=some 5:=by kernel_rfl
theorem ag100:aggT Tryz.prog 100=some true:=by kernel_rfl
structure ASt (H:AHeap) (n:Nat) (l:List Rs):Prop where
 blk:bk H n=some ⟨100,false,rsL l⟩
 lt:n<H.next
 fr:∀ x∈l,∀ s v,x.1=some (s,v)->FrAt 183 H v s.fs/\n∉idsV v
 un:∀ x∈l,x.1=none->x.2=false
section
variable {H G : AHeap} {n : Nat} {l : List Rs} {i : Nat} {x : Rs}
theorem ASt.mod0 (a:ASt H n l) (m:Mod [] H G):ASt G n l:=⟨(m.bk a.lt (by simp)).trans a.blk,zE1 a.lt m.next,fun x hx s v h=>⟨(a.fr x hx s v h).1.mod0 m,(a.fr x hx s v h).2⟩,a.un⟩
theorem ASt.at_ (a:ASt H n l) (hi:l[i]?=some x):aIndexAddr Tryz.prog 95 (.slice (some ⟨n,0,some 0⟩) l.length l.length) (.int .i64 (i:Int))=some (.pointer (some ⟨n,0+i*5,none⟩))/\(∀ e o,ldB Tryz.prog 100 (0+i*5) (some ⟨e,o,rsL l⟩)=some (.agg ⟨rsC x⟩))/\∀ k,k<5->(rsL l)[0+i*5+k]?=(rsC x)[k]?:=by
 have hl:=(zF4.1 hi).1
 refine⟨ia_of u95 s100 hl,fun e o=>?_,fun k hk=>by rw[zC1]; exact rsL_fld hi hk⟩
 rw[ld_agg ag100,s100,zA3,if_pos (by rw[rsL_len]; omega),zC1,rsL_at hi]
theorem rsK_get:(rsK l)[i]?=l[i]?.map fun x=>x.1.map (·.1):=by simp[rsK]
theorem rsK_set {s:St} {v:Value} {d:Bool}:rsK (l.set i (some (s,v),d))=(rsK l).set i (some s):=by simp[rsK,List.map_set]
theorem rsD_set {y:Option (St × Value)} {d:Bool}:rsD (l.set i (y,d))=(rsD l).set i d:=by simp[rsD,List.map_set]
end
theorem give109_c (H:AHeap) (n:Nat) (l:List Rs) (i:Nat) (s:St) (v:Value) (A:ASt H n l) (hi:i<l.length) (hl:l.length<=100000) (hf:FrAt 183 H v s.fs) (hnv:n∉idsV v) (hsl:s.fs.length<=1000000) (hok:H.base<=H.next) (hkl:∀ t,(rsK l)[i]?=some (some t)->t.fs.length<=1000000) :
  CallA Tryz.prog 109 [.slice (some ⟨n,0,some 0⟩) l.length l.length,.int .i64 (i:Int),stV true false s v] H (fun out X=>Mod [n] H X/\∃ l',ASt X n l'/\rsD l'=rsD l/\l'.length=l.length/\out=.ok (.bool (giveR (rsK l) i s).isSome)/\∀ ks,giveR (rsK l) i s=some ks->rsK l'=ks):=by
 obtain⟨b,hb⟩:=Go.Ax.exq H.next
 have hbase:H.base<=b:=hb▸hok
 obtain⟨f0,fc,ef⟩:=hf.sl
 have sfv:=hf.sc
 rw[hb,ef]at sfv
 have sfv1:=scb_mono (show b<=b+1 by omega) _ sfv
 obtain⟨x,hx⟩:∃ x,l[i]?=some x:=⟨_,zA4 hi⟩
 have hnb:n<b:=hb▸A.lt
 obtain⟨ia,ld,lf⟩:=A.at_ hx
 have lf0:=lf 0 (by omega)
 rw[zD4]at lf0
 have hk:=A.blk
 have hks:(rsK l).getD i none=x.1.map (·.1):=by rw[zA9,rsK_get,hx]; rfl
 refine callE_fn mixed Tryz.func109 rfl Tryz.ntmps109 (zB2 rfl) ?_
 rw[ef]
 unfold stV
 obtain⟨x1,xd⟩:=x
 cases x1 with
 |none =>
  have lf0':(rsL l)[0+i*5]?=some (.bool false):=lf0
  have hst:stB Tryz.prog 100 (b+1) (0+i*5) (.agg #[.bool true,.bool false,.int .i64 s.h,.int .i64 s.b,.slice f0 s.fs.length fc]) (some ⟨100,false,rsL l⟩)=some ⟨100,false,putL (rsL l) (0+i*5) [.bool true,.bool false,.int .i64 s.h,.int .i64 s.b,.slice f0 s.fs.length fc]⟩:=stB_ok s100 (by
   show 0+i*5+5<=_
   rw[rsL_len]; omega) rfl (by
   show (true&&(true&&(true&&(true&&(scb _ _&&true)))))=true
   rw[sfv1]; rfl)
  simp only[hb,sfv,ia,hk,hnb,lf0',hst,Tryz.results109,ruW,Nat.reduceLeDiff,xF,ruU,entryE,Nat.reduceLT,Nat.reduceAdd,Nat.reduceEqDiff]
  generalize hF:ext _ _=F
  have mF:Mod [n] H F:=hF▸(Mod.uw (by simp)).trans (Mod.ext (by rw[uw_base,uw_next,hb]; exact hbase))
  have hunk:=A.un _ (zF1 hx) rfl
  simp only at hunk
  subst hunk
  have kF:bk F n=some ⟨100,false,rsL (l.set i (some (s,.slice f0 s.fs.length fc),false))⟩:=by
   rw[<-hF,bk_old (by rw[uw_next,hb]; exact hnb),bk_uw_eq,hk,zA6,putB_eq,zC1]
   rw[<-rsL_set (o:=0) (vs:=[.bool true,.bool false,.int .i64 s.h,.int .i64 s.b,.slice f0 s.fs.length fc]) hx (by simp) rfl]
   rfl
  have hg:giveR (rsK l) i s=some ((rsK l).set i (some s)):=by rw[giveR,hks]; rfl
  rw[hg]
  refine⟨mF,_,⟨kF,by have:=mF.next; omega,fun z hz t tv ht=>?_,fun z hz h0=>?_⟩,?_,by rw[List.length_set],rfl,fun ks h=>?_⟩
  ·rcases List.mem_or_eq_of_mem_set hz with hz|rfl
   ·obtain⟨h1,h2⟩:=A.fr z hz t tv ht
    exact⟨h1.mod mF fun k hk hn=>by simp only[zA5]at hn; exact h2 (hn▸hk),h2⟩
   ·simp only[Option.some.injEq,Prod.mk.injEq]at ht
    obtain⟨rfl,rfl⟩:=ht
    rw[ef]at hf hnv
    exact⟨hf.mod mF fun k hk hn=>by simp only[zA5]at hn; exact hnv (hn▸hk),hnv⟩
  ·rcases List.mem_or_eq_of_mem_set hz with hz|rfl
   ·exact A.un z hz h0
   ·cases h0
  ·rw[rsD_set]
   exact set_same (by rw[rsD,zE6,hx]; rfl)
  ·rw[rsK_set]
   exact Option.some.inj h
 |some p =>
  obtain⟨t,tv⟩:=p
  have lf0':(rsL l)[0+i*5]?=some (.bool true):=lf0
  simp only[hb,sfv,ia,hk,hnb,lf0',ruW,xF,ruU,entryE,Nat.reduceLT,Nat.reduceAdd,Nat.reduceEqDiff]
  obtain⟨ht,htn⟩:=A.fr _ (zF1 hx) t tv rfl
  have hg:giveR (rsK l) i s=if t=s then some (rsK l) else none:=by rw[giveR,hks]; rfl
  refine w_drawB [(5,4),(5,3)] [] (by kernel_rfl) (by kernel_rfl) rfl fun ops anc hA hG=>?_
  simp only[all2_cons]at hA
  simp only[hb,ia,hk,hnb,ld,ruD,ruW,Nat.reduceLeDiff,xF,ruU,Nat.reduceLT,Nat.reduceAdd,Nat.reduceEqDiff]
  rw[ef]at hf
  have mE:∀ L,Mod [] H (ext H L):=fun L=>Mod.ext hok
  refine genV_quiet (v:=.bool (decide (t=s))) (idsV tv++idsV (.slice f0 s.fs.length fc)) rfl (by kernel_rfl) (by decide) (fun k hk=>?_) (fun G h1 h2=>?_) (by simp[Meets]) ?_
  ·rcases zB9.1 hk with hk|hk
   ·exact ((ht.mod0 (mE _)).ne k hk).1
   ·exact ((hf.mod0 (mE _)).ne k hk).1
  ·simp only[ruU,Nat.reduceEqDiff]
   exact same133_c G true xd true false t s tv (.slice f0 s.fs.length fc) ((ht.mod0 (mE _)).of (zD0 h1.symm) fun k hk=>h2 k (List.mem_append_left _ hk)).rd ((hf.mod0 (mE _)).of (zD0 h1.symm) fun k hk=>h2 k (zF9 _ hk)).rd (hkl t (by rw[rsK_get,hx]; rfl))
  simp only[Tryz.results109,ruD,ruW,ruU,Nat.reduceLT,Nat.reduceAdd]
  refine⟨(mE _).mono (by simp),l,A.mod0 (mE _),rfl,rfl,?_,fun ks h=>?_⟩
  ·rw[hg]
   by_cases e:t=s<;>simp[e]
  ·rw[hg]at h
   split at h
   ·exact Option.some.inj h
   ·cases h
set_option maxRecDepth 100000
def WfI (x:Ins):Prop:=0<=x.op/\x.op<28/\x.args.length=(kindsR x.op.toNat x.args).length/\∀ y∈x.args,0<=y/\y<=65535
theorem WfI.len {x:Ins} (w:WfI x) (h:(kindsR x.op.toNat x.args).length≠0):0<x.args.length:=by have:=w.2.2.1; omega
theorem fix_len:∀ op:Fin 28,op.val≠3->op.val≠15->op.val≠19->op.val≠20->op.val≠26->op.val≠27->op.val≠17->op.val≠24->(kindsR op.val []).length≠0:=by decide +kernel
theorem WfI.pos {x:Ins} (w:WfI x) (h:x.op.toNat≠3/\x.op.toNat≠15/\x.op.toNat≠19/\x.op.toNat≠20/\x.op.toNat≠26/\x.op.toNat≠27):0<x.args.length:=by
 have h0:=w.1
 have h1:=w.2.1
 refine w.len fun hk=>?_
 by_cases h17:x.op.toNat=17
 ·rw[h17,show kindsR 17 x.args=guardR x.args from rfl]at hk
  by_cases hn:x.args=[]
  ·rw[hn]at hk; cases hk
  ·have:=guard_len hn
   omega
 by_cases h24:x.op.toNat=24
 ·rw[h24,show kindsR 24 x.args=envR x.args from rfl]at hk
  by_cases hn:x.args.length<2
  ·have:=env_len0 hn
   omega
  ·have:=env_len (args:=x.args) (by omega)
   omega
 rw[fix_same (by omega) h17 h24]at hk
 exact fix_len ⟨x.op.toNat,by omega⟩ h.1 h.2.1 h.2.2.1 h.2.2.2.1 h.2.2.2.2.1 h.2.2.2.2.2 h17 h24 hk
theorem WfI.fst {x:Ins} (w:WfI x) (h:0<x.args.length):0<=x.args.getD 0 0/\x.args.getD 0 0<=65535:=by
 rw[zA9,zA4 h]
 exact w.2.2.2 _ (List.getElem_mem h)
theorem evens_len:∀ l:List Int,(evens l).length<=l.length
 |[]=>zB1 _
 |[a]=>zB1 _
 |a::b::r=>by
  have:=evens_len r
  simp only[evens,zB0]
  omega
theorem consts_len (op:Nat) (args:List Int):(constsR op args).length<=args.length+1:=by
 unfold constsR
 split
 ·simp
 split
 ·have:=evens_len (args.drop 1)
  rw[zF8]at this
  omega
 ·simp
theorem targs_len (op:Nat) (args:List Int):(targsR op args).length<=args.length+1:=by
 unfold targsR
 split
 ·simp
 split
 ·have:=evens_len (args.drop 2)
  rw[zF8]at this
  omega
 ·simp
def outF:Option (Int × Int)->Value
 |some (e,a)=>fltV e a
 |none=>fltV 0 0
theorem stat_at {l:List Ins} {cn i:Nat} {x:Ins} {r:Int × Int} (h:l[i]?=some x) (hr:statO l cn x=some r) (hb:∀ k,k<i->∀ y,l[k]?=some y->statO l cn y=none):statR l cn=some r:=by
 have:∀ (m:List Ins) (i:Nat),m[i]?=some x->(∀ k,k<i->∀ y,m[k]?=some y->statO l cn y=none)->m.findSome? (statO l cn)=some r:=by
  intro m
  induction m with
  |nil=>intro i h; simp at h
  |cons a m ih =>
   intro i h hb
   cases i with
   |zero =>
    simp only[zE7,Option.some.injEq]at h
    rw[List.findSome?_cons,h,hr]
   |succ i =>
    rw[zE2]at h
    rw[List.findSome?_cons,hb 0 (by omega) a rfl]
    exact ih i h fun k hk y hy=>hb (k+1) (by omega) y (by rw[zE2]; exact hy)
 exact this l i h hb
theorem stat_not {l:List Ins} {cn:Nat} (hb:∀ (k:Nat) (y:Ins),l[k]?=some y->statO l cn y=none):statR l cn=none:=by
 rw[statR,List.findSome?_eq_none_iff]
 intro x hx
 obtain⟨k,hk,e⟩:=List.mem_iff_getElem.1 hx
 exact hb k x (by rw[zA4 hk,e])
theorem static78_c (H:AHeap) (least most depth:Int) (u v:Value) (ca:Option Addr) (cn cc:Nat) (bn:Nat) (ba:Option Addr) (bc:Nat) (hu:u=.slice ba bn bc) (ls:List Iv) (hi:InsRd H v ls) (hl:ls.length<=100000) (hw:∀ x∈ls,WfI x.1) (hal:∀ x∈ls,x.1.args.length<=1000000) (su:scb H.next u=true) (sc:scb H.next (.slice ca cn cc)=true) (hok:H.base<=H.next) :
  CallA Tryz.prog 78 [cdV least most depth u (.slice ca cn cc),v] H (fun out X=>Mod [] H X/\out=.ok (outF (statR (ls.map (·.1)) cn))):=by
 obtain⟨b,hb⟩:=Go.Ax.exq H.next
 have hbase:H.base<=b:=hb▸hok
 obtain⟨a0,c0,e0⟩:=hi.rd.sl
 subst hu
 rw[hb]at su sc
 refine callE_fn mixed Tryz.func78 rfl Tryz.ntmps78 (zB2 rfl) ?_
 unfold cdV
 simp only[hb,su,sc,ruW,xF,ruU,entryE,Nat.reduceLT,Nat.reduceAdd,Nat.reduceEqDiff]
 generalize hX:ext H _=X
 have mX:Mod [] H X:=hX▸Mod.ext hok
 have nX:X.next=b+2:=by rw[<-hX,ext_next,hb]; rfl
 have k0:bk X (b+0)=some ⟨33,false,[.int .i64 least,.int .i64 most,.int .i64 depth,.slice ba bn bc,.slice ca cn cc]⟩:=by rw[<-hX,bk_at hb (by simp)]; rfl
 have k1:bk X (b+1)=some ⟨26,false,[.int .i64 0,.int .i64 0]⟩:=by rw[<-hX,bk_at hb (by simp)]; rfl
 clear hX
 have okX:=mX.ok hok
 have hiX:=hi.mod0 mX
 refine w_env fun E hE=>?_
 have g1:E 1=v:=by rw[hE]; rfl
 have g2:E 2=.pointer (some ⟨b+0,0,none⟩):=by rw[hE]; rfl
 have g4:E 4=.pointer (some ⟨b+1,0,none⟩):=by rw[hE]; rfl
 have g5:E 5=.int .i64 ((0:Nat):Int):=by rw[hE]; rfl
 clear hE
 refine w_loop (fun (i:Nat) E' X'=>Mod [] X X'/\i<=ls.length/\(∀ k,k<i->∀ y,(ls.map (·.1))[k]?=some y->statO (ls.map (·.1)) cn y=none)/\E' 1=v/\E' 2=.pointer (some ⟨b+0,0,none⟩)/\E' 4=.pointer (some ⟨b+1,0,none⟩)/\E' 5=.int .i64 (i:Int)) (fun i=>ls.length-i) 0 ⟨Mod.refl,zB5 _,fun k hk=>absurd hk (by omega),g1,g2,g4,g5⟩ ?_
 clear g1 g2 g4 g5 E
 rintro i E Y ⟨mY,hil,hall,g1,g2,g4,g5⟩
 have hiY:=hiX.mod0 mY
 have k1Y:=(mY.bk (by omega) (by simp)).trans k1
 have okY:=mY.ok okX
 obtain⟨y,hy⟩:=Go.Ax.exq Y.next
 have ly:b+2<=y:=by have:=mY.next; omega
 have j1:b+1<y:=by omega
 rw[show Y=ext Y [] from rfl]
 by_cases hie:i=ls.length
 ·have hd:decide ((i:Int)<(ls.length:Int))=false:=decide_eq_false (by omega)
  have g1s:=g1
  rw[e0]at g1s
  simp only[g1s,g4,g5,hy,k1Y,j1,hd,Tryz.results78,ruW,putL,Nat.reduceLeDiff,xF,ruU,Nat.reduceLT,Nat.reduceAdd,Nat.reduceEqDiff]
  rw[ext_nil]
  refine⟨(mX.trans mY).step (Mod.uw (n:=b+1) (W:=[b+1]) (by simp)) hok fun n hn=>.inr (by simp only[zA5]at hn; omega),?_⟩
  rw[stat_not fun k y hy=>hall k (by have:=(zF4.1 hy).1; rw[zC9]at this; omega) y hy]
  rfl
 ·have hil':i<ls.length:=by omega
  have hd:decide ((i:Int)<(ls.length:Int))=true:=decide_eq_true (by omega)
  obtain⟨x,hx⟩:∃ x,ls[i]?=some x:=⟨_,zA4 hil'⟩
  have hxm:x∈ls:=zF1 hx
  have hxl:(ls.map (·.1))[i]?=some x.1:=by rw[zE6,hx]; rfl
  obtain⟨n,off,s,c,e,o,M,e1,n1,r1,ia,ld,l0,l1,l2⟩:=hiY.fld hx
  have hxr:=hiY.av x hxm
  have hxs:=hiY.sc x hxm
  have hxw:=hw x hxm
  have hxa:=hal x hxm
  obtain⟨⟨pos,opi,args⟩,av⟩:=x
  obtain⟨op,rfl⟩:∃ q:Nat,opi=q:=⟨opi.toNat,by have:=hxw.1; simp only at this; omega⟩
  simp only at hxr hxs hxw hxa l0 l1 l2
  have hop:op<28:=by have:=hxw.2.1; simp only at this; omega
  have hpos:=hxw.pos
  simp only[zD7]at hpos
  rw[hy]at n1 hxs
  rw[e1]at ia
  have g1s:E 1=.slice (some ⟨n,off,s⟩) ls.length c:=g1.trans e1
  simp only[g1s,g5,hd,ruW,xF,ruU,Nat.reduceLT,Nat.reduceEqDiff]
  refine w_drawB [(4,3),(9,4),(9,8),(9,3),(10,9),(10,4),(11,9),(11,4)] [] (by kernel_rfl) (by kernel_rfl) rfl fun ops anc hA hG=>?_
  simp only[all2_cons]at hA
  simp only[g1s,g5,hy,ia,n1,r1,ld,qk_old,ruD,ruW,ruU,Nat.reduceLT,Nat.reduceAdd,Nat.reduceEqDiff]
  obtain⟨F,hF⟩:=Go.Ax.exq (rdF av args.length)
  have hrn:=restrict_next Y F
  have hFn:∀ k∈F,Y.get k≠none/\k<Y.next:=fun k hk=>hxr.ne k (hF▸hk)
  have hxR:RdAt (Y.restrict F) 1 av (iv args) args.length:=hxr.of (zD0 hrn.1.symm) fun k hk=>by rw[restrict_get,if_pos (hF▸hk)]
  obtain⟨_,ga,hca,wk,rfl,vk,mga,hlk⟩:=ops103_c (Y.restrict F) pos op av args hop hxR hxa (fun h=>hpos (by omega)) (by rw[hrn.1,hy]; exact hxs) (by rw[hrn.1,hrn.2.1]; exact zB1 _)
  rw[hrn.1]at hlk
  refine genV_mod (W:=[]) (v:=wk) (g:=ga) F okY rfl (by kernel_rfl) (fun n hn=>(hFn n hn).1) (fun n hn=>(hFn n hn).2) (by simp) (by simp only[ruU]; exact hca) mga (by simp[]) ?_
  intro Y1 D mY1 hgF hgN hnY hD
  have hD0:D=[]:=List.eq_nil_iff_forall_not_mem.2 fun n hn=>by have:=hD n hn; simp at this
  subst hD0
  replace mY1:Mod [] Y Y1:=mY1
  replace hnY:Y1.next=ga.next:=hnY
  have vk1:ArgA Y1 wk (constsR op args):=vk.of (zD0 hnY.symm) fun n hn=>hgN n (hlk n hn) (vk.ne n hn).2
  clear hgF hgN
  have okY1:=mY1.ok okY
  obtain⟨y1,hy1⟩:∃ y,Y1.next=y:=⟨_,rfl⟩
  have ly1:y<=y1:=by have:=mY1.next; omega
  have hiY1:=hiY.mod0 mY1
  obtain⟨n',off',s',c',e',o',M',e1',n1',r1',ia',ld',l0',l1',l2'⟩:=hiY1.fld hx
  have e3:=e1.symm.trans e1'
  simp only[Value.slice.injEq,Option.some.injEq,Addr.mk.injEq]at e3
  obtain⟨⟨rfl,rfl,rfl⟩,-,rfl⟩:=e3
  rw[hy1]at n1'
  rw[show Y1=ext Y1 [] from rfl]
  simp only[g1s,g5,hy1,ia,n1',r1',ld',qk_old,ruD,ruW,ruU,Nat.reduceLT,Nat.reduceAdd,Nat.reduceEqDiff]
  have hnY0:n<Y.next+0:=by omega
  have hq1:∀ m∈idsV (.slice (some ⟨n,off,s⟩) ls.length c),m<Y.next+0\/ga.next<=m:=fun m hm=>.inl (by simp only[idsV,zA5]at hm; omega)
  have hq2:∀ m∈idsV (ivV (⟨pos,(op:Int),args⟩,av)),m<Y.next+0\/ga.next<=m:=fun m hm=>.inl (by
   have:m∈idsV av:=by simpa[ivV,ivC,idsV,idsA,idsL]using hm
   have:=ids_of_scb _ hxs m this
   omega)
  refine⟨fun _=>.inr hq1,fun _=>.inr (.inl hnY0),.inr fun _=>⟨.inl hnY0,hq2⟩,?_⟩
  have hrn1:=restrict_next Y1 F
  have hFn1:∀ k∈F,Y1.get k≠none/\k<Y1.next:=fun k hk=>(hiY1.av _ hxm).ne k (hF▸hk)
  have hxR1:RdAt (Y1.restrict F) 1 av (iv args) args.length:=(hiY1.av _ hxm).of (zD0 hrn1.1.symm) fun k hk=>by rw[restrict_get,if_pos (hF▸hk)]
  obtain⟨_,gb,hcb,wt,rfl,vt,mgb,hlt⟩:=ops104_c (Y1.restrict F) pos op av args hop hxR1 hxa (fun h=>hpos (by omega)) (by rw[hrn1.1,hy1]; exact scb_mono ly1 _ hxs) (by rw[hrn1.1,hrn1.2.1]; exact zB1 _)
  rw[hrn1.1]at hlt
  refine genV_mod (W:=[]) (v:=wt) (g:=gb) F okY1 rfl (by kernel_rfl) (fun n hn=>(hFn1 n hn).1) (fun n hn=>(hFn1 n hn).2) (by simp) (by simp only[ruU]; exact hcb) mgb (by simp only[all2_cons,all2_nil,hA,true_or,and_true]) ?_
  intro Y2 D mY2 hgF hgN hnY2 hD
  have hD0:D=[]:=List.eq_nil_iff_forall_not_mem.2 fun n hn=>by have:=hD n hn; simp at this
  subst hD0
  replace mY2:Mod [] Y1 Y2:=mY2
  replace hnY2:Y2.next=gb.next:=hnY2
  have vt2:ArgA Y2 wt (targsR op args):=vt.of (zD0 hnY2.symm) fun n hn=>hgN n (hlt n hn) (vt.ne n hn).2
  clear hgF hgN
  have vk2:ArgA Y2 wk (constsR op args):=vk1.of mY2.next fun n hn=>mY2.get n (vk1.ne n hn).2 (by simp)
  have okY2:=mY2.ok okY1
  obtain⟨z,hz⟩:=Go.Ax.exq Y2.next
  have lz:y1<=z:=by have:=mY2.next; omega
  have hiZ:=hiY1.mod0 mY2
  rw[show Y2=ext Y2 [] from rfl]
  simp only[hA,ruD,ruW,ruU,Nat.reduceLT,Nat.reduceAdd,Nat.reduceEqDiff]
  have mHZ:Mod [] X Y2:=(mY.trans mY1).trans mY2
  have k0Z:=(mHZ.bk (by omega) (by simp)).trans k0
  have k1Z:=(mHZ.bk (by omega) (by simp)).trans k1
  have j0z:b+0<z:=by omega
  have j1z:b+1<z:=by omega
  obtain⟨nz,offz,sz,cz,ez,oz,Mz,e1z,n1z,r1z,iaz,ldz,l0z,l1z,l2z⟩:=hiZ.fld hx
  have e3z:=e1.symm.trans e1z
  simp only[Value.slice.injEq,Option.some.injEq,Addr.mk.injEq]at e3z
  obtain⟨⟨rfl,rfl,rfl⟩,-,rfl⟩:=e3z
  rw[hz]at n1z
  rw[e1]at iaz
  simp only at l0z l1z l2z
  obtain⟨ka,kc,ek⟩:=vk2.rd.sl
  obtain⟨ta,tc,et⟩:=vt2.rd.sl
  have kl:(constsR op args).length<=1000000+1:=zC2 (consts_len op args) (by omega)
  have tl:(targsR op args).length<=1000000+1:=zC2 (targs_len op args) (by omega)
  refine w_env fun E2 hE=>?_
  have h1:E2 1=v:=by rw[hE,e1]; simp only[g1s,ruU,Nat.reduceEqDiff]
  have h2:E2 2=.pointer (some ⟨b+0,0,none⟩):=by rw[hE]; simp only[g2,ruU,Nat.reduceEqDiff]
  have h4:E2 4=.pointer (some ⟨b+1,0,none⟩):=by rw[hE]; simp only[g4,ruU,Nat.reduceEqDiff]
  have h5:E2 5=.int .i64 (i:Int):=by rw[hE]; simp only[g5,ruU,Nat.reduceEqDiff]
  have h6:E2 6=wk:=by rw[hE]; rfl
  have h7:E2 7=wt:=by rw[hE]; rfl
  have h8:E2 8=.int .i64 ((0:Nat):Int):=by rw[hE]; rfl
  clear hE
  have mret:Mod [] H (uw Y2 (b+1) 0 [.int .i64 3,.int .i64 pos])/\Mod [] H (uw Y2 (b+1) 0 [.int .i64 5,.int .i64 pos]):=⟨(mX.trans mHZ).step (Mod.uw (n:=b+1) (W:=[b+1]) (by simp)) hok fun n hn=>.inr (by simp only[zA5]at hn; omega),(mX.trans mHZ).step (Mod.uw (n:=b+1) (W:=[b+1]) (by simp)) hok fun n hn=>.inr (by simp only[zA5]at hn; omega)⟩
  refine blockC_meet (fun E' X'=>X'=ext Y2 []/\(constsR op args).any (fun k=>decide ((cn:Int)<=k))=false/\E' 1=v/\E' 2=.pointer (some ⟨b+0,0,none⟩)/\E' 4=.pointer (some ⟨b+1,0,none⟩)/\E' 5=.int .i64 (i:Int)/\E' 7=wt) ?_ ?_
  ·refine w_loop (fun (j:Nat) E' X'=>X'=ext Y2 []/\j<=(constsR op args).length/\(∀ k,k<j->∀ y,(constsR op args)[k]?=some y->¬(cn:Int)<=y)/\E' 1=v/\E' 2=.pointer (some ⟨b+0,0,none⟩)/\E' 4=.pointer (some ⟨b+1,0,none⟩)/\E' 5=.int .i64 (i:Int)/\E' 6=wk/\E' 7=wt/\E' 8=.int .i64 (j:Int)) (fun j=>(constsR op args).length-j) 0 ⟨rfl,zB5 _,fun k hk=>absurd hk (by omega),h1,h2,h4,h5,h6,h7,h8⟩ ?_
   clear h1 h2 h4 h5 h6 h7 h8 E2
   rintro j E2 X' ⟨hX',hjl,hjall,h1,h2,h4,h5,h6,h7,h8⟩
   rw[hX']
   have h1s:=h1
   rw[e1]at h1s
   by_cases hje:j=(constsR op args).length
   ·have hdj:decide ((j:Int)<((constsR op args).length:Int))=false:=decide_eq_false (by omega)
    have h6s:=h6
    rw[ek]at h6s
    have hcons:(constsR op args).any (fun k=>decide ((cn:Int)<=k))=false:=by
     rw[List.any_eq_false]
     intro y hy
     obtain⟨k,hk,e⟩:=List.mem_iff_getElem.1 hy
     have:=hjall k (by omega) y (by rw[zA4 hk,e])
     simpa using this
    simp only[h6s,h8,hdj,ruW,xF,ruU,Nat.reduceLT,Nat.reduceEqDiff]
    refine joinR_normal ⟨rfl,hcons,?_,?_,?_,?_,?_⟩
    ·rw[e1]; simp only[h1s,ruU,Nat.reduceEqDiff]
    ·exact h2
    ·exact h4
    ·exact h5
    ·exact h7
   ·have hjl':j<(constsR op args).length:=by omega
    have hdj:decide ((j:Int)<((constsR op args).length:Int))=true:=decide_eq_true (by omega)
    obtain⟨n2,off2,s2,c2,e2,o2,M2,ek2,n12,r12,m12⟩:=vk2.rd.one hjl'
    have h6s:=h6
    rw[ek2]at h6s
    have i2:aIndexAddr Tryz.prog 35 (.slice (some ⟨n2,off2,s2⟩) (constsR op args).length c2) (.int .i64 (j:Int))=some (.pointer (some ⟨n2,off2+j*1,none⟩)):=ia_of u35 s3 hjl'
    rw[zC4]at i2
    rw[iv_get,zA4 hjl',zA6]at m12
    rw[hz]at n12
    obtain⟨q,hq⟩:=Go.Ax.exq ((constsR op args)[j])
    rw[hq]at m12
    obtain⟨dd,hdd⟩:=Go.Ax.exq (decide ((cn:Int)<=q))
    have hwj:IntKind.i64.wrap ((j:Int)+1)=((j+1:Nat):Int):=wrap_succ (by omega)
    simp only[h6s,h8,hdj,ruW,xF,ruU,Nat.reduceLT,Nat.reduceEqDiff]
    refine w_drawB [] [] (by kernel_rfl) (by kernel_rfl) rfl fun ops anc hA hG=>?_
    simp only[h2,h6s,h8,hz,k0Z,j0z,i2,n12,r12,m12,hdd,qk_old,ruD,ruW,xF,ruU,Nat.reduceLT,Nat.reduceAdd,Nat.reduceEqDiff]
    cases dd with
    |true =>
     simp only[h1s,h4,h5,hz,k1Z,j1z,iaz,n1z,r1z,l0z,qk_old,joinR_ret,Tryz.results78,ruW,putL,Nat.reduceLeDiff,xF,ruU,Nat.reduceLT,Nat.reduceAdd,Nat.reduceEqDiff]
     rw[ext_nil]
     refine⟨mret.1,?_⟩
     rw[stat_at hxl (r:=(3,pos)) (by
      rw[statO,if_pos]
      simp only[zD7,List.any_eq_true]
      exact⟨q,hq▸List.getElem_mem hjl',hdd⟩) hall]
     rfl
    |false =>
     have hnq:=of_decide_eq_false hdd
     simp only[h8,hwj,ruW,ruU,Nat.reduceLT,Nat.reduceEqDiff]
     refine loopC_next ⟨j+1,by omega,rfl,by omega,fun k hk y hy=>?_,?_,?_,?_,?_,?_,?_,?_⟩
     ·by_cases hkj:k=j
      ·subst hkj
       rw[zA4 hjl',hq]at hy
       cases hy
       exact hnq
      ·exact hjall k (by omega) y hy
     ·rw[e1]; simp only[h1s,ruU,Nat.reduceEqDiff]
     ·exact h2
     ·exact h4
     ·exact h5
     ·rw[ek2]; simp only[h6s,ruU,Nat.reduceEqDiff]
     ·exact h7
     ·rfl
  clear h1 h2 h4 h5 h6 h7 h8 E2
  rintro E2 X' ⟨hX',hcons,h1,h2,h4,h5,h7⟩
  rw[hX']
  have h1s:=h1
  rw[e1]at h1s
  rw[w_seq]
  have hxZ:=hiZ.av _ hxm
  simp only at hxZ
  refine w_meet (fun E' X'=>X'=ext Y2 []/\¬(op=8/\args.getD 0 0=0)/\E' 1=v/\E' 2=.pointer (some ⟨b+0,0,none⟩)/\E' 4=.pointer (some ⟨b+1,0,none⟩)/\E' 5=.int .i64 (i:Int)/\E' 7=wt) ?_ ?_
  ·obtain⟨d8,hd8⟩:∃ d,decide ((op:Int)=8)=d:=⟨_,rfl⟩
   cases d8 with
   |false =>
    have hn8:=of_decide_eq_false hd8
    simp only[h1s,h5,hz,iaz,n1z,r1z,l1z,hd8,qk_old,ruW,xF,ruU,Nat.reduceLT,Nat.reduceEqDiff]
    refine joinR_normal ⟨rfl,fun h=>hn8 (by omega),?_,?_,?_,?_,?_⟩
    ·rw[e1]; simp only[h1s,ruU,Nat.reduceEqDiff]
    ·exact h2
    ·exact h4
    ·exact h5
    ·exact h7
   |true =>
    have he8:=of_decide_eq_true hd8
    have hlp:0<args.length:=hpos (by omega)
    obtain⟨n3,off3,s3',c3,e3,o3,M3,ea3,n13,r13,m13⟩:=hxZ.one hlp
    have i3:aIndexAddr Tryz.prog 35 (.slice (some ⟨n3,off3,s3'⟩) args.length c3) (.int .i64 0)=some (.pointer (some ⟨n3,off3+0,none⟩)):=ia_of (i:=0) u35 s3 hlp
    rw[hz]at n13
    rw[iv_get,zA4 hlp,zA6]at m13
    have hg:args.getD 0 0=args[0]:=by rw[zA9,zA4 hlp]; rfl
    have l2s:=l2z
    rw[ea3]at l2s
    obtain⟨d0,hd0⟩:∃ d,decide (args[0]=0)=d:=⟨_,rfl⟩
    simp only[h1s,h5,hz,iaz,n1z,r1z,l1z,l2s,i3,n13,r13,m13,hd8,hd0,qk_old,ruW,xF,ruU,Nat.reduceLT,Nat.reduceEqDiff]
    cases d0 with
    |true =>
     have:=of_decide_eq_true hd0
     simp only[h1s,h4,h5,hz,k1Z,j1z,iaz,n1z,r1z,l0z,qk_old,joinR_ret,Tryz.results78,ruW,putL,Nat.reduceLeDiff,xF,ruU,Nat.reduceLT,Nat.reduceAdd,Nat.reduceEqDiff]
     rw[ext_nil]
     refine⟨mret.1,?_⟩
     rw[stat_at hxl (r:=(3,pos)) (by
      rw[statO]
      simp only[zD7]
      rw[hcons,if_neg (by simp),if_pos ⟨by omega,by omega⟩]) hall]
     rfl
    |false =>
     have:=of_decide_eq_false hd0
     simp only[ruW]
     refine joinR_normal ⟨rfl,fun h=>this (by omega),?_,?_,?_,?_,?_⟩
     ·rw[e1]; simp only[h1s,ruU,Nat.reduceEqDiff]
     ·exact h2
     ·exact h4
     ·exact h5
     ·exact h7
  clear h1s h1 h2 h4 h5 h7 E2
  rintro E2 X' ⟨hX',h8n,h1,h2,h4,h5,h7⟩
  rw[hX']
  have h1s:=h1
  rw[e1]at h1s
  simp only[ruW,ruU,Nat.reduceLT]
  refine w_env fun E3 hE=>?_
  replace h1:E3 1=v:=by rw[hE,e1]; simp only[h1s,ruU,Nat.reduceEqDiff]
  replace h2:E3 2=.pointer (some ⟨b+0,0,none⟩):=by rw[hE]; simp only[h2,ruU,Nat.reduceEqDiff]
  replace h4:E3 4=.pointer (some ⟨b+1,0,none⟩):=by rw[hE]; simp only[h4,ruU,Nat.reduceEqDiff]
  replace h5:E3 5=.int .i64 (i:Int):=by rw[hE]; simp only[h5,ruU,Nat.reduceEqDiff]
  replace h7:E3 7=wt:=by rw[hE]; simp only[h7,ruU,Nat.reduceEqDiff]
  have h9:E3 9=.int .i64 ((0:Nat):Int):=by rw[hE]; rfl
  clear hE h1s
  refine w_loop (fun (j:Nat) E' X'=>X'=ext Y2 []/\j<=(targsR op args).length/\(∀ k,k<j->∀ y,(targsR op args)[k]?=some y->¬findR (ls.map (·.1)) y<0)/\E' 1=v/\E' 2=.pointer (some ⟨b+0,0,none⟩)/\E' 4=.pointer (some ⟨b+1,0,none⟩)/\E' 5=.int .i64 (i:Int)/\E' 7=wt/\E' 9=.int .i64 (j:Int)) (fun j=>(targsR op args).length-j) 0 ⟨rfl,zB5 _,fun k hk=>absurd hk (by omega),h1,h2,h4,h5,h7,h9⟩ ?_
  clear h1 h2 h4 h5 h7 h9 E3 E2
  rintro j E2 X' ⟨hX',hjl,hjall,h1,h2,h4,h5,h7,h9⟩
  rw[hX']
  have h1s:=h1
  rw[e1]at h1s
  by_cases hje:j=(targsR op args).length
  ·have hdj:decide ((j:Int)<((targsR op args).length:Int))=false:=decide_eq_false (by omega)
   have h7s:=h7
   rw[et]at h7s
   have hwi:IntKind.i64.wrap ((i:Int)+1)=((i+1:Nat):Int):=wrap_succ (by omega)
   simp only[h5,h7s,h9,hdj,hwi,ruW,xF,ruU,Nat.reduceLT,Nat.reduceEqDiff]
   refine loopC_next ⟨i+1,by omega,mHZ,by omega,fun k hk y hy=>?_,?_,?_,?_,?_⟩
   ·by_cases hki:k=i
    ·subst hki
     rw[hxl]at hy
     cases hy
     rw[statO]
     simp only[zD7]
     rw[hcons,if_neg (by simp),if_neg h8n,if_neg]
     rw[List.any_eq_true]
     rintro⟨y,hy,hlt⟩
     obtain⟨k',hk',e⟩:=List.mem_iff_getElem.1 hy
     exact hjall k' (by omega) y (by rw[zA4 hk',e]) (of_decide_eq_true hlt)
    ·exact hall k (by omega) y hy
   ·rw[e1]; simp only[h1s,ruU,Nat.reduceEqDiff]
   ·exact h2
   ·exact h4
   ·rfl
  ·have hjl':j<(targsR op args).length:=by omega
   have hdj:decide ((j:Int)<((targsR op args).length:Int))=true:=decide_eq_true (by omega)
   obtain⟨n2,off2,s2,c2,e2,o2,M2,ek2,n12,r12,m12⟩:=vt2.rd.one hjl'
   have h7s:=h7
   rw[ek2]at h7s
   have i2:aIndexAddr Tryz.prog 35 (.slice (some ⟨n2,off2,s2⟩) (targsR op args).length c2) (.int .i64 (j:Int))=some (.pointer (some ⟨n2,off2+j*1,none⟩)):=ia_of u35 s3 hjl'
   rw[zC4]at i2
   rw[iv_get,zA4 hjl',zA6]at m12
   rw[hz]at n12
   obtain⟨q,hq⟩:=Go.Ax.exq ((targsR op args)[j])
   rw[hq]at m12
   obtain⟨dd,hdd⟩:=Go.Ax.exq (decide (findR (ls.map (·.1)) q<0))
   have hwj:IntKind.i64.wrap ((j:Int)+1)=((j+1:Nat):Int):=wrap_succ (by omega)
   simp only[h1s,h7s,h9,hz,hdj,i2,n12,r12,m12,qk_old,ruW,xF,ruU,Nat.reduceLT,Nat.reduceEqDiff]
   have hfc:=find105_c (ext Y2 []) v ls q hiZ (by omega)
   rw[e1]at hfc
   refine hfc.to ?_
   simp only[hdd,ruW,ruU,Nat.reduceLT]
   cases dd with
   |true =>
    simp only[h1s,h4,h5,hz,k1Z,j1z,iaz,n1z,r1z,l0z,qk_old,Tryz.results78,ruW,putL,Nat.reduceLeDiff,xF,ruU,Nat.reduceLT,Nat.reduceAdd,Nat.reduceEqDiff]
    rw[ext_nil]
    refine⟨mret.2,?_⟩
    rw[stat_at hxl (r:=(5,pos)) (by
     rw[statO]
     simp only[zD7]
     rw[hcons,if_neg (by simp),if_neg h8n,if_pos]
     rw[List.any_eq_true]
     exact⟨q,hq▸List.getElem_mem hjl',hdd⟩) hall]
    rfl
   |false =>
    have hnq:=of_decide_eq_false hdd
    simp only[h9,hwj,ruW,ruU,Nat.reduceLT,Nat.reduceEqDiff]
    refine loopC_next ⟨j+1,by omega,rfl,by omega,fun k hk y hy=>?_,?_,?_,?_,?_,?_,?_⟩
    ·by_cases hkj:k=j
     ·subst hkj
      rw[zA4 hjl',hq]at hy
      cases hy
      exact hnq
     ·exact hjall k (by omega) y hy
    ·rw[e1]; simp only[h1s,ruU,Nat.reduceEqDiff]
    ·exact h2
    ·exact h4
    ·exact h5
    ·rw[ek2]; simp only[h7s,ruU,Nat.reduceEqDiff]
    ·rfl
set_option maxRecDepth 100000
def StOk (s:St):Prop:=0<=s.h/\s.h<=1000/\0<=s.b/\s.b<=1000/\s.fs.length<=200/\∀ f∈s.fs,(0<=f.height/\f.height<=100000)/\0<=f.bound/\f.bound<=100000
def KsOk (ks:Ks):Prop:=∀ (i:Nat) (t:St),ks[i]?=some (some t)->StOk t
theorem InsRd.modN {H G:AHeap} {v:Value} {ls:List Iv} {n:Nat} (h:InsRd H v ls) (m:Mod [n] H G) (hv:scb n v=true) (hx:∀ x∈ls,scb n x.2=true):InsRd G v ls :=
 ⟨h.rd.modW m fun k hk hn=>by
  have:=ids_of_scb _ hv k (rdF_ids hk)
  simp only[zA5]at hn
  omega,fun x hxm=>(h.av x hxm).modW m fun k hk hn=>by
  have:=ids_of_scb _ (hx x hxm) k (rdF_ids hk)
  simp only[zA5]at hn
  omega,fun x hxm=>scb_mono m.next _ (h.sc x hxm)⟩
theorem find_lt {l:List Ins} {a:Int} (h:0<=findR l a):findR l a=(((findR l a).toNat:Nat):Int)/\(findR l a).toNat<l.length:=by
 refine⟨by omega,?_⟩
 unfold findR at h ⊢
 cases hi:l.findIdx? (fun x=>decide (x.pos=a)) with
 |none=>rw[hi]at h; simp at h
 |some i =>
  have:=(List.findIdx?_eq_some_iff_getElem.1 hi).1
  simpa using this
def insF (v:Value) (ls:List Iv):List Nat:=rdF v ls.length++ls.flatMap fun x=>rdF x.2 x.1.args.length
theorem InsRd.of {H G:AHeap} {v:Value} {ls:List Iv} (h:InsRd H v ls) (hn:H.next<=G.next) (hg:∀ k∈insF v ls,G.get k=H.get k):InsRd G v ls :=
 ⟨h.rd.of hn fun k hk=>hg k (List.mem_append_left _ hk),fun x hx=>(h.av x hx).of hn fun k hk=>hg k (zF9 _ (List.mem_flatMap.2 ⟨x,hx,hk⟩)),fun x hx=>scb_mono hn _ (h.sc x hx)⟩
theorem InsRd.ne {H:AHeap} {v:Value} {ls:List Iv} (h:InsRd H v ls):∀ k∈insF v ls,H.get k≠none/\k<H.next:=fun k hk=>by
 rcases zB9.1 hk with hk|hk
 ·exact h.rd.ne k hk
 ·obtain⟨x,hx,hk⟩:=List.mem_flatMap.1 hk
  exact (h.av x hx).ne k hk
theorem FrAt.nn {H:AHeap} {v:Value} {fs:List Fr} {n:Nat} {L:List Value} (h:FrAt 183 H v fs) (hb:bk H n=some ⟨100,false,L⟩):n∉idsV v:=by
 obtain⟨rfl,rfl⟩|⟨k,c,M,rfl,hc,hk,hn,hl,ht⟩:=h
 ·simp[idsV]
 ·intro hn
  simp only[idsV,zA5]at hn
  subst hn
  rw[hb]at hk
  cases hk
theorem give_bd {P:St->Prop} {ks ks':Ks} {i:Nat} {s:St} (h:giveR ks i s=some ks') (hk:∀ (j:Nat) (t:St),ks[j]?=some (some t)->P t) (hs:P s):∀ (j:Nat) (t:St),ks'[j]?=some (some t)->P t:=by
 unfold giveR at h
 split at h
 ·simp only[Option.some.injEq]at h
  subst h
  intro j t hj
  rcases zD6 i ks.length with hl|hl
  ·by_cases hji:j=i
   ·subst hji
    rw[List.getElem?_set_self hl]at hj
    simp only[Option.some.injEq]at hj
    exact hj▸hs
   ·rw[List.getElem?_set_ne (fun e=>hji e.symm)]at hj
    exact hk j t hj
  ·rw[List.set_eq_of_length_le hl]at hj
   exact hk j t hj
 ·split at h
  ·simp only[Option.some.injEq]at h
   subst h
   exact hk
  ·cases h
def rsI (l:List Rs):List Nat:=l.flatMap fun x=>match x.1 with
 |some (_,v)=>idsV v
 |none=>[]
theorem rsI_mem {l:List Rs} {x:Rs} {s:St} {v:Value} (hx:x∈l) (h:x.1=some (s,v)) {k:Nat} (hk:k∈idsV v):k∈rsI l:=by
 rw[rsI,List.mem_flatMap]
 exact⟨x,hx,by rw[h]; exact hk⟩
theorem ASt.of {H G:AHeap} {n:Nat} {l:List Rs} (a:ASt H n l) (hn:H.next<=G.next) (hg:∀ k,k=n\/k∈rsI l->G.get k=H.get k):ASt G n l :=
 ⟨(bk_get (hg n (.inl rfl))).trans a.blk,zE1 a.lt hn,fun x hx s v h=>⟨(a.fr x hx s v h).1.of hn fun k hk=>hg k (.inr (rsI_mem hx h hk)),(a.fr x hx s v h).2⟩,a.un⟩
theorem ASt.ne {H:AHeap} {n:Nat} {l:List Rs} (a:ASt H n l):∀ k,k=n\/k∈rsI l->H.get k≠none/\k<H.next:=by
 rintro k (rfl|hk)
 ·exact⟨bk_ne a.blk,a.lt⟩
 ·rw[rsI,List.mem_flatMap]at hk
  obtain⟨x,hx,hk⟩:=hk
  obtain⟨x1,d⟩:=x
  cases x1 with
  |none=>cases hk
  |some p=>exact (a.fr _ hx p.1 p.2 rfl).1.ne k hk
def tl3 (l:List Ins) (op:Nat) (args:List Int) (ts:St):Option Ks->Except Int Ks
 |none=>.error 9
 |some ks=>match givesR ks ((targsR op args).map fun t=>(findR l t).toNat) ts with
  |none=>.error 9
  |some ks=>.ok ks
def tl2 (l:List Ins) (ks:Ks) (i op:Nat) (args:List Int) (ns ts:St):Except Int Ks :=
 if (op≠10/\op≠15)/\i+1=l.length then .error 13 else tl3 l op args ts (if op≠10/\op≠15 then giveR ks (i+1) ns else some ks)
def tl1 (depth:Int) (l:List Ins) (ks:Ks) (i op:Nat) (args:List Int) (ns ts:St):Except Int Ks :=
 if deepR depth 200 1000 ns=true\/targsR op args≠[]/\deepR depth 200 1000 ts=true then .error 12 else tl2 l ks i op args ns ts
theorem prR_eq {depth:Int} {l:List Ins} {ks:Ks} {i:Nat} {x:Ins} {s:St} (h1:l[i]?=some x) (h2:ks.getD i none=some s) :
  prR depth l ks i=if missR x.op.toNat x.args s.h=true then .error 9 else if disR x.op.toNat x.args s=true then .error 19 else tl1 depth l ks i x.op.toNat x.args (aftR x.op.toNat x.args s).1 (aftR x.op.toNat x.args s).2:=by
 unfold prR procR tl1 tl2 tl3
 rw[h1,h2]
 rfl
theorem aft_len (op:Nat) (args:List Int) (s:St):(aftR op args s).1.fs.length<=s.fs.length+1/\(aftR op args s).2.fs.length<=s.fs.length+1:=by
 have hd:s.fs.dropLast.length<=s.fs.length:=by rw[List.length_dropLast]; omega
 unfold aftR
 simp only
 repeat' split
 all_goals simp only[zC3,zC8]
 all_goals omega
theorem process81_c (H:AHeap) (least most depth:Int) (ba ca:Option Addr) (bn bc cn cc n:Nat) (v:Value) (ls:List Iv) (l:List Rs) (i:Nat) (x:Iv) (s:St) (fv:Value) (dn:Bool) (A:ASt H n l) (hi:InsRd H v ls) (hlen:l.length=ls.length) (hl:ls.length<=100000) (hw:∀ x∈ls,WfI x.1) (hal:∀ x∈ls,x.1.args.length<=1000000) (hsv:scb n v=true) (hsx:∀ x∈ls,scb n x.2=true)
  (hx:ls[i]?=some x) (hs:l[i]?=some (some (s,fv),dn)) (hks:KsOk (rsK l)) (hdp:depth<=1000) (hst:∀ t∈targsR x.1.op.toNat x.1.args,0<=findR (ls.map (·.1)) t) (su:scb H.next (.slice ba bn bc)=true) (sc:scb H.next (.slice ca cn cc)=true) (hok:H.base<=H.next) :
  CallA Tryz.prog 81 [cdV least most depth (.slice ba bn bc) (.slice ca cn cc),v,.slice (some ⟨n,0,some 0⟩) l.length l.length,.int .i64 (i:Int)] H (fun out X=>Mod [n] H X/\(match prR depth (ls.map (·.1)) (rsK l) i with
   |.error e=>out=.ok (.int .i64 e)
   |.ok ks'=>out=.ok (.int .i64 0)/\∃ l',ASt X n l'/\rsK l'=ks'/\rsD l'=(rsD l).set i true/\l'.length=l.length)):=by
 obtain⟨b,hb⟩:=Go.Ax.exq H.next
 have hbase:H.base<=b:=hb▸hok
 have hxm:x∈ls:=zF1 hx
 have hil:i<ls.length:=(zF4.1 hx).1
 have hnb:n<b:=hb▸A.lt
 rw[hb]at su sc
 obtain⟨m,off,sp,c,e,o,M,e1,m1,r1,ia,ld,l0,l1,l2⟩:=hi.fld hx
 have hxr:=hi.av x hxm
 have hxs:=hi.sc x hxm
 have hxn:=hsx x hxm
 have hxw:=hw x hxm
 have hxa:=hal x hxm
 have hsok:=hks i s (by rw[rsK_get,hs]; rfl)
 obtain⟨⟨pos,opi,args⟩,av⟩:=x
 obtain⟨op,rfl⟩:∃ q:Nat,opi=q:=⟨opi.toNat,by have:=hxw.1; simp only at this; omega⟩
 simp only[zD7]at hxr hxs hxn hxa l0 l1 l2 hst
 have hop:op<28:=by have:=hxw.2.1; simp only at this; omega
 have hpos:=hxw.pos
 have hfst:=hxw.fst
 simp only[zD7]at hpos hfst
 obtain⟨iT,ldT,lfT⟩:=A.at_ hs
 obtain⟨hfr,hfn⟩:=A.fr _ (zF1 hs) s fv rfl
 obtain⟨f0,fc,ef⟩:=hfr.sl
 obtain⟨a0,c0,ea⟩:=hxr.sl
 have kT:=A.blk
 rw[hb]at m1
 rw[e1]at ia
 have sav:scb b (.slice a0 args.length c0)=true:=by rw[<-ea]; exact scb_mono (by omega) _ hxn
 have sfv:=hfr.sc
 rw[hb,ef]at sfv
 rw[e1]
 simp only[ivV,ivC,ea]at ld
 simp only[rsC,ef]at ldT lfT
 have hns:∀ a c,idsV (.slice none a c)=[]:=fun _ _=>rfl
 have sav1:=scb_mono (show b<=b+3 by omega) _ sav
 have sfv1:=scb_mono (show b<=b+3 by omega) _ sfv
 have hst1:stB Tryz.prog 4 (b+3) (0+(i*5+1)) (.bool true) (some ⟨100,false,rsL l⟩)=some ⟨100,false,putL (rsL l) (0+(i*5+1)) [.bool true]⟩:=stB_ok (by kernel_rfl) (by
  show 0+(i*5+1)+1<=_
  rw[rsL_len]; omega) rfl rfl
 refine callE_fn mixed Tryz.func81 rfl Tryz.ntmps81 (zB2 rfl) ?_
 unfold cdV
 simp only[hb,su,sc,ruW,ruU,entryE,Nat.reduceLT,Nat.reduceAdd,Nat.reduceEqDiff]
 refine w_drawB [(10,3),(10,8),(10,0),(10,1),(10,2),(10,9),(11,10),(11,9),(11,8),(11,7),(11,6),(11,5),(11,4),(11,3),(11,2),(11,1),(11,0)] [] (by kernel_rfl) (by kernel_rfl) rfl fun ops anc hA hG=>?_
 simp only[all2_cons]at hA
 simp only[hb,hbase,ia,m1,r1,ld,iT,kT,ldT,hnb,hA,hns,sav1,sfv1,hst1,zD9,qk_old,ruD,ruW,putL,Nat.reduceLeDiff,xF,ruU,Nat.reduceLT,Nat.reduceAdd,Nat.reduceEqDiff]
 generalize hY:ext _ _=Y
 have hl':(uw H n (0+(i*5+1)) [.bool true]).next=b:=by rw[uw_next,hb]
 have mY:Mod [n] H Y:=hY▸(Mod.uw (by simp)).trans (Mod.ext (by rw[uw_base,uw_next]; exact hok))
 have nY:Y.next=b+3:=by rw[<-hY,ext_next,hl']; rfl
 have k0:bk Y (b+0)=some ⟨33,false,[.int .i64 least,.int .i64 most,.int .i64 depth,.slice ba bn bc,.slice ca cn cc]⟩:=by rw[<-hY,bk_at hl' (by simp)]; rfl
 have k1:bk Y (b+1)=some ⟨59,false,[.int .i64 pos,.int .i64 (op:Int),.slice a0 args.length c0]⟩:=by rw[<-hY,bk_at hl' (by simp)]; rfl
 have k2:bk Y (b+2)=some ⟨100,false,[.bool true,.bool dn,.int .i64 s.h,.int .i64 s.b,.slice f0 s.fs.length fc]⟩:=by rw[<-hY,bk_at hl' (by simp)]; rfl
 have kn:bk Y n=some ⟨100,false,rsL (l.set i (some (s,fv),true))⟩:=by
  rw[<-hY,bk_old (by rw[hl']; exact hnb),bk_uw_eq,kT,zA6,putB_eq,zC1]
  rw[<-rsL_set (o:=1) (vs:=[.bool true]) hs (by simp) rfl]
 have AY:ASt Y n (l.set i (some (s,fv),true)):=by
  refine⟨kn,by omega,fun z hz t tv ht=>?_,fun z hz h0=>?_⟩
  ·rcases List.mem_or_eq_of_mem_set hz with hz|rfl
   ·obtain⟨h1,h2⟩:=A.fr z hz t tv ht
    exact⟨h1.mod mY fun k hk hn=>by simp only[zA5]at hn; exact h2 (hn▸hk),h2⟩
   ·simp only[Option.some.injEq,Prod.mk.injEq]at ht
    obtain⟨rfl,rfl⟩:=ht
    exact⟨hfr.mod mY fun k hk hn=>by simp only[zA5]at hn; exact hfn (hn▸hk),hfn⟩
  ·rcases List.mem_or_eq_of_mem_set hz with hz|rfl
   ·exact A.un z hz h0
   ·cases h0
 have hKY:rsK (l.set i (some (s,fv),true))=rsK l:=by
  rw[rsK_set]
  exact set_same (by rw[rsK_get,hs]; rfl)
 clear hY hl' kn
 have okY:=mY.ok hok
 obtain⟨y,hy⟩:=Go.Ax.exq Y.next
 have hyb:b+3=y:=nY.symm.trans hy
 have yb:Y.base<=y:=hy▸okY
 have hiY:InsRd Y v ls:=hi.modN mY hsv hsx
 have hxY:RdAt Y 1 (.slice a0 args.length c0) (iv args) args.length:=ea▸hiY.av _ hxm
 have hfY:FrAt 183 Y (.slice f0 s.fs.length fc) s.fs:=by
  rw[ef]at hfr hfn
  exact hfr.mod mY fun k hk hn=>by simp only[zA5]at hn; exact hfn (hn▸hk)
 have j1:b+1<y:=by omega
 have j2:b+2<y:=by omega
 obtain⟨w1,w2,w3,w4,w5,w6⟩:=hsok
 have h49:op=4\/op=9->0<args.length/\0<=args.getD 0 0/\args.getD 0 0<=65535:=fun h=>⟨hpos (by omega),hfst (hpos (by omega))⟩
 have h8:op=8->0<args.length/\0<=args.getD 0 0/\args.getD 0 0<=65535:=fun h=>⟨hpos (by omega),hfst (hpos (by omega))⟩
 have hpr:prR depth (ls.map (·.1)) (rsK l) i=if missR op args s.h=true then .error 9 else if disR op args s=true then .error 19 else tl1 depth (ls.map (·.1)) (rsK l) i op args (aftR op args s).1 (aftR op args s).2 :=
  prR_eq (x:=⟨pos,(op:Int),args⟩) (by rw[zE6,hx]; rfl) (by rw[zA9,rsK_get,hs]; rfl)
 rw[hpr]
 have hm:=miss106_c Y pos op (.slice a0 args.length c0) args s.h hop hxY hxa h49 (fun h=>hpos (by omega)) ⟨by omega,by omega⟩
 refine hm.to ?_
 obtain⟨q1,hq1⟩:∃ q,missR op args s.h=q:=⟨_,rfl⟩
 rw[hq1]
 rw[show Y=ext Y [] from rfl]
 cases q1 with
 |true =>
  rw[if_pos rfl]
  simp only[Tryz.results81,ruW,ruU,Nat.reduceLT]
  exact⟨mY,trivial⟩
 |false =>
 rw[if_neg (by simp)]
 simp only[hy,j1,j2,k1,k2,qk_old,ruW,Nat.reduceLeDiff,xF,ruU,Nat.reduceLT,Nat.reduceAdd,Nat.reduceEqDiff]
 have hd:=dis107_c (ext Y []) pos op (.slice a0 args.length c0) args true dn s (.slice f0 s.fs.length fc) hop hxY hxa h8 hfY.rd (by omega) ⟨by omega,by omega⟩ (fun f hf=>by have:=w6 f hf; omega)
 refine hd.to ?_
 obtain⟨q2,hq2⟩:∃ q,disR op args s=q:=⟨_,rfl⟩
 rw[hq2]
 cases q2 with
 |true =>
  rw[if_pos rfl]
  simp only[Tryz.results81,ruW,ruU,Nat.reduceLT]
  exact⟨mY,trivial⟩
 |false =>
 rw[if_neg (by simp)]
 simp only[hy,j1,j2,k1,k2,qk_old,ruW,Nat.reduceLeDiff,xF,ruU,Nat.reduceLT,Nat.reduceAdd,Nat.reduceEqDiff]
 have hnf:op=19\/op=20->s.fs≠[]:=fun h he=>by
  have ht:(topS s).kind=-1:=by rw[topS,he]; rfl
  unfold disR at hq2
  rw[ht]at hq2
  rcases h with rfl|rfl<;>simp at hq2
 refine (after108_c (ext Y []) pos op (.slice a0 args.length c0) args true dn s (.slice f0 s.fs.length fc) hop hxY hxa h49 h8 hfY (by omega) hnf ⟨by omega,by omega⟩ ⟨by omega,by omega⟩ okY (by rw[ext_nil,hy]; exact scb_mono (by omega) _ sav)).mono ?_
 rintro _ Z ⟨v1,v2,rfl,fr1,fr2,mZ⟩
 have aln:=aft_len op args s
 replace mZ:Mod [] Y Z:=mZ
 obtain⟨ns,hns'⟩:∃ q,(aftR op args s).1=q:=⟨_,rfl⟩
 obtain⟨ts,hts'⟩:∃ q,(aftR op args s).2=q:=⟨_,rfl⟩
 rw[hns']at fr1 aln ⊢
 rw[hts']at fr2 aln ⊢
 obtain⟨R,hR⟩:=Go.Ax.exq (tl1 depth (ls.map (·.1)) (rsK l) i op args ns ts)
 rw[hR]
 unfold tl1 at hR
 obtain⟨f1,c1,ef1⟩:=fr1.sl
 obtain⟨f2,c2,ef2⟩:=fr2.sl
 have sf1:=fr1.sc
 have sf2:=fr2.sc
 obtain⟨z,hz⟩:=Go.Ax.exq Z.next
 rw[ef1,hz]at sf1
 rw[ef2,hz]at sf2
 have okZ:=mZ.ok okY
 have zb:Z.base<=z:=hz▸okZ
 have lz:y<=z:=by have:=mZ.next; omega
 replace k0:=(mZ.bk (by omega) (by simp)).trans k0
 replace k1:=(mZ.bk (by omega) (by simp)).trans k1
 replace k2:=(mZ.bk (by omega) (by simp)).trans k2
 replace j0:b+0<z:=by omega
 replace j1:b+1<z:=by omega
 replace j2:b+2<z:=by omega
 have sf11:=scb_mono (show z<=z+2 by omega) _ sf1
 have sf22:=scb_mono (show z<=z+2 by omega) _ sf2
 have hiZ:=hiY.mod0 mZ
 have AZ:=AY.mod0 mZ
 have hxZ:=hxY.mod0 mZ
 rw[show Z=ext Z [] from rfl]
 unfold stV
 rw[ef1,ef2]
 simp only[hz,zb,j1,k1,sf11,sf22,qk_old,ruW,putL,Nat.reduceLeDiff,xF,ruU,Nat.reduceLT,Nat.reduceAdd,Nat.reduceEqDiff]
 generalize hT:ext Z _=T
 have mT:Mod [] Z T:=hT▸Mod.ext okZ
 have t1:bk T (z+0)=some ⟨100,false,[.bool true,.bool false,.int .i64 ns.h,.int .i64 ns.b,.slice f1 ns.fs.length c1]⟩:=by rw[<-hT,bk_at hz (by simp)]; rfl
 have t2:bk T (z+1)=some ⟨100,false,[.bool true,.bool false,.int .i64 ts.h,.int .i64 ts.b,.slice f2 ts.fs.length c2]⟩:=by rw[<-hT,bk_at hz (by simp)]; rfl
 have nT:T.next=z+2:=by rw[<-hT,ext_next,hz]; rfl
 clear hT
 have okT:=mT.ok okZ
 have sav2:scb T.next (.slice a0 args.length c0)=true:=scb_mono (by omega) _ sav
 refine (ops104_c T pos op (.slice a0 args.length c0) args hop (hxZ.mod0 mT) hxa (fun h=>hpos (by omega)) sav2 okT).mono ?_
 rintro _ U ⟨wt,rfl,vt,mU,hlt⟩
 have mZU:=mT.trans mU
 obtain⟨u,hu⟩:=Go.Ax.exq U.next
 have okU:=mU.ok okT
 have ub:U.base<=u:=hu▸okU
 have lu:z+2<=u:=by have:=mU.next; omega
 replace k0:=(mZU.bk (by omega) (by simp)).trans k0
 replace k1:=(mZU.bk (by omega) (by simp)).trans k1
 replace k2:=(mZU.bk (by omega) (by simp)).trans k2
 replace t1:=(mU.bk (by omega) (by simp)).trans t1
 replace t2:=(mU.bk (by omega) (by simp)).trans t2
 replace j0:b+0<u:=by omega
 replace j1:b+1<u:=by omega
 replace j2:b+2<u:=by omega
 have j3:z+0<u:=by omega
 have j4:z+1<u:=by omega
 have hiU:=hiZ.mod0 mZU
 have AU:=AZ.mod0 mZU
 have fU1:=fr1.mod0 mZU
 have fU2:=fr2.mod0 mZU
 rw[ef1]at fU1
 rw[ef2]at fU2
 have mHU:Mod [n] H U:=(mY.trans (mZ.mono (by simp))).trans (mZU.mono (by simp))
 obtain⟨ta,tc,et⟩:=vt.rd.sl
 rw[et]
 rw[show U=ext U [] from rfl]
 simp only[opC_ok,w_assign,w_nil,seqC_normal,ruU,Nat.reduceLT]
 have pure8:∀ (G:AHeap) (t:St) (f:Option Addr) (c:Nat),t.fs.length<=1000000->CallS Tryz.prog 80 [.agg #[.int .i64 least,.int .i64 most,.int .i64 depth,.slice ba bn bc,.slice ca cn cc],.agg #[.bool true,.bool false,.int .i64 t.h,.int .i64 t.b,.slice f t.fs.length c]] G (.ok (.bool (deepR depth 200 1000 t))) G:=fun G t f c h=>deep80_c G least most depth ba ca f bn bc cn cc c true false t h
 obtain⟨dA,hdA⟩:∃ d,deepR depth 200 1000 ns=d:=⟨_,rfl⟩
 obtain⟨dB,hdB⟩:∃ d,decide ((0:Int)<((targsR op args).length:Int))=d:=⟨_,rfl⟩
 obtain⟨dC,hdC⟩:∃ d,deepR depth 200 1000 ts=d:=⟨_,rfl⟩
 have hBn:dB=true ↔ targsR op args≠[]:=by
  rw[<-hdB,decide_eq_true_eq,<-List.length_pos_iff]
  omega
 refine w_env fun E hE=>?_
 have g1:E 1=.slice (some ⟨m,off,sp⟩) ls.length c:=by rw[hE]; rfl
 have g2:E 2=.slice (some ⟨n,0,some 0⟩) l.length l.length:=by rw[hE]; rfl
 have g3:E 3=.int .i64 (i:Int):=by rw[hE]; rfl
 have g4:E 4=.pointer (some ⟨b+0,0,none⟩):=by rw[hE]; rfl
 have g9:E 9=.pointer (some ⟨b+1,0,none⟩):=by rw[hE]; rfl
 have g11:E 11=.pointer (some ⟨z+0,0,none⟩):=by rw[hE]; rfl
 have g12:E 12=.pointer (some ⟨z+1,0,none⟩):=by rw[hE]; rfl
 have g13:E 13=.slice ta (targsR op args).length tc:=by rw[hE]; rfl
 clear hE
 rw[w_seq]
 refine w_meet (fun E' X'=>X'=ext U []/\¬(deepR depth 200 1000 ns=true\/targsR op args≠[]/\deepR depth 200 1000 ts=true)/\E' 1=.slice (some ⟨m,off,sp⟩) ls.length c/\E' 2=.slice (some ⟨n,0,some 0⟩) l.length l.length/\E' 3=.int .i64 (i:Int)/\E' 9=.pointer (some ⟨b+1,0,none⟩)/\E' 11=.pointer (some ⟨z+0,0,none⟩)/\E' 12=.pointer (some ⟨z+1,0,none⟩)/\E' 13=.slice ta (targsR op args).length tc) ?_ ?_
 ·simp only[g4,g11,hu,j0,j3,k0,t1,qk_old,ruW,Nat.reduceLeDiff,xF,ruU,Nat.reduceLT,Nat.reduceAdd,Nat.reduceEqDiff]
  refine (pure8 (ext U []) ns f1 c1 (by omega)).to ?_
  rw[hdA]
  cases dA with
  |true =>
   rw[if_pos (.inl hdA)]at hR
   simp only[joinR_ret,Tryz.results81,ruW,ruU,Nat.reduceLT,Nat.reduceEqDiff]
   rw[<-hR]
   exact⟨mHU,rfl⟩
  |false =>
   simp only[g13,hdB,ruW,xF,ruU,Nat.reduceLT,Nat.reduceEqDiff]
   cases dB with
   |false =>
    simp only[ruW,ruU,Nat.reduceLT,Nat.reduceEqDiff]
    refine joinR_normal ⟨rfl,(by rintro (h|h); (· cases h); (· have:=hBn.2 h.1; cases this)),?_,?_,?_,?_,?_,?_,?_⟩
    ·exact g1
    ·exact g2
    ·exact g3
    ·exact g9
    ·exact g11
    ·exact g12
    ·exact g13
   |true =>
    simp only[g4,g12,hu,j0,j4,k0,t2,qk_old,ruW,Nat.reduceLeDiff,xF,ruU,Nat.reduceLT,Nat.reduceAdd,Nat.reduceEqDiff]
    refine (pure8 (ext U []) ts f2 c2 (by omega)).to ?_
    rw[hdC]
    cases dC with
    |true =>
     rw[if_pos (.inr ⟨hBn.1 rfl,hdC⟩)]at hR
     simp only[joinR_ret,Tryz.results81,ruW,ruU,Nat.reduceLT,Nat.reduceEqDiff]
     rw[<-hR]
     exact⟨mHU,rfl⟩
    |false =>
     simp only[ruW,ruU,Nat.reduceLT,Nat.reduceEqDiff]
     refine joinR_normal ⟨rfl,(by rintro (h|h); (· cases h); (· cases h.2)),?_,?_,?_,?_,?_,?_,?_⟩
     ·exact g1
     ·exact g2
     ·exact g3
     ·exact g9
     ·exact g11
     ·exact g12
     ·exact g13
 clear g1 g2 g3 g4 g9 g11 g12 g13 E
 rintro E X' ⟨hX',hnd,g1,g2,g3,g9,g11,g12,g13⟩
 rw[hX']
 rw[if_neg hnd]at hR
 unfold tl2 at hR
 obtain⟨dg,hdg⟩:∃ d,decide (op≠10/\op≠15)=d:=⟨_,rfl⟩
 have hgd:(op≠10/\op≠15) ↔ dg=true:=by rw[<-hdg,decide_eq_true_eq]
 rw[w_seq]
 refine w_meet (fun E' X'=>X'=ext U []/\E' 14=.bool dg/\E' 1=.slice (some ⟨m,off,sp⟩) ls.length c/\E' 2=.slice (some ⟨n,0,some 0⟩) l.length l.length/\E' 3=.int .i64 (i:Int)/\E' 9=.pointer (some ⟨b+1,0,none⟩)/\E' 11=.pointer (some ⟨z+0,0,none⟩)/\E' 12=.pointer (some ⟨z+1,0,none⟩)/\E' 13=.slice ta (targsR op args).length tc) ?_ ?_
 ·obtain⟨p1,hp1⟩:∃ p,decide (¬(op:Int)=10)=p:=⟨_,rfl⟩
  obtain⟨p2,hp2⟩:∃ p,decide (¬(op:Int)=15)=p:=⟨_,rfl⟩
  cases p1 with
  |false =>
   have he:=of_decide_eq_false hp1
   have hd0:dg=false:=by rw[<-hdg]; exact decide_eq_false fun h=>h.1 (by omega)
   subst hd0
   simp only[g9,hu,j1,k1,hp1,qk_old,ruW,xF,ruU,Nat.reduceLT,Nat.reduceAdd,Nat.reduceEqDiff]
   refine joinR_normal ⟨rfl,by simp only[ruU],?_,?_,?_,?_,?_,?_,?_⟩
   ·exact g1
   ·exact g2
   ·exact g3
   ·exact g9
   ·exact g11
   ·exact g12
   ·exact g13
  |true =>
   have he:=of_decide_eq_true hp1
   have hd0:dg=p2:=by
    rw[<-hdg,<-hp2]
    exact decide_eq_decide.2 ⟨fun h h'=>h.2 (by omega),fun h=>⟨by omega,by omega⟩⟩
   subst hd0
   simp only[g9,hu,j1,k1,hp1,hp2,qk_old,ruW,xF,ruU,Nat.reduceLT,Nat.reduceAdd,Nat.reduceEqDiff]
   refine joinR_normal ⟨rfl,by simp only[ruU],?_,?_,?_,?_,?_,?_,?_⟩
   ·exact g1
   ·exact g2
   ·exact g3
   ·exact g9
   ·exact g11
   ·exact g12
   ·exact g13
 clear g1 g2 g3 g9 g11 g12 g13 E
 rintro E X' ⟨hX',g14,g1,g2,g3,g9,g11,g12,g13⟩
 rw[hX']
 have hwi:IntKind.i64.wrap ((i:Int)+1)=((i+1:Nat):Int):=wrap_succ (by omega)
 rw[w_seq]
 refine w_meet (fun E' X'=>X'=ext U []/\¬(dg=true/\i+1=ls.length)/\E' 14=.bool dg/\E' 1=.slice (some ⟨m,off,sp⟩) ls.length c/\E' 2=.slice (some ⟨n,0,some 0⟩) l.length l.length/\E' 3=.int .i64 (i:Int)/\E' 9=.pointer (some ⟨b+1,0,none⟩)/\E' 11=.pointer (some ⟨z+0,0,none⟩)/\E' 12=.pointer (some ⟨z+1,0,none⟩)/\E' 13=.slice ta (targsR op args).length tc) ?_ ?_
 ·cases dg with
  |false =>
   simp only[g14,ruW,ruU,Nat.reduceLT,Nat.reduceEqDiff]
   refine joinR_normal ⟨rfl,by simp,by simp only[g14,ruU,Nat.reduceEqDiff],?_,?_,?_,?_,?_,?_,?_⟩
   ·exact g1
   ·exact g2
   ·exact g3
   ·exact g9
   ·exact g11
   ·exact g12
   ·exact g13
  |true =>
   obtain⟨d,hde⟩:=Go.Ax.exq (decide (((i+1:Nat):Int)=(ls.length:Int)))
   simp only[g1,g3,g14,hwi,hde,ruW,xF,ruU,Nat.reduceLT,Nat.reduceEqDiff]
   cases d with
   |true =>
    have he:=of_decide_eq_true hde
    rw[if_pos ⟨hgd.2 rfl,by rw[zC9]; omega⟩]at hR
    simp only[joinR_ret,Tryz.results81,ruW,ruU,Nat.reduceLT]
    rw[<-hR]
    exact⟨mHU,rfl⟩
   |false =>
    have he:=of_decide_eq_false hde
    simp only[ruW]
    refine joinR_normal ⟨rfl,fun h=>he (by omega),by simp only[g14,ruU,Nat.reduceEqDiff],?_,?_,?_,?_,?_,?_,?_⟩
    ·exact g1
    ·exact g2
    ·exact g3
    ·exact g9
    ·exact g11
    ·exact g12
    ·exact g13
 clear g1 g2 g3 g9 g11 g12 g13 g14 E
 rintro E X' ⟨hX',hne,g14,g1,g2,g3,g9,g11,g12,g13⟩
 rw[hX']
 rw[if_neg (fun h=>hne ⟨hgd.1 h.1,by rw[zC9]at h; exact h.2⟩)]at hR
 obtain⟨l1,hl1⟩:=Go.Ax.exq (l.set i (some (s,fv),true))
 have hln:l1.length=l.length:=by rw[<-hl1,List.length_set]
 have hD1:rsD l1=(rsD l).set i true:=by rw[<-hl1,rsD_set]
 rw[hl1]at AU hKY
 rw[<-hKY]at hR
 have hb1:∀ (j:Nat) (t:St),(rsK l1)[j]?=some (some t)->t.fs.length<=1000000:=fun j t h=>by
  rw[hKY]at h
  have:=(hks j t h).2.2.2.2.1
  omega
 have hf1n:n∉idsV (.slice f1 ns.fs.length c1):=fU1.nn AU.blk
 have hf2n:n∉idsV (.slice f2 ts.fs.length c2):=fU2.nn AU.blk
 rw[w_seq]
 refine w_meet (fun E' X'=>∃ l2,Mod [n] U X'/\ASt X' n l2/\l2.length=l.length/\rsD l2=(rsD l).set i true/\(∀ (j:Nat) (t:St),(rsK l2)[j]?=some (some t)->t.fs.length<=1000000)/\tl3 (ls.map (·.1)) op args ts (some (rsK l2))=R/\E' 1=.slice (some ⟨m,off,sp⟩) ls.length c/\E' 2=.slice (some ⟨n,0,some 0⟩) l.length l.length/\E' 12=.pointer (some ⟨z+1,0,none⟩)/\E' 13=.slice ta (targsR op args).length tc) ?_ ?_
 ·cases dg with
  |false =>
   rw[if_neg (fun h=>by have:=hgd.1 h; cases this)]at hR
   simp only[g14,ruW,ruU,Nat.reduceLT,Nat.reduceEqDiff]
   refine joinR_normal ⟨l1,Mod.refl,AU,hln,hD1,hb1,hR,?_,?_,?_,?_⟩
   ·exact g1
   ·exact g2
   ·exact g12
   ·exact g13
  |true =>
   rw[if_pos (hgd.2 rfl)]at hR
   simp only[g2,g3,g11,g14,hu,j3,t1,hwi,qk_old,ruW,Nat.reduceLeDiff,xF,ruU,Nat.reduceLT,Nat.reduceAdd,Nat.reduceEqDiff]
   have hgv:=give109_c (ext U []) n l1 (i+1) ns (.slice f1 ns.fs.length c1) AU (by have:=hne; simp only[true_and]at this; omega) (by omega) fU1 hf1n (by omega) okU (hb1 (i+1))
   rw[hln]at hgv
   refine hgv.mono ?_
   rintro _ V ⟨mV,l2,AV,hDV,hlV,rfl,hgV⟩
   obtain⟨og,hog⟩:=Go.Ax.exq (giveR (rsK l1) (i+1) ns)
   rw[hog]at hgV hR ⊢
   cases og with
   |none =>
    simp only[joinR_ret,Option.isSome_none,Tryz.results81,ruW,ruU,Nat.reduceLT,Nat.reduceEqDiff]
    rw[<-hR]
    exact⟨mHU.trans mV,rfl⟩
   |some ks1 =>
    have hk2:=hgV ks1 rfl
    simp only[ruW,ruU,Nat.reduceLT,Nat.reduceEqDiff]
    refine joinR_normal ⟨l2,mV,AV,hlV,hDV.trans hD1,fun j t h=>?_,by rw[hk2]; exact hR,?_,?_,?_,?_⟩
    ·exact give_bd hog hb1 (by omega) j t (by rw[<-hk2]; exact h)
    ·exact g1
    ·exact g2
    ·exact g12
    ·exact g13
 clear g1 g2 g3 g9 g11 g12 g13 g14 E
 rintro E X' ⟨l2,mV,AV,hlV,hDV,hbV,hRV,g1,g2,g12,g13⟩
 simp only[ruW,ruU,Nat.reduceLT]
 refine w_env fun E3 hE=>?_
 replace g1:E3 1=.slice (some ⟨m,off,sp⟩) ls.length c:=by rw[hE]; simp only[g1,ruU,Nat.reduceEqDiff]
 replace g2:E3 2=.slice (some ⟨n,0,some 0⟩) l.length l.length:=by rw[hE]; simp only[g2,ruU,Nat.reduceEqDiff]
 replace g12:E3 12=.pointer (some ⟨z+1,0,none⟩):=by rw[hE]; simp only[g12,ruU,Nat.reduceEqDiff]
 replace g13:E3 13=.slice ta (targsR op args).length tc:=by rw[hE]; simp only[g13,ruU,Nat.reduceEqDiff]
 have g15:E3 15=.int .i64 ((0:Nat):Int):=by rw[hE]; rfl
 clear hE E
 obtain⟨fnd,hfnd⟩:∃ f:Int->Nat,f=fun t=>(findR (ls.map (·.1)) t).toNat:=⟨_,rfl⟩
 have hRf:∀ o,tl3 (ls.map (·.1)) op args ts (some o)=match givesR o ((targsR op args).map fnd) ts with
  |none=>.error 9
  |some ks=>.ok ks:=fun o=>by rw[tl3,hfnd]
 have tln:=targs_len op args
 refine w_loop (fun (st:Nat × List Rs) E' X'=>Mod [n] U X'/\ASt X' n st.2/\st.2.length=l.length/\rsD st.2=(rsD l).set i true/\(∀ (j:Nat) (t:St),(rsK st.2)[j]?=some (some t)->t.fs.length<=1000000)/\(match givesR (rsK st.2) (((targsR op args).drop st.1).map fnd) ts with
   |none=>.error 9
   |some ks=>.ok ks)=R/\st.1<=(targsR op args).length/\E' 1=.slice (some ⟨m,off,sp⟩) ls.length c/\E' 2=.slice (some ⟨n,0,some 0⟩) l.length l.length/\E' 12=.pointer (some ⟨z+1,0,none⟩)/\E' 13=.slice ta (targsR op args).length tc/\E' 15=.int .i64 (st.1:Int)) (fun st=>(targsR op args).length-st.1) (0,l2) ⟨mV,AV,hlV,hDV,hbV,by rw[<-hRV,hRf]; rfl,zB5 _,g1,g2,g12,g13,g15⟩ ?_
 clear g1 g2 g12 g13 g15 E3 mV AV hlV hDV hbV hRV l2
 rintro⟨j,l2⟩ E X ⟨mV,AV,hlV,hDV,hbV,hRV,hj,g1,g2,g12,g13,g15⟩
 simp only at AV hlV hDV hbV hRV hj g15
 have okX:=mV.ok okU
 obtain⟨x,hxn'⟩:∃ x,X.next=x:=⟨_,rfl⟩
 have lx:u<=x:=by have:=mV.next; omega
 have xb:X.base<=x:=hxn'▸okX
 have hnX:∀ k,k≠n->k∉[n]:=fun k hk hn=>hk (by simpa using hn)
 have t2X:=(mV.bk (n:=z+1) (by omega) (hnX _ (by omega))).trans t2
 have j4x:z+1<x:=by omega
 have hiX:=hiU.modN mV hsv hsx
 have vtX:ArgA X wt (targsR op args):=vt.of mV.next fun k hk=>mV.get k (vt.ne k hk).2 (hnX k (by have:=hlt k hk; omega))
 have fX2:FrAt 183 X (.slice f2 ts.fs.length c2) ts.fs:=fU2.mod mV fun k hk hn=>by simp only[zA5]at hn; exact hf2n (hn▸hk)
 rw[show X=ext X [] from rfl]
 by_cases hje:j=(targsR op args).length
 ·have hdj:decide ((j:Int)<((targsR op args).length:Int))=false:=decide_eq_false (by omega)
  simp only[g13,g15,hdj,Tryz.results81,ruW,xF,ruU,Nat.reduceLT,Nat.reduceEqDiff]
  rw[List.drop_eq_nil_of_le (by omega),zF6,givesR]at hRV
  rw[<-hRV]
  exact⟨mHU.trans mV,trivial,l2,AV,rfl,hDV,hlV⟩
 ·have hjl':j<(targsR op args).length:=by omega
  have hdj:decide ((j:Int)<((targsR op args).length:Int))=true:=decide_eq_true (by omega)
  obtain⟨n2,off2,s2,c2',e2,o2,M2,ek2,n12,r12,m12⟩:=vtX.rd.one hjl'
  rw[et]at ek2
  simp only[Value.slice.injEq]at ek2
  obtain⟨hta,-,rfl⟩:=ek2
  have g13s:=g13
  rw[hta]at g13s
  have i2:aIndexAddr Tryz.prog 35 (.slice (some ⟨n2,off2,s2⟩) (targsR op args).length tc) (.int .i64 (j:Int))=some (.pointer (some ⟨n2,off2+j*1,none⟩)):=ia_of u35 s3 hjl'
  rw[zC4]at i2
  rw[iv_get,zA4 hjl',zA6]at m12
  rw[hxn']at n12
  obtain⟨q,hq⟩:=Go.Ax.exq ((targsR op args)[j])
  rw[hq]at m12
  have hqm:q∈targsR op args:=hq▸List.getElem_mem hjl'
  have hq0:=hst q hqm
  have hwj:IntKind.i64.wrap ((j:Int)+1)=((j+1:Nat):Int):=wrap_succ (by omega)
  simp only[g13s,g15,hdj,ruW,xF,ruU,Nat.reduceLT,Nat.reduceEqDiff]
  refine w_drawB [(6,5),(8,6),(8,7),(8,5),(9,8)] [] (by kernel_rfl) (by kernel_rfl) rfl fun ops anc hA hG=>?_
  simp only[all2_cons]at hA
  simp only[g1,g2,g13s,g15,hxn',i2,n12,r12,m12,qk_old,ruD,ruW,xF,ruU,Nat.reduceLT,Nat.reduceAdd,Nat.reduceEqDiff]
  refine genV_quiet (v:=.int .i64 (findR (ls.map (·.1)) q)) (insF v ls) rfl (by kernel_rfl) (by decide) (fun k hk=>(hiX.ne k hk).1) (fun G h1 h2=>?_) (by simp[Meets,idsV]) ?_
  ·simp only[ruU,Nat.reduceEqDiff]
   have:=find105_c G v ls q (hiX.of (zD0 h1.symm) h2) (by omega)
   rw[e1]at this
   exact this
  simp only[g12,hxn',j4x,t2X,qk_old,ruD,ruW,Nat.reduceLeDiff,xF,ruU,Nat.reduceLT,Nat.reduceAdd,Nat.reduceEqDiff]
  obtain⟨hfi',hfl'⟩:=find_lt hq0
  have hfi:findR (ls.map (·.1)) q=((fnd q:Nat):Int):=by rw[hfnd]; exact hfi'
  have hfl:fnd q<l.length:=by
   rw[zC9]at hfl'
   rw[hfnd]
   simp only
   omega
  obtain⟨F,hF⟩:=Go.Ax.exq (n::(rsI l2++idsV (.slice f2 ts.fs.length c2)))
  have hrn:=restrict_next X F
  have hFn:∀ k∈F,X.get k≠none/\k<X.next:=fun k hk=>by
   rw[<-hF]at hk
   rcases zA8.1 hk with rfl|hk
   ·exact AV.ne _ (.inl rfl)
   ·rcases zB9.1 hk with hk|hk
    ·exact AV.ne _ (.inr hk)
    ·exact fX2.ne k hk
  have AR:ASt (X.restrict F) n l2:=AV.of (zD0 hrn.1.symm) fun k hk=>by
   rw[restrict_get,if_pos (by
    rw[<-hF]
    rcases hk with rfl|hk
    ·exact zB6 ..
    ·exact zB8 _ (List.mem_append_left _ hk))]
  have fR2:FrAt 183 (X.restrict F) (.slice f2 ts.fs.length c2) ts.fs:=fX2.of (zD0 hrn.1.symm) fun k hk=>by
   rw[restrict_get,if_pos (by rw[<-hF]; exact zB8 _ (zF9 _ hk))]
  have hnF:n∈F:=hF▸zB6 ..
  have hgv:=give109_c (X.restrict F) n l2 (fnd q) ts (.slice f2 ts.fs.length c2) AR (by omega) (by omega) fR2 hf2n (by omega) (by rw[hrn.1,hrn.2.1]; exact zB1 _) (hbV (fnd q))
  rw[hlV]at hgv
  obtain⟨_,g,hcg,mg,l3,Ag,hDg,hlg,rfl,hgg⟩:=hgv
  refine genV_mod (W:=[n]) (v:=.bool (giveR (rsK l2) (fnd q) ts).isSome) (g:=g) F okX rfl (by kernel_rfl) (fun n hn=>(hFn n hn).1) (fun n hn=>(hFn n hn).2) (by simpa using hnF) (by simp only[hfi,ruU,Nat.reduceEqDiff]; exact hcg) mg (by simp only[all2_cons,all2_nil,hA,true_or,and_true]) ?_
  intro V D mXV hgF hgN hnV hD
  replace mXV:Mod [n] X V:=mXV
  replace hnV:V.next=g.next:=hnV
  have AVV:ASt V n l3:=Ag.of (zD0 hnV.symm) fun k hk=>by
   obtain⟨h1,h2⟩:=Ag.ne k hk
   by_cases hkF:k∈F
   ·exact hgF k hkF
   ·rcases zD6 k X.next with hkx|hkx
    ·have:=mg.get k (by rw[hrn.1]; exact hkx) (by simp only[zA5]; exact fun e=>hkF (e▸hnF))
     rw[restrict_get,if_neg hkF]at this
     exact absurd this h1
    ·exact hgN k hkx h2
  obtain⟨og,hog⟩:=Go.Ax.exq (giveR (rsK l2) (fnd q) ts)
  have hdr:(targsR op args).drop j=q::(targsR op args).drop (j+1):=by rw[zF7 hjl',hq]
  rw[hdr,zB7,givesR,hog]at hRV
  rw[hog]at hgg ⊢
  rw[show V=ext V [] from rfl]
  cases og with
  |none =>
   simp only at hRV
   simp only[Option.isSome_none,Tryz.results81,ruD,ruW,ruU,Nat.reduceLT,Nat.reduceAdd]
   rw[<-hRV]
   exact⟨(mHU.trans mV).trans mXV,rfl⟩
  |some ks1 =>
   have hk2:=hgg ks1 rfl
   simp only at hRV
   simp only[g15,hwj,Option.isSome_some,ruD,ruW,ruU,Nat.reduceLT,Nat.reduceAdd,Nat.reduceEqDiff]
   refine loopC_next ⟨(j+1,l3),by simp only; omega,mV.trans mXV,AVV,hlg,hDg.trans hDV,fun j t h=>?_,by simp only; rw[hk2]; exact hRV,by simp only; omega,?_,?_,?_,?_,?_⟩
   ·exact give_bd hog hbV (by omega) j t (by rw[<-hk2]; exact h)
   ·exact g1
   ·exact g2
   ·exact g12
   ·rw[hta]; simp only[g13s,ruU,Nat.reduceEqDiff]
   ·rfl
set_option maxRecDepth 100000
theorem ins_wf {l:List UInt8} (h:badA l=none):∀ x∈insA l,WfI x:=fun x hx=>encA_ok ((enc_of_dec h).2 x hx)
theorem encL_len:∀ ls:List Ins,ls.length<=(encL ls).length/\∀ x∈ls,x.args.length<=(encL ls).length
 |[]=>⟨zB1 _,fun x hx=>by cases hx⟩
 |y::r=>by
  obtain⟨h1,h2⟩:=encL_len r
  have hy:(encB y).length=1+2*y.args.length:=by
   rw[encB,zB0]
   have:∀ a:List Int,(a.flatMap fun a=>[a.toNat.toUInt8,(a.toNat / 256).toUInt8]).length=2*a.length:=by
    intro a
    induction a with
    |nil=>rfl
    |cons b a ih=>rw[zD8,zC3,ih]; simp only[zB0,zC7]; omega
   rw[this]
   omega
  have he:(encL (y::r)).length=(encB y).length+(encL r).length:=by simp[encL]
  rw[he,hy]
  refine⟨by rw[zB0]; omega,fun x hx=>?_⟩
  rcases zA8.1 hx with rfl|hx
  ·omega
  ·have:=h2 x hx; omega
theorem ins_len {l:List UInt8} (h:badA l=none):(insA l).length<=l.length/\∀ x∈insA l,x.args.length<=l.length:=by
 have:=encL_len (insA l)
 rw[(enc_of_dec h).1]at this
 exact this
theorem top_ok {s:St} (h:StOk s):0<=(topS s).bound/\(topS s).bound<=100000/\0<=(topS s).height/\(topS s).height<=100000:=by
 by_cases hn:s.fs=[]
 ·rw[topS,hn]; decide
 ·have hm:topS s∈s.fs:=by
   rw[topS,List.getLastD_eq_getLast?,List.getLast?_eq_some_getLast hn]
   exact List.getLast_mem hn
  have:=h.2.2.2.2.2 _ hm
  omega
theorem aft_ok {x:Ins} {s:St} (w:WfI x) (h:StOk s) (hm:missR x.op.toNat x.args s.h=false) (hd:disR x.op.toNat x.args s=false) {depth:Int} (hdp:depth<=1000) :
  (deepR depth 200 1000 (aftR x.op.toNat x.args s).1=false->StOk (aftR x.op.toNat x.args s).1)/\(deepR depth 200 1000 (aftR x.op.toNat x.args s).2=false->StOk (aftR x.op.toNat x.args s).2):=by
 obtain⟨op,hop⟩:∃ q,x.op.toNat=q:=⟨_,rfl⟩
 have hpos:=w.pos
 have hfst:=w.fst
 rw[hop]at hm hd hpos ⊢
 have hbd:=eff_bd op x.args fun h=>⟨hpos (by omega),hfst (hpos (by omega))⟩
 obtain⟨p,q,hpq⟩:∃ p q,effR op x.args=(p,q):=⟨_,_,rfl⟩
 have hmp:¬s.h<p:=by
  unfold missR at hm
  rw[hpq]at hm
  simp only[Bool.or_eq_false_iff,decide_eq_false_iff_not]at hm
  exact hm.1
 rw[hpq]at hbd
 simp only at hbd
 have ht:=top_ok h
 obtain⟨w1,w2,w3,w4,w5,w6⟩:=h
 have mkS:∀ t:St,deepR depth 200 1000 t=false->0<=t.h->0<=t.b->(∀ f∈t.fs,(0<=f.height/\f.height<=100000)/\0<=f.bound/\f.bound<=100000)->StOk t:=fun t h h1 h2 h3=>by
  unfold deepR at h
  simp only[Bool.or_eq_false_iff,decide_eq_false_iff_not]at h
  exact⟨h1,by omega,h2,by omega,by omega,h3⟩
 have app:∀ f:Fr,((0<=f.height/\f.height<=100000)/\0<=f.bound/\f.bound<=100000)->∀ g∈s.fs++[f],(0<=g.height/\g.height<=100000)/\0<=g.bound/\g.bound<=100000:=fun f hf g hg=>by
  rcases zB9.1 hg with hg|hg
  ·exact w6 g hg
  ·rw[zA5]at hg
   exact hg▸hf
 have drp:∀ g∈s.fs.dropLast,(0<=g.height/\g.height<=100000)/\0<=g.bound/\g.bound<=100000:=fun g hg=>w6 g (List.dropLast_subset _ hg)
 unfold aftR
 rw[hpq]
 simp only
 by_cases c1:op=13\/op=14
 ·rw[if_pos c1]
  exact⟨fun h=>mkS _ h (by dsimp only; omega) w3 w6,fun h=>mkS _ h w1 w3 w6⟩
 rw[if_neg c1]
 by_cases c2:op=7
 ·rw[if_pos c2]
  exact⟨fun h=>mkS _ h (by dsimp only; omega) (by dsimp only; omega) w6,fun h=>mkS _ h (by dsimp only; omega) w3 w6⟩
 rw[if_neg c2]
 by_cases c3:op=8
 ·rw[if_pos c3]
  have h8:(topS s).bound<=s.b-x.args.getD 0 0:=by
   rw[disR,if_pos c3,decide_eq_false_iff_not]at hd
   omega
  exact⟨fun h=>mkS _ h (by dsimp only; omega) (by dsimp only; omega) w6,fun h=>mkS _ h (by dsimp only; omega) w3 w6⟩
 rw[if_neg c3]
 by_cases c4:op=16\/op=17
 ·rw[if_pos c4]
  refine⟨fun h=>?_,fun h=>mkS _ h (by dsimp only; omega) w3 w6⟩
  have hdd:=h
  unfold deepR at hdd
  simp only[Bool.or_eq_false_iff,decide_eq_false_iff_not]at hdd
  exact mkS _ h (by dsimp only; omega) w3 (app _ ⟨(by dsimp only; omega),(by dsimp only; omega)⟩)
 rw[if_neg c4]
 by_cases c5:op=18
 ·rw[if_pos c5]
  refine⟨fun h=>?_,fun h=>?_⟩
  ·have hdd:=h
   unfold deepR at hdd
   simp only[Bool.or_eq_false_iff,decide_eq_false_iff_not]at hdd
   exact mkS _ h (by dsimp only; omega) w3 (app _ ⟨(by dsimp only; omega),(by dsimp only; omega)⟩)
  ·have hdd:=h
   unfold deepR at hdd
   simp only[Bool.or_eq_false_iff,decide_eq_false_iff_not]at hdd
   exact mkS _ h (by dsimp only; omega) w3 (app _ ⟨(by dsimp only; omega),(by dsimp only; omega)⟩)
 rw[if_neg c5]
 by_cases c6:op=19
 ·rw[if_pos c6]
  refine⟨fun h=>mkS _ h (by dsimp only; omega) w3 ?_,fun h=>mkS _ h (by dsimp only; omega) w3 w6⟩
  simp only
  split
  ·intro g hg
   rcases zB9.1 hg with hg|hg
   ·exact drp g hg
   ·rw[zA5]at hg
    subst hg
    simp only
    omega
  ·exact drp
 rw[if_neg c6]
 by_cases c7:op=20
 ·rw[if_pos c7]
  exact⟨fun h=>mkS _ h (by dsimp only; omega) w3 drp,fun h=>mkS _ h (by dsimp only; omega) w3 w6⟩
 rw[if_neg c7]
 exact⟨fun h=>mkS _ h (by dsimp only; omega) w3 w6,fun h=>mkS _ h (by dsimp only; omega) w3 w6⟩
theorem gives_bd {P:St->Prop}:∀ {r:List Nat} {ks ks':Ks} {s:St},givesR ks r s=some ks'->(∀ (j:Nat) (t:St),ks[j]?=some (some t)->P t)->P s->∀ (j:Nat) (t:St),ks'[j]?=some (some t)->P t
 |[],ks,ks',s,h,hk,_=>by
  simp only[givesR,Option.some.injEq]at h
  exact h▸hk
 |i::r,ks,ks',s,h,hk,hs=>by
  rw[givesR]at h
  cases hg:giveR ks i s with
  |none=>rw[hg]at h; cases h
  |some k1 =>
   rw[hg]at h
   exact gives_bd h (give_bd hg hk hs) hs
theorem pr_ok {depth:Int} {l:List Ins} {ks ks':Ks} {i:Nat} (hw:∀ x∈l,WfI x) (hk:KsOk ks) (hdp:depth<=1000) (h:prR depth l ks i=.ok ks'):KsOk ks':=by
 cases hx:l[i]? with
 |none=>unfold prR procR at h; rw[hx]at h; cases h
 |some x =>
  cases hs:ks.getD i none with
  |none=>unfold prR procR at h; rw[hx,hs]at h; cases h
  |some s =>
   rw[prR_eq hx hs]at h
   have hsk:StOk s:=by
    rw[zA9]at hs
    cases hj:ks[i]? with
    |none=>rw[hj]at hs; cases hs
    |some o=>rw[hj]at hs; exact hk i s (by rw[hj]; exact congrArg some hs)
   cases hm:missR x.op.toNat x.args s.h with
   |true=>rw[hm,if_pos rfl]at h; cases h
   |false =>
    rw[hm,if_neg (by simp)]at h
    cases hd:disR x.op.toNat x.args s with
    |true=>rw[hd,if_pos rfl]at h; cases h
    |false =>
     rw[hd,if_neg (by simp)]at h
     obtain⟨o1,o2⟩:=aft_ok (hw x (zF1 hx)) hsk hm hd hdp
     unfold tl1 at h
     split at h
     ·cases h
     ·rename_i hnd
      have n1:deepR depth 200 1000 (aftR x.op.toNat x.args s).1=false:=by
       cases hq:deepR depth 200 1000 (aftR x.op.toNat x.args s).1 with
       |false=>rfl
       |true=>exact absurd (.inl hq) hnd
      unfold tl2 at h
      split at h
      ·cases h
      ·have h1:∀ k1:Ks,(if x.op.toNat≠10/\x.op.toNat≠15 then giveR ks (i+1) (aftR x.op.toNat x.args s).1 else some ks)=some k1->KsOk k1:=fun k1 hk1=>by
        split at hk1
        ·exact give_bd hk1 hk (o1 n1)
        ·simp only[Option.some.injEq]at hk1
         exact hk1▸hk
       cases hg:(if x.op.toNat≠10/\x.op.toNat≠15 then giveR ks (i+1) (aftR x.op.toNat x.args s).1 else some ks) with
       |none=>rw[hg,tl3]at h; cases h
       |some k1 =>
        rw[hg,tl3]at h
        have hk1:=h1 k1 hg
        by_cases ht:targsR x.op.toNat x.args=[]
        ·rw[ht,zF6,givesR]at h
         simp only[Except.ok.injEq]at h
         exact h▸hk1
        ·have n2:deepR depth 200 1000 (aftR x.op.toNat x.args s).2=false:=by
          cases hq:deepR depth 200 1000 (aftR x.op.toNat x.args s).2 with
          |false=>rfl
          |true=>exact absurd (.inr ⟨ht,hq⟩) hnd
         cases hgs:givesR k1 ((targsR x.op.toNat x.args).map fun t=>(findR l t).toNat) (aftR x.op.toNat x.args s).2 with
         |none=>rw[hgs]at h; cases h
         |some k2 =>
          rw[hgs]at h
          simp only[Except.ok.injEq]at h
          exact h▸gives_bd hgs hk1 (o2 n2)
def verR (least most depth:Int) (cn:Nat) (bs:List UInt8):Except (Int × Int) Ks :=
 if headR least most depth cn=true then .error (3,0) else
 match badA bs with
 |some r=>.error (r.2,r.1.pos)
 |none =>
  if insA bs=[] then .error (13,0) else
  match statR (insA bs) cn with
  |some r=>.error r
  |none =>
   if deepR depth 200 1000 (entS (entR least most))=true then .error (12,0) else
   runR depth (insA bs) ((insA bs).length+1) ((List.replicate (insA bs).length none).set 0 (some (entS (entR least most)))) (List.replicate (insA bs).length false)
set_option maxRecDepth 100000
structure CpAt (b:Nat) (X:AHeap) (v:Value) (cs:List Iv):Prop where
 vs:VsAt X 59 3 v (insC cs) cs.length
 rd:∀ x∈cs,RdAt X 1 x.2 (iv x.1.args) x.1.args.length/\scb X.next x.2=true/\∀ n∈idsV x.2,b<=n/\n∉idsV v
 lo:∀ n∈idsV v,b<=n
set_option maxRecDepth 100000
theorem same18_c (H:AHeap) (v w:Value) (a b:List Int) (ha:RdAt H 1 v (iv a) a.length) (hb:RdAt H 1 w (iv b) b.length) (hl:a.length<=100000000):Pure 18 [v,w] H (.bool (decide (a=b))):=by
 obtain⟨x,hx⟩:=Go.Ax.exq H.next
 obtain⟨a0,c0,e0⟩:=ha.sl
 obtain⟨a1,c1,e1⟩:=hb.sl
 refine callS_fn mixed Tryz.func18 rfl Tryz.ntmps18 (zB2 rfl) fun wf hsc=>?_
 by_cases hne:a.length=b.length
 ·have hd:decide (¬(a.length:Int)=(b.length:Int))=false:=decide_eq_false (by omega)
  rw[e0,e1]
  simp only[hd,ruW,xF,ruU,entryE,Nat.reduceLT,Nat.reduceAdd,Nat.reduceEqDiff]
  rw[<-e0,<-e1]
  refine w_env fun E hE=>?_
  have g0:E 0=v:=by rw[hE,e0]; simp only[ruU,Nat.reduceEqDiff]
  have g1:E 1=w:=by rw[hE,e1]; simp only[ruU,Nat.reduceEqDiff]
  have g5:E 5=.int .i64 ((0:Nat):Int):=by rw[hE]; rfl
  clear hE
  refine w_loop (fun (j:Nat) E' H'=>H'=ext H []/\j<=a.length/\a.take j=b.take j/\E' 0=v/\E' 1=w/\E' 5=.int .i64 (j:Int)) (fun j=>a.length-j) 0 ⟨rfl,zB5 _,rfl,g0,g1,g5⟩ ?_
  clear g0 g1 g5 E
  rintro j E H' ⟨hH,hj,htk,g0,g1,g5⟩
  rw[hH]
  by_cases hje:j=a.length
  ·have hdj:decide ((j:Int)<(a.length:Int))=false:=decide_eq_false (by omega)
   rw[e0]at g0
   simp only[g0,g5,hdj,Tryz.results18,ruW,xF,ruU,Nat.reduceLT,Nat.reduceEqDiff]
   have:decide (a=b)=true:=by
    rw[zE0 (by omega),zE0 (by omega)]at htk
    exact decide_eq_true htk
   rw[this]
   exact Fin.pureE rfl rfl
  ·have hjl:j<a.length:=by omega
   have hdj:decide ((j:Int)<(a.length:Int))=true:=decide_eq_true (by omega)
   obtain⟨n,off,s,c,e,o,M,k1,n1,r1,m1⟩:=ha.one hjl
   have hjb:j<b.length:=by omega
   obtain⟨n',off',s',c',e',o',M',k2,n2,r2,m2⟩:=hb.one hjb
   rw[iv_get,zA4 hjl,zA6]at m1
   rw[iv_get,zA4 hjb,zA6]at m2
   have i1:=ia_of (P:=Tryz.prog) (k:=.i64) (i:=j) (n:=n) (off:=off) (len:=a.length) (cap:=c) (s:=s) u35 s3 hjl
   have i2:=ia_of (P:=Tryz.prog) (k:=.i64) (i:=j) (n:=n') (off:=off') (len:=b.length) (cap:=c') (s:=s') u35 s3 hjb
   rw[zC4]at i1 i2
   rw[hx]at n1 n2
   have hw:IntKind.i64.wrap ((j:Int)+1)=((j+1:Nat):Int):=wrap_succ (by omega)
   obtain⟨d,hdd⟩:=Go.Ax.exq (decide (¬a[j]=b[j]))
   rw[k1]at g0
   rw[k2]at g1
   simp only[g0,g5,hdj,ruW,xF,ruU,Nat.reduceLT,Nat.reduceEqDiff]
   refine w_drawB [] [] (by kernel_rfl) (by kernel_rfl) rfl fun ops anc hA hG=>?_
   simp only[g0,g1,g5,hx,i1,i2,n1,n2,r1,r2,m1,m2,hdd,qk_old,ruD,ruW,xF,ruU,Nat.reduceLT,Nat.reduceAdd,Nat.reduceEqDiff]
   cases d with
   |true =>
    have:=of_decide_eq_true hdd
    simp only[Tryz.results18,ruW,ruU,Nat.reduceLT]
    have:decide (a=b)=false:=decide_eq_false fun e=>by subst e; exact this rfl
    rw[this]
    exact Fin.pureE rfl rfl
   |false =>
    have hq:=of_decide_eq_false hdd
    have hab:a[j]=b[j]:=by omega
    simp only[g5,hw,ruW,ruU,Nat.reduceLT,Nat.reduceEqDiff]
    refine loopC_next ⟨j+1,by omega,rfl,by omega,?_,?_,?_,?_⟩
    ·rw[List.take_add_one,List.take_add_one,htk,zA4 hjl,zA4 hjb,hab]
    ·rw[k1]; simp only[g0,ruU,Nat.reduceEqDiff]
    ·rw[k2]; simp only[g1,ruU,Nat.reduceEqDiff]
    ·rfl
 ·have hd:decide (¬(a.length:Int)=(b.length:Int))=true:=decide_eq_true (by omega)
  rw[e0,e1]
  simp only[hd,Tryz.results18,ruW,xF,ruU,entryE,Nat.reduceLT,Nat.reduceAdd,Nat.reduceEqDiff]
  have:decide (a=b)=false:=decide_eq_false fun e=>hne (by rw[e])
  rw[this]
  exact Fin.pureE rfl rfl
end Go.Proofs.YtnigelgcjfhghaaGreatDoor
namespace Go.Ax
variable {P : Program} {H : AHeap}
end Go.Ax
namespace Go.Proofs.YtnigelgcjfhghaaGreatDoor
open Go.Ax
set_option maxRecDepth 100000
set_option maxRecDepth 100000
set_option maxRecDepth 100000
theorem kinds_step {op:Nat} {args:List Int} {x:Int} (hop:op<28) (h:args.length+1≠(kindsR op []).length):(kindsR op (args++[x])).length=(kindsR op args).length:=by
 rcases kinds_three hop with⟨q,_,e⟩|⟨_,e⟩|⟨_,e⟩
 ·rw[e,e]
 ·rw[e]at h ⊢
  rw[e,guard_len0]at *
  have h1:args≠[]:=fun e=>by rw[e]at h; exact h rfl
  obtain⟨y,r,rfl⟩:=List.exists_cons_of_ne_nil h1
  rw[guard_len (by simp),guard_len (by simp)]
  rfl
 ·rw[e]at h ⊢
  rw[e]
  rw[env_len0 (by simp)]at h
  by_cases h1:args.length<2
  ·rw[env_len0 h1,env_len0 (by rw[zC3,zC8]; omega)]
  ·rw[env_len (args:=args) (by omega),env_len (args:=args++[x]) (by rw[zC3,zC8]; omega)]
   rw[zA9,zA9,List.getElem?_append_left (by omega)]
theorem find_zero:∀ (ls:List Ins) (t:List (Ins × Int)),((ls.map fun x=>(x,(0:Int)))++t).find? (fun r=>!decide (r.2=0))=t.find? fun r=>!decide (r.2=0)
 |[],_=>rfl
 |x::r,t=>by
  rw[zB7,zF2,List.find?_cons]
  simp only[decide_true,zF5]
  exact find_zero r t
theorem bad_none {l:List UInt8} {ls:List Ins} (h:(ls.map fun x=>(x,(0:Int)))=decA 0 l):badA l=none/\insA l=ls:=by
 refine⟨?_,?_⟩
 ·rw[badA,<-h]
  have:=find_zero ls []
  rw[zD9]at this
  exact this
 ·rw[insA,<-h,List.map_map]
  exact List.map_id ls
theorem bad_some {l:List UInt8} {ls:List Ins} {i:Ins} {e:Int} (h:(ls.map fun x=>(x,(0:Int)))++[(i,e)]=decA 0 l) (he:e≠0):badA l=some (i,e):=by
 rw[badA,<-h,find_zero,List.find?_cons]
 simp only[decide_eq_false he,Bool.not_false]
theorem sum_bytes {a b:Nat} (ha:a<256) (hb:b<256):IntKind.i64.wrap (256*(b:Int))=((256*b:Nat):Int)/\IntKind.i64.wrap ((a:Int)+((256*b:Nat):Int))=((a+256*b:Nat):Int) :=
 ⟨(wrap_sm (by omega) (by omega)).trans (by omega),(wrap_sm (by omega) (by omega)).trans (by omega)⟩
theorem decode25_c (H:AHeap) (bsv:Value) (l:List UInt8) (hl:l.length<=60000) (hb:RdAt H 1 bsv (bv l) l.length) (hok:H.base<=H.next):CallA Tryz.prog 25 [bsv] H (fun out X=>DecOut H.next l out X/\Mod [] H X):=by
 obtain⟨b,hbn⟩:=Go.Ax.exq H.next
 obtain⟨ba,bc,eb⟩:=hb.sl
 have hd:decide ((60000:Int)<(l.length:Int))=false:=decide_eq_false (by omega)
 refine callE_fn mixed Tryz.func25 rfl Tryz.ntmps25 (zB2 rfl) ?_
 rw[eb]
 simp only[hbn,hd,ruW,xF,ruU,entryE,Nat.reduceLT,Nat.reduceEqDiff]
 rw[<-eb]
 refine w_env fun E hE=>?_
 have g0:E 0=bsv:=by rw[hE,eb]; simp only[ruU,Nat.reduceEqDiff]
 have g2:E 2=.slice none 0 0:=by rw[hE]; rfl
 have g3:E 3=.pointer (some ⟨b+0,0,none⟩):=by rw[hE]; rfl
 have g4:E 4=.slice none 0 0:=by rw[hE]; rfl
 have g5:E 5=.int .i64 ((0:Nat):Int):=by rw[hE]; rfl
 clear hE
 generalize hX0:ext H _=X0
 have m0:Mod [] H X0:=hX0▸Mod.ext hok
 have n0:b+1<=X0.next:=by rw[<-hX0,ext_next,hbn]; simp
 have k0:bk X0 (b+0)=some ⟨26,false,[.int .i64 0,.int .i64 0]⟩:=by rw[<-hX0,bk_at hbn (by simp)]; rfl
 clear hX0
 refine w_loop (fun (z:Nat × List Iv × Value) E' X=>Mod [] H X/\b+1<=X.next/\bk X (b+0)=some ⟨26,false,[.int .i64 0,.int .i64 0]⟩/\OwnI (b+1) X z.2.2 z.2.1/\z.1<=l.length/\z.2.1.length<=z.1/\((z.2.1.map (·.1)).map fun x=>(x,(0:Int)))++decA z.1 (l.drop z.1)=decA 0 l/\E' 0=bsv/\E' 2=.slice none 0 0/\E' 3=.pointer (some ⟨b+0,0,none⟩)/\E' 4=z.2.2/\E' 5=.int .i64 (z.1:Int)) (fun z=>l.length-z.1) (0,[],.slice none 0 0)
  ⟨m0,n0,k0,⟨VsAt.nil,fun x hx=>by simp at hx,fun n hn=>by simp[idsV]at hn,fun x hx=>by simp at hx,by simp⟩,zB5 _,zB5 _,rfl,g0,g2,g3,g4,g5⟩ ?_
 clear g0 g2 g3 g4 g5 m0 n0 k0 X0 E
 rintro⟨pos,ls,v⟩ E X ⟨m,nx,k,own,hpl,hll,htot,g0,g2,g3,g4,g5⟩
 simp only at own hpl hll htot g4 g5
 obtain⟨x,hx⟩:=Go.Ax.exq X.next
 have okX:=m.ok hok
 have hxb:X.base<=x:=hx▸okX
 rw[hx]at nx
 have hbx:b+0<x:=by omega
 obtain⟨va,ev⟩:=own.vs.len
 rw[show X=ext X [] from rfl]
 by_cases hpe:pos=l.length
 ·have hd:decide ((pos:Int)<(l.length:Int))=false:=decide_eq_false (by omega)
  rw[hpe,List.drop_length,decA_nil,zD9]at htot
  obtain⟨hbad,hins⟩:=bad_none htot
  rw[ev]at g4
  rw[eb]at g0
  simp only[g0,g3,g4,g5,hd,hx,hbx,k,Tryz.results25,ruW,putL,Nat.reduceLeDiff,xF,ruU,Nat.reduceLT,Nat.reduceAdd,Nat.reduceEqDiff]
  refine⟨?_,m.step (W':=[b+0]) (Mod.uw (by simp)) hok fun n hn=>by simp only[zA5]at hn; exact .inr (by omega)⟩
  simp only[DecOut,hbad]
  rw[<-ev]
  refine⟨v,ls,rfl,hins.symm,?_⟩
  rw[ext_nil]
  have hlo:=own.lo
  have halo:=own.alo
  exact⟨own.vs.of (by rw[uw_next]; exact zB1 _) fun n hn=>uw_get (by have:=hlo n hn; omega),fun z hz=>(own.av z hz).of (by rw[uw_next]; exact zB1 _) fun n hn=>uw_get (by have:=(halo z hz n hn).1; omega),fun n hn=>by have:=hlo n hn; omega,fun z hz n hn=>⟨by have:=(halo z hz n hn).1; omega,(halo z hz n hn).2⟩,own.nd⟩
 ·have hlt:pos<l.length:=by omega
  have hd:decide ((pos:Int)<(l.length:Int))=true:=decide_eq_true (by omega)
  obtain⟨n,off,s,c,e,o,M,e1,n1,r1,m1⟩:=(hb.mod0 m).one hlt
  rw[bv_get,zA4 hlt,zA6]at m1
  rw[hx]at n1
  have i0:=ia_of (P:=Tryz.prog) (k:=.i64) (i:=pos) (n:=n) (off:=off) (len:=l.length) (cap:=c) (s:=s) u23 s5 hlt
  rw[zC4]at i0
  obtain⟨op,hop⟩:=Go.Ax.exq (l[pos])
  rw[hop]at m1
  have hcv:∀ G:AHeap,aConvert Tryz.prog G 5 3 (.int .u8 (op.toNat:Int))=some (.int .i64 (op.toNat:Int),G):=fun G=>by
   rw[cv_int (u:=.int .u8) (k:=.i64) (by kernel_rfl) (by kernel_rfl),wrap_nat (by have:=op.toNat_lt; omega)]
  have g0s:E 0=.slice (some ⟨n,off,s⟩) l.length c:=g0.trans e1
  obtain⟨d,hd2⟩:=Go.Ax.exq (decide ((28:Int)<=(op.toNat:Int)))
  simp only[g0s,g5,hx,hxb,hd,i0,n1,r1,m1,hcv,qk_old,w_convert,ruW,putL,Nat.reduceLeDiff,xF,ruU,Nat.reduceLT,Nat.reduceAdd,Nat.reduceEqDiff]
  have hdr:l.drop pos=op::l.drop (pos+1):=by rw[zF7 hlt,hop]
  rw[hdr]at htot
  generalize hX1:ext X _=X1
  have mX1:Mod [] X X1:=hX1▸Mod.ext okX
  have nx1:X1.next=x+1:=by rw[<-hX1,ext_next,hx]; rfl
  have kx1:bk X1 (x+0)=some ⟨59,false,[.int .i64 (pos:Int),.int .i64 (op.toNat:Int),.slice none 0 0]⟩:=by rw[<-hX1,bk_at hx (by simp)]; rfl
  clear hX1
  have kf1:bk X1 (b+0)=some ⟨26,false,[.int .i64 0,.int .i64 0]⟩:=(mX1.bk (by omega) (by simp)).trans k
  have ok1:=mX1.ok okX
  have xb1:X1.base<=x+1:=nx1▸ok1
  have hxx:x+0<x+1:=by omega
  have hb1:b+0<x+1:=by omega
  rw[show X1=ext X1 [] from rfl]
  cases d with
  |true =>
   have hbad:28<=op.toNat:=by have:=of_decide_eq_true hd2; omega
   rw[decA_bad hbad]at htot
   have hsome:=bad_some htot (by decide)
   simp only[g3,g5,hd2,nx1,kf1,hb1,Tryz.results25,ruW,putL,Nat.reduceLeDiff,xF,ruU,Nat.reduceLT,Nat.reduceAdd,Nat.reduceEqDiff]
   refine⟨?_,(m.trans mX1).step (W':=[b+0]) (Mod.uw (by simp)) hok fun n hn=>by simp only[zA5]at hn; exact .inr (by omega)⟩
   simp only[DecOut,hsome]
  |false =>
   have hop28:op.toNat<28:=by have:=of_decide_eq_false hd2; omega
   simp only[hd2,nx1,kx1,hxx,ruW,xF,ruU,Nat.reduceLT,Nat.reduceAdd,Nat.reduceEqDiff]
   refine (fixed50_c (ext X1 []) op.toNat hop28).to ?_
   have hw1:IntKind.i64.wrap ((pos:Int)+1)=((pos+1:Nat):Int):=wrap_succ (by omega)
   simp only[g5,hw1,ruW,ruU,Nat.reduceLT,Nat.reduceEqDiff]
   refine w_env fun E2 hE=>?_
   have h0:E2 0=bsv:=by rw[hE,e1]; simp only[g0s,ruU,Nat.reduceEqDiff]
   have h2:E2 2=.slice none 0 0:=by rw[hE]; simp only[g2,ruU,Nat.reduceEqDiff]
   have h3:E2 3=.pointer (some ⟨b+0,0,none⟩):=by rw[hE]; simp only[g3,ruU,Nat.reduceEqDiff]
   have h4:E2 4=v:=by rw[hE]; simp only[g4,ruU,Nat.reduceEqDiff]
   have h5:E2 5=.int .i64 (pos:Int):=by rw[hE]; simp only[g5,ruU,Nat.reduceEqDiff]
   have h6:E2 6=.pointer (some ⟨x+0,0,none⟩):=by rw[hE]; rfl
   have h7:E2 7=.int .i64 ((kindsR op.toNat []).length:Int):=by rw[hE]; rfl
   have h8:E2 8=.int .i64 ((pos+1:Nat):Int):=by rw[hE]; rfl
   clear hE g0s g0 g2 g3 g4 g5 E
   rw[ext_nil]
   refine blockC_meet (fun E' X2=>∃ args av pe,Mod [] X X2/\bk X2 (x+0)=some ⟨59,false,[.int .i64 (pos:Int),.int .i64 (op.toNat:Int),av]⟩/\x+1<=X2.next/\ArgA X2 av args/\(∀ k∈idsV av,x<k)/\rdA op.toNat [] (l.drop (pos+1))=(args,some (l.drop pe))/\pe=pos+1+2*args.length/\pe<=l.length/\E' 0=bsv/\E' 2=.slice none 0 0/\E' 3=.pointer (some ⟨b+0,0,none⟩)/\E' 4=v/\E' 6=.pointer (some ⟨x+0,0,none⟩)/\E' 8=.int .i64 (pe:Int)) ?_ ?_
   ·refine w_loop (fun (z:List Int × Value × Nat) E' X2=>Mod [] X X2/\bk X2 (x+0)=some ⟨59,false,[.int .i64 (pos:Int),.int .i64 (op.toNat:Int),z.2.1]⟩/\x+1<=X2.next/\ArgA X2 z.2.1 z.1/\(∀ k∈idsV z.2.1,x<k)/\(∀ y∈z.1,0<=y/\y<=65535)/\rdA op.toNat z.1 (l.drop z.2.2)=rdA op.toNat [] (l.drop (pos+1))/\z.2.2=pos+1+2*z.1.length/\z.2.2<=l.length/\E' 0=bsv/\E' 2=.slice none 0 0/\E' 3=.pointer (some ⟨b+0,0,none⟩)/\E' 4=v/\E' 5=.int .i64 (pos:Int)/\E' 6=.pointer (some ⟨x+0,0,none⟩)/\E' 7=.int .i64 ((kindsR op.toNat z.1).length:Int)/\E' 8=.int .i64 (z.2.2:Int)) (fun z=>l.length-z.2.2) ([],.slice none 0 0,pos+1)
     ⟨mX1,kx1,by omega,VsAt.nil,fun k hk=>by simp[idsV]at hk,fun y hy=>by simp at hy,rfl,rfl,by simp only; omega,h0,h2,h3,h4,h5,h6,h7,h8⟩ ?_
    clear h0 h2 h3 h4 h5 h6 h7 h8 E2 kx1 kf1 nx1 mX1 ok1 xb1 X1 hxx hb1
    rintro⟨args,av,pe⟩ E X2 ⟨m2,k2,nx2,ha,hai,hsm,hrd,hpe',hpos,g0,g2,g3,g4,g5,g6,g7,g8⟩
    simp only at k2 ha hai hsm hrd hpe' hpos g7 g8
    obtain⟨y,hy⟩:=Go.Ax.exq X2.next
    rw[hy]at nx2
    have okX2:=m2.ok okX
    have hyb:X2.base<=y:=hy▸okX2
    have hxy:x+0<y:=by omega
    have hby:b+0<y:=by omega
    have kf2:bk X2 (b+0)=some ⟨26,false,[.int .i64 0,.int .i64 0]⟩:=(m2.bk (by omega) (by simp)).trans k
    obtain⟨a1,ea⟩:=VsAt.len ha
    rw[show X2=ext X2 [] from rfl]
    rw[ea]at k2
    obtain⟨K,hK⟩:=Go.Ax.exq ((kindsR op.toNat args).length)
    rw[hK]at g7
    obtain⟨dk,hdk⟩:=Go.Ax.exq (decide ((args.length:Int)<(K:Int)))
    have hw2:IntKind.i64.wrap ((pe:Int)+2)=((pe+2:Nat):Int):=(wrap_sm (by omega) (by omega)).trans (by omega)
    cases dk with
    |false =>
     have hnk:¬args.length<(kindsR op.toNat args).length:=by have:=of_decide_eq_false hdk; omega
     rw[rdA_done hnk]at hrd
     simp only[g6,g7,hy,hxy,k2,hdk,qk_old,ruW,xF,ruU,Nat.reduceLT,Nat.reduceAdd,Nat.reduceEqDiff]
     refine joinR_normal ⟨args,av,pe,m2,by rw[ea]; exact k2,by rw[ext_nil,hy]; exact nx2,ha,hai,hrd.symm,by omega,hpos,?_,?_,?_,?_,?_,?_⟩<;>simp only[g0,g2,g3,g4,g6,g8,ruU,Nat.reduceEqDiff]
    |true =>
     have hyk:args.length<(kindsR op.toNat args).length:=by have:=of_decide_eq_true hdk; omega
     obtain⟨de,hde⟩:=Go.Ax.exq (decide ((l.length:Int)<((pe+2:Nat):Int)))
     have g0e:E 0=.slice ba l.length bc:=g0.trans eb
     cases de with
     |true =>
      have hle:l.length<pe+2:=by have:=of_decide_eq_true hde; omega
      have hrl:(l.drop pe).length<2:=by rw[zF8]; omega
      rw[rdA_end hyk hrl]at hrd
      rw[decA_end (by omega) hrd.symm]at htot
      have hsome:=bad_some htot (by decide)
      simp only[g0e,g3,g5,g6,g7,g8,hy,hxy,hby,kf2,k2,hdk,hw2,hde,qk_old,Tryz.results25,joinR_ret,ruW,putL,Nat.reduceLeDiff,xF,ruU,Nat.reduceLT,Nat.reduceAdd,Nat.reduceEqDiff]
      refine⟨?_,(m.trans m2).step (W':=[b+0]) (Mod.uw (by simp)) hok fun n hn=>by simp only[zA5]at hn; exact .inr (by omega)⟩
      simp only[DecOut,hsome]
     |false =>
      have hge:pe+2<=l.length:=by have:=of_decide_eq_false hde; omega
      obtain⟨n',off',s',c',e',o',M2,e1',n1',r1',mb2⟩:=(hb.mod0 (m.trans m2)).all (by omega)
      have hm1:=mb2 pe (by omega)
      have hm2:=mb2 (pe+1) (by omega)
      obtain⟨c0,hc0⟩:∃ c0,l[pe]?=some c0:=⟨_,zA4 (by omega)⟩
      obtain⟨c1,hc1⟩:∃ c1,l[pe+1]?=some c1:=⟨_,zA4 (by omega)⟩
      rw[bv_get,hc0,zA6]at hm1
      rw[bv_get,hc1,zA6]at hm2
      rw[hy]at n1'
      have i2:=ia_of (P:=Tryz.prog) (k:=.i64) (i:=pe) (n:=n') (off:=off') (len:=l.length) (cap:=c') (s:=s') u23 s5 (by omega)
      have i3:=ia_of (P:=Tryz.prog) (k:=.i64) (i:=pe+1) (n:=n') (off:=off') (len:=l.length) (cap:=c') (s:=s') u23 s5 (by omega)
      rw[zC4]at i2 i3
      have hw3:IntKind.i64.wrap ((pe:Int)+1)=((pe+1:Nat):Int):=wrap_succ (by omega)
      have hb0:=c0.toNat_lt
      have hb1:=c1.toNat_lt
      obtain⟨hs1,hs2⟩:=sum_bytes (a:=c0.toNat) (b:=c1.toNat) (by omega) (by omega)
      have g0s:E 0=.slice (some ⟨n',off',s'⟩) l.length c':=g0.trans e1'
      simp only[g0s,g6,g7,g8,hy,hxy,k2,hdk,hw2,hde,qk_old,ruW,xF,ruU,Nat.reduceLT,Nat.reduceAdd,Nat.reduceEqDiff]
      refine w_drawB [(16,1),(16,2),(16,3),(16,4),(16,5),(16,6),(16,7),(16,8),(16,9),(16,10),(16,11),(16,12),(16,13),(16,14),(16,15),(18,0),(18,1),(18,2),(18,3),(18,4),(18,5),(18,6),(18,7),(18,8),(18,9),(18,10),(18,11),(18,12),(18,13),(18,14),(18,15),(18,16),(18,17)] [] (by kernel_rfl) (by kernel_rfl) rfl fun ops anc hA hG=>?_
      simp only[all2_cons]at hA
      simp only[g0s,g6,g8,hy,hxy,k2,i2,n1',r1',hm1,qk_old,ruD,ruW,xF,ruU,Nat.reduceLT,Nat.reduceAdd,Nat.reduceEqDiff]
      refine wd_cvint (u:=.int .u8) (k:=.i64) (k0:=.u8) (n:=(c0.toNat:Int)) rfl (by decide) (by kernel_rfl) (by kernel_rfl) rfl ?_
      rw[show IntKind.i64.wrap (c0.toNat:Int)=(c0.toNat:Int) from wrap_nat (by omega)]
      simp only[g0s,g8,hy,i3,hw3,n1',r1',hm2,qk_old,ruD,ruW,xF,ruU,Nat.reduceLT,Nat.reduceAdd,Nat.reduceEqDiff]
      refine wd_cvint (u:=.int .u8) (k:=.i64) (k0:=.u8) (n:=(c1.toNat:Int)) rfl (by decide) (by kernel_rfl) (by kernel_rfl) rfl ?_
      rw[show IntKind.i64.wrap (c1.toNat:Int)=(c1.toNat:Int) from wrap_nat (by omega)]
      simp only[hy,hs1,hs2,ruD,ruW,xF,ruU,Nat.reduceLT,Nat.reduceAdd,Nat.reduceEqDiff]
      obtain⟨cv,hcv'⟩:∃ cv:Int,((c0.toNat+256*c1.toNat:Nat):Int)=cv:=⟨_,rfl⟩
      rw[hcv']
      generalize hY:ext X2 _=Y
      have mY:Mod [] X2 Y:=hY▸Mod.ext okX2
      have nY:Y.next=y+1:=by rw[<-hY,ext_next,hy]; rfl
      have kY:bk Y (y+0)=some ⟨3,false,[.int .i64 cv]⟩:=by rw[<-hY,bk_at hy (by simp)]; rfl
      have okY:=mY.ok okX2
      rw[ea]at ha hai
      have haY:ArgA Y (.slice a1 args.length args.length) args:=ha.of mY.next fun k hk=>mY.get k (ha.ne k hk).2 (by simp)
      refine wd_appV (v:=.slice a1 args.length args.length) (vs:=iv args) (cnt:=args.length) (sz:=1) (e:=3) (by1:=8) (n:=y+0) (off:=0) (cnt2:=1) (cap:=1) (s:=some 0) (z:=.int .i64 0) (ws:=[.int .i64 cv]) u35 s3 (by kernel_rfl) (by kernel_rfl) rfl (by kernel_rfl) rfl rfl (by decide) haY (rk_of kY) (by omega) (by simp) rfl rfl (by decide)
       (by simp only[small,zA7,zD5]; omega) (scbL_append (scbL_iv _ _) rfl) okY (by simp only[all2_cons,all2_nil,hA,true_or,and_true]) fun Z D vZ mZ hD nZ=>?_
      rw[nY]at nZ vZ ⊢
      have mXZ:Mod (idsV (.slice a1 args.length args.length)) X2 Z:=(mY.mono (by simp)).trans mZ
      have hxn:x+0∉idsV (.slice a1 args.length args.length):=fun h=>by have:=hai _ h; omega
      have kx:bk Z (x+0)=some ⟨59,false,[.int .i64 (pos:Int),.int .i64 (op.toNat:Int),.slice a1 args.length args.length]⟩:=(mXZ.bk (by omega) hxn).trans k2
      have hxz:x+0<y+1+1:=by omega
      have hyz:y+1<y+1+1:=by omega
      rw[show Z=ext Z [] from rfl]
      simp only[g6,g8,nZ,kx,hxz,hyz,hw2,hA,ruD,ruW,putL,Nat.reduceLeDiff,xF,ruU,Nat.reduceLT,Nat.reduceAdd,Nat.reduceEqDiff]
      refine⟨⟨.inr (.inl (by omega)),.inr (.inl (by omega))⟩,?_⟩
      generalize hU:uw Z (x+0) 2 _=U
      have mU:Mod [x+0] Z U:=hU▸Mod.uw (by simp)
      have kU:bk U (x+0)=some ⟨59,false,[.int .i64 (pos:Int),.int .i64 (op.toNat:Int),.slice (some ⟨y+1,0,none⟩) (args.length+1) (args.length+1)]⟩:=by rw[<-hU,bk_uw_eq,kx]; rfl
      have nU':U.next=y+1+1:=by rw[<-hU,uw_next,nZ]
      have mXU:Mod [] X U:=by
       refine m2.step (W':=(x+0)::idsV (.slice a1 args.length args.length)) ((mXZ.mono (fun k hk=>zB8 _ hk)).trans (mU.mono (by simp))) okX fun k hk=>.inr ?_
       rcases zA8.1 hk with rfl|hk
       ·omega
       ·have:=hai k hk; omega
      have hdrp:l.drop pe=c0::c1::l.drop (pe+2):=by
       rw[zF7 (show pe<l.length by omega),zF7 (show pe+1<l.length by omega)]
       rw[zA4 (by omega)]at hc0 hc1
       rw[Option.some.inj hc0,Option.some.inj hc1]
      rw[hdrp,rdA_more hyk,hcv']at hrd
      have hiv:iv (args++[cv])=iv args++[.int .i64 cv]:=by simp[iv]
      have haU:ArgA U (.slice (some ⟨y+1,0,none⟩) (args.length+1) (args.length+1)) (args++[cv]):=by
       show VsAt U 3 1 _ (iv (args++[cv])) (args++[cv]).length
       rw[hiv,zC3,zC8]
       exact vZ.of mU.next fun k hk=>mU.get k (vZ.ne k hk).2 (by simp only[idsV,zA5]at hk ⊢; omega)
      have hsm':∀ j∈args++[cv],0<=j/\j<=65535:=fun j hj=>by
       rcases zB9.1 hj with hj|hj
       ·exact hsm j hj
       ·simp only[zA5]at hj; omega
      have hal:(args++[cv]).length=args.length+1:=by simp
      obtain⟨fx,hfx⟩:=Go.Ax.exq ((kindsR op.toNat []).length)
      obtain⟨df,hdf⟩:=Go.Ax.exq (decide (((args.length+1:Nat):Int)=(fx:Int)))
      have okU:=mXU.ok okX
      refine w_drawB [] [] (by kernel_rfl) (by kernel_rfl) rfl fun ops anc hA hG=>?_
      simp only[g6,nU',kU,hxz,qk_old,ruD,ruW,xF,ruU,Nat.reduceLT,Nat.reduceAdd,Nat.reduceEqDiff]
      refine genV_quiet (v:=.int .i64 (fx:Int)) [] rfl (by kernel_rfl) (by decide) (fun q hq=>by simp at hq) (fun G hG hg=>by simp only[ruU]; have:=fixed50_c G op.toNat hop28; rw[fixI,hfx]at this; exact this) (by simp[Meets]) ?_
      simp only[nU',hdf,ruD,ruW,ruU,Nat.reduceLT,Nat.reduceAdd,Nat.reduceEqDiff]
      cases df with
      |true =>
       have hfe:args.length+1=fx:=by have:=of_decide_eq_true hdf; omega
       simp only[g6,nU',kU,hxz,qk_old,ruW,xF,ruU,Nat.reduceLT,Nat.reduceAdd,Nat.reduceEqDiff]
       have hmany:=many_c (ext U []) op.toNat (.slice (some ⟨y+1,0,none⟩) (args.length+1) (args.length+1)) (args++[cv]) hop28 (VsAt.rd haU) (by rw[hal,hfx]; omega) (cntR_nn hsm')
       refine hmany.to ?_
       simp only[ruW,ruU,Nat.reduceLT]
       refine loopC_next ⟨(args++[cv],.slice (some ⟨y+1,0,none⟩) (args.length+1) (args.length+1),pe+2),by simp only; omega,mXU,kU,by rw[ext_nil]; omega,haU,fun k hk=>by simp only[idsV,zA5]at hk; omega,hsm',hrd,by simp only[hal]; omega,hge,?_,?_,?_,?_,?_,?_,?_,?_⟩
       ·rw[e1']; simp only[g0s,ruU,Nat.reduceEqDiff]
       all_goals simp only[g2,g3,g4,g5,g6,ruU,Nat.reduceEqDiff]
      |false =>
       have hfe:args.length+1≠(kindsR op.toNat []).length:=by have:=of_decide_eq_false hdf; rw[hfx]; omega
       have hks:=kinds_step (x:=cv) hop28 hfe
       rw[hK]at hks
       simp only[ruW]
       refine loopC_next ⟨(args++[cv],.slice (some ⟨y+1,0,none⟩) (args.length+1) (args.length+1),pe+2),by simp only; omega,mXU,kU,by rw[ext_nil]; omega,haU,fun k hk=>by simp only[idsV,zA5]at hk; omega,hsm',hrd,by simp only[hal]; omega,hge,?_,?_,?_,?_,?_,?_,?_,?_⟩
       ·rw[e1']; simp only[g0s,ruU,Nat.reduceEqDiff]
       all_goals simp only[g2,g3,g4,g5,g6,g7,hks,ruU,Nat.reduceEqDiff]
   ·clear h0 h2 h3 h4 h5 h6 h7 h8 E2 kx1 kf1 nx1 mX1 ok1 xb1 X1 hxx hb1
    rintro E X2 ⟨args,av,pe,m2,k2,nx2,ha,hai,hrd,hpe',hpos,g0,g2,g3,g4,g6,g8⟩
    obtain⟨y,hy⟩:=Go.Ax.exq X2.next
    rw[hy]at nx2
    have okX2:=m2.ok okX
    have hyb:X2.base<=y:=hy▸okX2
    have hxy:x+0<y:=by omega
    obtain⟨aa,ea⟩:=VsAt.len ha
    rw[decA_ok (by omega) hrd,<-hpe']at htot
    rw[ea]at k2
    have own2:=own.mod0 m2
    have hs1:=VsAt.sc ha
    rw[hy,ea]at hs1
    have mm2:=m.trans m2
    obtain⟨w,hw⟩:∃ w:Iv,w=(⟨(pos:Int),(op.toNat:Int),args⟩,.slice aa args.length args.length):=⟨_,rfl⟩
    have hwc:ivC w=[.int .i64 (pos:Int),.int .i64 (op.toNat:Int),.slice aa args.length args.length]:=by rw[hw]; rfl
    obtain⟨G,k1,vG,mG,nG⟩:=ins_app (X:=X2) (v:=v) (ls:=ls) (y:=w) (x:=y) own2.vs hy okX2 (by omega) (fun z hz=>VsAt.sc (own2.av z hz)) (by rw[hw,hy]; exact hs1) (by rw[hw]; rfl)
    rw[hwc]at k1
    have hvx:∀ n∈idsV v,b+1<=n/\n<x:=fun n hn=>⟨own.lo n hn,hx▸(own.vs.ne n hn).2⟩
    have mHG:Mod [] H G:=mm2.step mG hok fun n hn=>.inr (by have:=hvx n hn; omega)
    have kf2:bk X2 (b+0)=some ⟨26,false,[.int .i64 0,.int .i64 0]⟩:=(m2.bk (by omega) (by simp)).trans k
    have kfG:bk G (b+0)=some ⟨26,false,[.int .i64 0,.int .i64 0]⟩:=(mG.bk (by omega) (fun h=>by have:=hvx _ h; omega)).trans kf2
    have ownG:OwnI (b+1) G (.slice (some ⟨y+1,0,none⟩) (ls.length+1) (ls.length+1)) (ls++[w]):=own2.snoc mG vG (fun n hn=>by simp only[idsV,zA5]at hn; omega) (by omega) (by rw[hw,<-ea]; exact ha) fun n hn=>by
     rw[hw]at hn
     have h1:=hai n (by rw[ea]; exact hn)
     refine⟨by omega,fun h=>by have:=hvx n h; omega,fun z hz h=>?_⟩
     have:=((own.av z hz).ne n h).2
     omega
    rw[show X2=ext X2 [] from rfl]
    simp only[g4,g6,g8,hy,hxy,k2,hs1,k1,qk_old,ruW,Nat.reduceLeDiff,xF,ruU,Nat.reduceLT,Nat.reduceAdd,Nat.reduceEqDiff]
    refine loopC_next ⟨(pe,ls++[w],.slice (some ⟨y+1,0,none⟩) (ls.length+1) (ls.length+1)),by simp only; omega,mHG,by rw[ext_nil,nG]; omega,kfG,ownG,hpos,by simp only[zC3,zC8]; omega,?_,?_,?_,?_,?_,?_⟩
    ·simp only
     rw[<-htot,List.map_append,List.map_append,List.append_assoc,hw]
     rfl
    all_goals simp only[g0,g2,g3,ruU,Nat.reduceEqDiff]
end Go.Proofs.YtnigelgcjfhghaaGreatDoor
