/- Parts of the proof, one behind the other. -/
import Derived.Test.YtnigelgcjfhghaaGreatDoorM4
import Derived.Test.YtnigelgcjfhghaaGreatDoorM5
import Derived.Test.YtnigelgcjfhghaaGreatDoorM19
import Derived.Test.YtnigelgcjfhghaaGreatDoorM3
import Derived.Test.YtnigelgcjfhghaaGreatDoorM6
set_option linter.all false
set_option maxRecDepth 10000
set_option maxHeartbeats 16000000
open And renaming intro -> zA0
open Option renaming bind_eq_bind -> zA1, bind_eq_some_iff -> zA2, bind_some -> zA3, map_some -> zA5, map_eq_some_iff -> zB0
open Bool renaming and_eq_true -> zA4, false_eq_true -> zB8, and_self -> zC3
open List renaming getElem?_eq_getElem -> zA6, mem_singleton -> zA7, length_cons -> zA8, mem_cons -> zA9, getD_eq_getElem?_getD -> zB1, map_cons -> zB4, mem_cons_of_mem -> zB6, mem_cons_self -> zB7, mem_append -> zC0, all_eq_true -> zC2, mem_map -> zC4, length_append -> zC8, length_singleton -> zC9, nil_append -> zD0, length_nil -> zD1, length_map -> zD5, not_mem_nil -> zD6, getElem?_cons_succ -> zD7, flatMap_cons -> zD8, getElem?_eq_none -> zE1, take_of_length_le -> zE2, append_nil -> zE3, getElem?_cons_zero -> zE5, eq_nil_of_length_eq_zero -> zE6, length_take -> zE7
open Nat renaming le_refl -> zB2, le_of_ble_eq_true -> zB3, zero_le -> zB5, le_trans -> zB9, lt_succ_self -> zC1, zero_add -> zC5, lt_or_ge -> zC6, mul_one -> zC7, eq_of_beq_eq_true -> zD2, add_zero -> zD3, lt_of_lt_of_le -> zD4, ble_eq -> zD9
open Int renaming cast_ofNat_Int -> zE0, toNat_natCast -> zE4

namespace Go.Proofs.YtnigelgcjfhghaaGreatDoor
open Go.Ax
set_option maxRecDepth 100000
theorem fl26b:flat Tryz.prog 10000 26=some [24,3]:=by kernel_rfl
theorem ag26b:aggT Tryz.prog 26=some true:=by kernel_rfl
theorem gd26b:Tryz.prog.eqGuardType Tryz.prog.depth 26=false:=by kernel_rfl
theorem ff26b (e a:Int):fits Tryz.prog [24,3] [.int .i64 e,.int .i64 a]=true:=by kernel_rfl
theorem eq26b (e a:Int):eqOp .eql (eqL [.int .i64 e,.int .i64 a] [.int .i64 e,.int .i64 a])=some (.bool true):=by
 simp[eqL,eqOp,eq1]
set_option maxRecDepth 100000
def hsR:Except (Int × Int) Ks->List Int
 |.error _=>[]
 |.ok ks=>hghR ks
def erR:Except (Int × Int) Ks->Int × Int
 |.error f=>f
 |.ok _=>(0,0)
theorem hgt_norm {r:Except (Int × Int) Ks} {out:Out} {X:AHeap} (h:HgtOut r out X):∃ w,out=.ok (.tuple #[w,fltV (erR r).1 (erR r).2])/\ArgA X w (hsR r):=by
 cases r with
 |error f=>exact⟨_,h,VsAt.nil⟩
 |ok ks =>
  obtain⟨w,h1,h2⟩:=h
  exact⟨w,h1,h2⟩
set_option maxRecDepth 100000
theorem ver_of_ok {R:Except (Int × Int) Ks} (hne:∀ f,R=.error f->f.1≠0) (h:(erR R).1=0):∃ ks,R=.ok ks:=by
 cases R with
 |error f=>exact absurd h (hne f rfl)
 |ok ks=>exact⟨ks,rfl⟩
theorem topH_snoc {hs:List Int} {i:Nat} {x:Int} (h:hs[i]?=some x):topH (hs.take (i+1))=max (topH (hs.take i)) x:=by
 rw[topH,List.take_add_one,h,List.foldl_append]
 rfl
theorem arg_ne {X:AHeap} {w:Value} {args:List Int} {n:Nat} {e:TypeId} {o:Bool} {l:List Value} (h:ArgA X w args) (hk:bk X n=some ⟨e,o,l⟩) (he:e≠3):∀ k∈idsV w,k≠n:=by
 obtain⟨_,_,⟨_,rfl⟩|⟨_,m,rfl,hm,_⟩⟩:=h
 ·intro k hk; simp[idsV]at hk
 ·intro k hkk e1
  simp only[idsV,zA7]at hkk
  subst hkk
  subst e1
  rw[hk]at hm
  simp only[Option.some.injEq,Bl.mk.injEq]at hm
  exact he hm.1
theorem arg_mod {X G:AHeap} {w:Value} {args:List Int} {n:Nat} (h:ArgA X w args) (hne:∀ k∈idsV w,k≠n) (m:Mod [n] X G):ArgA G w args:=VsAt.of h m.next fun k hk=>m.get k (VsAt.ne h k hk).2 (by rw[zA7]; exact hne k hk)
theorem arg_mod0 {X G:AHeap} {w:Value} {args:List Int} (h:ArgA X w args) (m:Mod [] X G):ArgA G w args:=VsAt.of h m.next fun k hk=>m.get k (VsAt.ne h k hk).2 (by simp)
theorem hgt_ok {ks:Ks} {out:Out} {X:AHeap} (h:HgtOut (.ok ks) out X):∃ w,out=.ok (.tuple #[w,fltV 0 0])/\ArgA X w (hghR ks):=h
theorem law10_c (H:AHeap) (least most depth more:Int) (u p:Value) (l:List UInt8) (w:List (Int × Int)) (hu:RdAt H 1 u (bv l) l.length) (hp:RdAt H 2 p (wdC w) w.length) (su:scb H.next u=true) (sp:scb H.next p=true) (hok:H.base<=H.next) :
  CallA Tryz.prog 10 [cdV least most depth u p,.int .i64 more] H (fun out X=>out=.ok (.bool true)/\Mod [] H X):=by
 obtain⟨b,hb⟩:=Go.Ax.exq H.next
 have hbase:H.base<=b:=hb▸hok
 obtain⟨ua,uc,eu⟩:=hu.sl
 obtain⟨pa,pc,ep⟩:=hp.sl
 have su0:=su
 have sp0:=sp
 rw[hb,eu]at su
 rw[hb,ep]at sp
 refine callE_fn mixed Tryz.func10 rfl Tryz.ntmps10 (zB3 rfl) ?_
 unfold cdV
 rw[eu,ep]
 simp only[hb,su,sp,ruW,xF,ruU,entryE,Nat.reduceLT,Nat.reduceAdd,Nat.reduceEqDiff]
 refine (codeKnown_c (ext H _)).to ?_
 simp only[hb,hbase,ruW,putL,Nat.reduceLeDiff,xF,ruU,Nat.reduceLT,Nat.reduceAdd,Nat.reduceEqDiff]
 generalize hX:ext H _=X
 have mX:Mod [] H X:=hX▸Mod.ext hok
 have nX:X.next=b+1:=by rw[<-hX,ext_next,hb]; rfl
 have k0:bk X (b+0)=some ⟨33,false,[.int .i64 least,.int .i64 most,.int .i64 1000,.slice ua l.length uc,.slice pa w.length pc]⟩:=by rw[<-hX,bk_at hb (by simp)]; rfl
 clear hX
 have okX:=mX.ok hok
 have huX:RdAt X 1 (.slice ua l.length uc) (bv l) l.length:=eu▸hu.mod0 mX
 have suX:scb X.next (.slice ua l.length uc)=true:=by rw[nX]; exact scb_mono (by omega) _ su
 have spX:scb X.next (.slice pa w.length pc)=true:=by rw[nX]; exact scb_mono (by omega) _ sp
 refine (heights16_c X least most 1000 _ pa w.length pc l huX suX spX okX).mono ?_
 rintro out Y ⟨mY,ho⟩
 obtain⟨h1,rfl,a1⟩:=hgt_norm ho
 clear ho
 obtain⟨R,hR⟩:=Go.Ax.exq (verA least most 1000 w.length l)
 obtain⟨hs,hhs⟩:∃ q,hsR R=q:=⟨_,rfl⟩
 obtain⟨⟨e,a⟩,hea⟩:∃ q,erR R=q:=⟨_,rfl⟩
 rw[hR,hhs]at a1
 rw[hR,hea]
 obtain⟨x1,ex1⟩:=a1.len
 obtain⟨y,hy⟩:∃ n,Y.next=n:=⟨_,rfl⟩
 have okY:=mY.ok okX
 have yb:Y.base<=y:=hy▸okY
 have ly:b+1<=y:=by have:=mY.next; omega
 have k0Y:=(mY.bk (by omega) (by simp)).trans k0
 have jb:b+0<y:=by omega
 have jb1:b+0<y+1:=by omega
 obtain⟨c1,hc1⟩:∃ q,decide ((400:Int)<(l.length:Int))=q:=⟨_,rfl⟩
 obtain⟨c2,hc2⟩:∃ q,decide ((300:Int)<(w.length:Int))=q:=⟨_,rfl⟩
 obtain⟨c3,hc3⟩:∃ q,decide (¬e=0)=q:=⟨_,rfl⟩
 rw[show Y=ext Y [] from rfl]
 rw[ex1]
 by_cases hbad:c1=true\/c2=true\/c3=true
 ·have fin:∀ L,Mod [] H (ext Y L):=fun L=>(mX.trans mY).trans (Mod.ext okY)
  have hcs:c1=true\/c1=false/\c2=true\/c1=false/\c2=false/\c3=true:=by
   cases c1<;>cases c2<;>cases c3<;>simp at hbad ⊢
  rcases hcs with rfl|⟨rfl,rfl⟩|⟨rfl,rfl,rfl⟩
  ·simp only[fltV,hy,yb,jb,k0Y,hc1,qk_old,Tryz.results10,ruW,putL,Nat.reduceLeDiff,xF,ruU,Nat.reduceLT,Nat.reduceAdd,Nat.reduceEqDiff]
   exact⟨trivial,fin _⟩
  ·simp only[fltV,hy,yb,jb,k0Y,hc1,hc2,qk_old,Tryz.results10,ruW,putL,Nat.reduceLeDiff,xF,ruU,Nat.reduceLT,Nat.reduceAdd,Nat.reduceEqDiff]
   exact⟨trivial,fin _⟩
  ·simp only[fltV,hy,yb,jb,k0Y,hc1,hc2,hc3,qk_old,Tryz.results10,ruW,putL,Nat.reduceLeDiff,xF,ruU,Nat.reduceLT,Nat.reduceAdd,Nat.reduceEqDiff]
   exact⟨trivial,fin _⟩
 obtain⟨rfl,rfl,rfl⟩:c1=false/\c2=false/\c3=false:=by
  cases c1<;>cases c2<;>cases c3<;>simp at hbad ⊢
 have n1:=of_decide_eq_false hc1
 have n2:=of_decide_eq_false hc2
 have n3:=of_decide_eq_false hc3
 have he0:e=0:=by omega
 have hver:=fun d=>verA_eq (least:=least) (most:=most) (depth:=d) (cn:=w.length) (bs:=l) (by omega)
 obtain⟨ks,hks⟩:∃ ks,R=.ok ks:=ver_of_ok (fun f hf=>ver_ne (show verA least most 1000 w.length l=.error f by rw[hR,hf])) (by rw[hea]; exact he0)
 have ha0:a=0:=by
  have:erR R=(0,0):=by rw[hks]; rfl
  rw[this]at hea
  simp only[Prod.mk.injEq]at hea
  exact hea.2.symm
 have hhk:hs=hghR ks:=by rw[<-hhs,hks]; rfl
 have hok1:verR least most 1000 w.length l=.ok ks:=by rw[<-hver,hR,hks]
 obtain⟨tb,tle,terr⟩:=deeper_law hok1
 have tnn:=top_nn (hghR ks)
 rw[<-hhk]at tb tle terr tnn
 have hsl:hs.length<=400:=by
  rw[hhk,hghR,zD5]
  have:=(ver_len hok1).2
  omega
 have hsr:∀ x∈hs,-1<=x/\x<=1000:=fun x hx=>by
  have h2:=(fold_le hs 0).2 x hx
  refine⟨?_,Int.le_trans h2 tb⟩
  rw[hhk,hghR,zC4]at hx
  obtain⟨o,ho,rfl⟩:=hx
  cases o with
  |none=>decide
  |some s =>
   obtain⟨j,hj,hjj⟩:=List.getElem_of_mem ho
   have:=(ver_bd hok1 j s (by rw[zA6 hj,hjj])).1
   show -1<=s.h
   omega
 simp only[fltV,hy,yb,jb,k0Y,hc1,hc2,hc3,qk_old,ruW,putL,Nat.reduceLeDiff,xF,ruU,Nat.reduceLT,Nat.reduceAdd,Nat.reduceEqDiff]
 generalize hZ:ext Y _=Z
 have mZ:Mod [] Y Z:=hZ▸Mod.ext okY
 have nZ:Z.next=y+1:=by rw[<-hZ,ext_next,hy]; rfl
 clear hZ
 have okZ:=mZ.ok okY
 have k0Z:=(mZ.bk (by omega) (by simp)).trans k0Y
 have a1Z:RdAt Z 1 h1 (iv hs) hs.length:=(VsAt.rd a1).mod0 mZ
 rw[show Z=ext Z [] from rfl]
 refine w_env fun E hE=>?_
 have g1:E 1=.int .i64 more:=by rw[hE]; rfl
 have g2:E 2=.pointer (some ⟨b+0,0,none⟩):=by rw[hE]; rfl
 have g5:E 5=.bool true:=by rw[hE]; rfl
 have g6:E 6=.slice x1 hs.length hs.length:=by rw[hE]; rfl
 have g8:E 8=.int .i64 (topH (hs.take 0)):=by rw[hE]; rfl
 have g9:E 9=.int .i64 ((0:Nat):Int):=by rw[hE]; rfl
 clear hE
 refine w_loop (fun (j:Nat) E' X'=>X'=ext Z []/\j<=hs.length/\E' 1=.int .i64 more/\E' 2=.pointer (some ⟨b+0,0,none⟩)/\E' 5=.bool true/\E' 6=.slice x1 hs.length hs.length/\E' 8=.int .i64 (topH (hs.take j))/\E' 9=.int .i64 (j:Int)) (fun j=>hs.length-j) 0 ⟨rfl,zB5 _,g1,g2,g5,g6,g8,g9⟩ ?_
 clear g1 g2 g5 g6 g8 g9 E
 rintro j E X' ⟨hX',hj,g1,g2,g5,g6,g8,g9⟩
 rw[hX']
 by_cases hjl:j<hs.length
 ·have hd:decide ((j:Int)<(hs.length:Int))=true:=decide_eq_true (by omega)
  obtain⟨n,off,s,c,ee,o,M,e1,m1,r1,l1⟩:=a1Z.one hjl
  have e1':=ex1.symm.trans e1
  simp only[Value.slice.injEq]at e1'
  obtain⟨ea,-,ec⟩:=e1'
  rw[ea]at g6
  have i1:=ia_of (P:=Tryz.prog) (k:=.i64) (i:=j) (n:=n) (off:=off) (len:=hs.length) (cap:=hs.length) (s:=s) u35 s3 hjl
  rw[zC7]at i1
  have hg:hs[j]?=some hs[j]:=zA6 hjl
  have htp:=topH_snoc hg
  obtain⟨xa,hxa⟩:=Go.Ax.exq (hs[j])
  rw[iv_get,hg,zA5,hxa]at l1
  rw[hxa]at htp
  rw[nZ]at m1
  have hw:IntKind.i64.wrap ((j:Int)+1)=((j+1:Nat):Int):=wrap_succ (by omega)
  simp only[g6,g8,g9,nZ,hd,i1,m1,r1,l1,hw,qk_old,ruW,xF,ruU,Nat.reduceLT,Nat.reduceEqDiff]
  refine loopC_next ⟨j+1,by omega,rfl,by omega,?_,?_,?_,?_,?_,?_⟩
  ·exact g1
  ·exact g2
  ·exact g5
  ·rw[ea]; simp only[g6,ruU,Nat.reduceEqDiff]
  ·rw[htp]; simp only[ruU,Nat.reduceEqDiff]
  ·rfl
 have hje:j=hs.length:=by omega
 have hd:decide ((j:Int)<(hs.length:Int))=false:=decide_eq_false (by omega)
 rw[zE2 (by omega)]at g8
 obtain⟨r,r0,r1,hpk⟩:=pick_c more 20 (by decide) (by decide)
 obtain⟨T,hT⟩:=Go.Ax.exq (topH hs)
 rw[hT]at g8 tb tle terr tnn
 simp only[g1,g6,g8,g9,hd,ruW,xF,ruU,Nat.reduceLT,Nat.reduceEqDiff]
 refine (hpk (ext Z [])).to ?_
 have hw1:IntKind.i64.wrap (T+r)=T+r:=wrap_sm (by omega) (by omega)
 have i0:b+0<y+1:=by omega
 simp only[g2,nZ,hw1,i0,k0Z,qk_old,ruW,putL,Nat.reduceLeDiff,xF,ruU,Nat.reduceLT,Nat.reduceAdd,Nat.reduceEqDiff]
 obtain⟨D1,hD1⟩:=Go.Ax.exq (min (T+r) 1000)
 rw[hD1]
 have tD1:T<=D1/\D1<=1000:=by omega
 generalize hA:ext (uw Z _ _ _) []=A
 have mA:Mod [b+0] Z A:=by rw[<-hA,ext_nil]; exact Mod.uw (by simp)
 have nA:A.next=y+1:=by rw[<-hA,ext_nil,uw_next,nZ]
 have kA:bk A (b+0)=some ⟨33,false,[.int .i64 least,.int .i64 most,.int .i64 D1,.slice ua l.length uc,.slice pa w.length pc]⟩:=by rw[<-hA,ext_nil,bk_uw_eq,k0Z]; rfl
 clear hA
 have mHA:Mod [] H A:=((mX.trans mY).trans mZ).step mA hok fun n hn=>.inr (by simp only[zA7]at hn; omega)
 have okA:=mHA.ok hok
 have hn1:=arg_ne a1 k0Y (by decide)
 have a1A:=arg_mod (arg_mod0 a1 mZ) hn1 mA
 have suA:scb A.next (.slice ua l.length uc)=true:=scb_mono (by omega) _ su
 have spA:scb A.next (.slice pa w.length pc)=true:=scb_mono (by omega) _ sp
 refine (heights16_c A least most D1 _ pa w.length pc l (eu▸hu.mod0 mHA) suA spA okA).mono ?_
 rintro out B ⟨mB,ho⟩
 rw[hver,tle D1 tD1.1 tD1.2]at ho
 obtain⟨h2,rfl,a2⟩:=hgt_ok ho
 clear ho
 rw[<-hhk]at a2
 obtain⟨x2,ex2⟩:=a2.len
 obtain⟨n,hn⟩:=Go.Ax.exq B.next
 have okB:=mB.ok okA
 have bb:B.base<=n:=hn▸okB
 have lB:y+1<=n:=by have:=mB.next; omega
 have kB:=(mB.bk (by omega) (by simp)).trans kA
 have i1:b+0<n:=by omega
 have suB:=scb_mono (show b<=n+1 by omega) _ su
 have spB:=scb_mono (show b<=n+1 by omega) _ sp
 rw[show B=ext B [] from rfl]
 rw[ex2]
 simp only[fltV,g2,g8,hn,bb,i1,kB,qk_old,ruW,putL,Nat.reduceLeDiff,xF,ruU,Nat.reduceLT,Nat.reduceAdd,Nat.reduceEqDiff]
 generalize hC:ext (uw B _ _ _) _=C
 have mUB:Mod [b+0] B (uw B (b+0) 2 [.int .i64 T]):=Mod.uw (by simp)
 have mHU:Mod [] H (uw B (b+0) 2 [.int .i64 T]):=(mHA.trans mB).step mUB hok fun q hq=>.inr (by simp only[zA7]at hq; omega)
 have nU:(uw B (b+0) 2 [.int .i64 T]).next=n:=by rw[uw_next,hn]
 have mUC:Mod [] (uw B (b+0) 2 [.int .i64 T]) C:=hC▸Mod.ext (mHU.ok hok)
 have nC:C.next=n+1:=by rw[<-hC,ext_next,nU]; rfl
 have kC:bk C (b+0)=some ⟨33,false,[.int .i64 least,.int .i64 most,.int .i64 T,.slice ua l.length uc,.slice pa w.length pc]⟩:=(mUC.bk (by omega) (by simp)).trans (by rw[bk_uw_eq,kB]; rfl)
 have k1C:bk C (n+0)=some ⟨26,false,[.int .i64 0,.int .i64 0]⟩:=by rw[<-hC,bk_at nU (by simp)]; rfl
 clear hC
 have mHC:=mHU.trans mUC
 have okC:=mHC.ok hok
 have hn2:=arg_ne a2 kB (by decide)
 have a2C:=arg_mod0 (arg_mod a2 hn2 mUB) mUC
 have a1C:=arg_mod0 (arg_mod (arg_mod0 a1A mB) hn1 mUB) mUC
 refine (heights16_c C least most T _ pa w.length pc l (eu▸hu.mod0 mHC) (by rw[nC]; exact suB) (by rw[nC]; exact spB) okC).mono ?_
 rintro out F ⟨mF,ho⟩
 rw[hver,tle T (Int.le_refl _) tb]at ho
 obtain⟨h3,rfl,a3⟩:=hgt_ok ho
 clear ho
 rw[<-hhk]at a3
 obtain⟨x3,ex3⟩:=a3.len
 obtain⟨f,hf⟩:∃ n,F.next=n:=⟨_,rfl⟩
 have okF:=mF.ok okC
 have fb:F.base<=f:=hf▸okF
 have lF:n+1<=f:=by have:=mF.next; omega
 have kF:=(mF.bk (by omega) (by simp)).trans kC
 have k1F:=(mF.bk (by omega) (by simp)).trans k1C
 have j1:b+0<f:=by omega
 have j3:n+0<f:=by omega
 have hw2:IntKind.i64.wrap (T-1)=T-1:=wrap_sm (by omega) (by omega)
 rw[show F=ext F [] from rfl]
 rw[ex3]
 simp only[fltV,g2,g8,hf,fb,j1,kF,hw2,qk_old,ruW,putL,Nat.reduceLeDiff,xF,ruU,Nat.reduceLT,Nat.reduceAdd,Nat.reduceEqDiff]
 obtain⟨pe,hpe⟩:=terr
 obtain⟨e4,he4⟩:∃ e4:Int,(if T=0 then (3:Int) else 12)=e4:=⟨_,rfl⟩
 rw[he4]at hpe
 have mUF:Mod [b+0] F (uw F (b+0) 2 [.int .i64 (T-1)]):=Mod.uw (by simp)
 have mHV:Mod [] H (uw F (b+0) 2 [.int .i64 (T-1)]):=(mHC.trans mF).step mUF hok fun q hq=>.inr (by simp only[zA7]at hq; omega)
 obtain⟨V,hV⟩:=Go.Ax.exq (uw F (b+0) 2 [.int .i64 (T-1)])
 rw[hV]at mUF mHV ⊢
 have nV:V.next=f:=by rw[<-hV,uw_next,hf]
 have okV:=mHV.ok hok
 have vb:V.base<=f:=nV▸okV
 have kV:bk V (b+0)=some ⟨33,false,[.int .i64 least,.int .i64 most,.int .i64 (T-1),.slice ua l.length uc,.slice pa w.length pc]⟩:=by rw[<-hV,bk_uw_eq,kF]; rfl
 have k1V:bk V (n+0)=some ⟨26,false,[.int .i64 0,.int .i64 0]⟩:=(mUF.bk (by omega) (by simp only[zA7]; omega)).trans k1F
 clear hV
 have hck:=check19_c (ext V [⟨26,false,[.int .i64 0,.int .i64 0]⟩]) least most (T-1) (.slice ua l.length uc) pa w.length pc l (eu▸hu.mod0 (mHV.trans (Mod.ext okV)))
 rw[hver,hpe]at hck
 refine hck.to ?_
 have hT:∀ i:Decidable True,@decide True i=true:=fun i=>by simp
 have hF:∀ i:Decidable False,@decide False i=false:=fun i=>by simp
 obtain⟨c,hc⟩:=Go.Ax.exq (decide (T=0))
 have i5:b+0<f+2:=by omega
 have i6:n+0<f+2:=by omega
 simp only[errV,fltV,g8,nV,vb,hc,ruW,putL,Nat.reduceLeDiff,xF,ruU,Nat.reduceLT,Nat.reduceAdd,Nat.reduceEqDiff]
 have hn3:=arg_ne a3 kF (by decide)
 have a3V:=fun L=>(arg_mod0 (arg_mod a3 hn3 mUF) (Mod.ext (L:=L) okV)).rd
 have a2V:=fun L=>(arg_mod0 (arg_mod (arg_mod0 a2C mF) hn2 mUF) (Mod.ext (L:=L) okV)).rd
 have a1V:=fun L=>(arg_mod0 (arg_mod (arg_mod0 a1C mF) hn1 mUF) (Mod.ext (L:=L) okV)).rd
 have hcase:c=true/\e4=3\/c=false/\e4=12:=by
  cases c with
  |true=>rw[if_pos (of_decide_eq_true hc)]at he4; exact .inl ⟨rfl,he4.symm⟩
  |false=>rw[if_neg (of_decide_eq_false hc)]at he4; exact .inr ⟨rfl,he4.symm⟩
 rw[ex1]at a1V
 rw[ex2]at a2V
 rw[ex3]at a3V
 rcases hcase with⟨rfl,rfl⟩|⟨rfl,rfl⟩
 all_goals
  simp only[g5,nV,j3,k1V,qk_old,ruW,Nat.reduceLeDiff,xF,ruU,Nat.reduceLT,Nat.reduceAdd,Nat.reduceEqDiff]
  refine w_eqS fl26b ag26b gd26b (eq26b 0 0) rfl rfl (by decide) rfl rfl (ff26b _ _) (ff26b _ _) ?_
  simp only[nV,ruW,Nat.reduceLeDiff,xF,ruU,Nat.reduceLT,Nat.reduceAdd,Nat.reduceEqDiff]
  refine w_eqS fl26b ag26b gd26b (eq26b 0 0) rfl rfl (by decide) rfl rfl (ff26b _ _) (ff26b _ _) ?_
  simp only[g6,ruW,xF,ruU,Nat.reduceLT,Nat.reduceEqDiff]
  have q1:=fun L=>same18_c (ext V L) _ _ hs hs (a2V L) (a1V L) (by omega)
  have q2:=fun L=>same18_c (ext V L) _ _ hs hs (a3V L) (a1V L) (by omega)
  rw[show decide (hs=hs)=true from decide_eq_true rfl]at q1 q2
  refine (q1 _).to ?_
  simp only[g6,ruW,xF,ruU,Nat.reduceLT,Nat.reduceEqDiff]
  refine (q2 _).to ?_
  simp only[nV,hT,Tryz.results10,ruW,xF,ruU,Nat.reduceLT,Nat.reduceAdd,Nat.reduceEqDiff]
  exact⟨trivial,mHV.trans (Mod.ext okV)⟩
end Go.Proofs.YtnigelgcjfhghaaGreatDoor
