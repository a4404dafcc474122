/- Parts of the proof, one behind the other. -/
import Derived.Test.YtnigelgcjfhghaaGreatDoorM5
import Derived.Test.YtnigelgcjfhghaaGreatDoorM4
import Derived.Test.YtnigelgcjfhghaaGreatDoorM20
import Derived.Test.YtnigelgcjfhghaaGreatDoorM3
import Derived.Test.YtnigelgcjfhghaaGreatDoorM7
set_option linter.all false
set_option maxRecDepth 10000
set_option maxHeartbeats 16000000
open And renaming intro -> zA0
open Option renaming bind_eq_bind -> zA1, bind_eq_some_iff -> zA2, bind_some -> zA3, map_some -> zA6, map_eq_some_iff -> zB3
open List renaming getElem?_eq_getElem -> zA4, mem_singleton -> zA5, mem_cons -> zA8, getD_eq_getElem?_getD -> zA9, length_cons -> zB0, mem_cons_self -> zB6, map_cons -> zB7, mem_cons_of_mem -> zB8, mem_append -> zB9, not_mem_nil -> zC0, length_append -> zC3, nil_append -> zC5, length_nil -> zC7, length_singleton -> zC8, length_map -> zC9, all_eq_true -> zD2, flatMap_cons -> zD8, append_nil -> zD9, take_of_length_le -> zE0, getElem?_cons_succ -> zE2, mem_map -> zE3, eq_nil_of_length_eq_zero -> zE5, getElem?_map -> zE6, getElem?_cons_zero -> zE7, getElem?_eq_none -> zE8, drop_zero -> zF0, mem_of_getElem? -> zF1, cons_append -> zF2, length_take -> zF3, getElem?_eq_some_iff -> zF4, map_nil -> zF6, drop_eq_getElem_cons -> zF7, length_drop -> zF8, mem_append_right -> zF9
open Bool renaming and_eq_true -> zA7, false_eq_true -> zC6, and_self -> zD3, not_true -> zF5
open Nat renaming le_refl -> zB1, le_of_ble_eq_true -> zB2, zero_le -> zB5, zero_add -> zC1, le_trans -> zC2, mul_one -> zC4, le_of_eq -> zD0, lt_succ_self -> zD1, add_zero -> zD4, ble_eq -> zD5, lt_or_ge -> zD6, lt_of_lt_of_le -> zE1, eq_of_beq_eq_true -> zE4, zero_mul -> zE9
open Int renaming cast_ofNat_Int -> zB4, toNat_natCast -> zD7

namespace Go.Proofs.YtnigelgcjfhghaaGreatDoor
open Go.Ax
set_option maxRecDepth 100000
theorem fl26b:flat Tryz.prog 10000 26=some [24,3]:=by kernel_rfl
theorem ag26b:aggT Tryz.prog 26=some true:=by kernel_rfl
theorem gd26b:Tryz.prog.eqGuardType Tryz.prog.depth 26=false:=by kernel_rfl
theorem ff26b (e a:Int):fits Tryz.prog [24,3] [.int .i64 e,.int .i64 a]=true:=by kernel_rfl
theorem eq26b (e a:Int):eqOp .eql (eqL [.int .i64 e,.int .i64 a] [.int .i64 e,.int .i64 a])=some (.bool true):=by
 simp[eqL,eqOp,eq1]
set_option maxRecDepth 100000
def hsR:Except (Int × Int) Ks->List Int
 |.error _=>[]
 |.ok ks=>hghR ks
def erR:Except (Int × Int) Ks->Int × Int
 |.error f=>f
 |.ok _=>(0,0)
theorem hgt_norm {r:Except (Int × Int) Ks} {out:Out} {X:AHeap} (h:HgtOut r out X):∃ w,out=.ok (.tuple #[w,fltV (erR r).1 (erR r).2])/\ArgA X w (hsR r):=by
 cases r with
 |error f=>exact⟨_,h,VsAt.nil⟩
 |ok ks =>
  obtain⟨w,h1,h2⟩:=h
  exact⟨w,h1,h2⟩
theorem err_norm (r:Except (Int × Int) Ks):errV r=fltV (erR r).1 (erR r).2:=by cases r<;>rfl
theorem law4_c (H:AHeap) (least most depth:Int) (u p:Value) (l:List UInt8) (w:List (Int × Int)) (hu:RdAt H 1 u (bv l) l.length) (hp:RdAt H 2 p (wdC w) w.length) (su:scb H.next u=true) (sp:scb H.next p=true) (hok:H.base<=H.next) :
  CallA Tryz.prog 4 [cdV least most depth u p] H (fun out X=>out=.ok (.bool true)/\Mod [] H X):=by
 obtain⟨b,hb⟩:=Go.Ax.exq H.next
 have hbase:H.base<=b:=hb▸hok
 obtain⟨ua,uc,eu⟩:=hu.sl
 obtain⟨pa,pc,ep⟩:=hp.sl
 have su0:=su
 have sp0:=sp
 rw[hb,eu]at su
 rw[hb,ep]at sp
 refine callE_fn mixed Tryz.func4 rfl Tryz.ntmps4 (zB2 rfl) ?_
 unfold cdV
 rw[eu,ep]
 obtain⟨c1,hc1⟩:∃ q,decide ((400:Int)<(l.length:Int))=q:=⟨_,rfl⟩
 obtain⟨c2,hc2⟩:∃ q,decide ((300:Int)<(w.length:Int))=q:=⟨_,rfl⟩
 cases c1 with
 |true =>
  simp only[hb,su,sp,hc1,ruW,xF,ruU,entryE,Nat.reduceLT,Nat.reduceAdd,Nat.reduceEqDiff]
  refine (awake_c _).to ?_
  simp only[Tryz.results4,ruW,ruU,Nat.reduceLT]
  exact⟨trivial,Mod.ext hok⟩
 |false =>
 cases c2 with
 |true =>
  simp only[hb,su,sp,hc1,hc2,ruW,xF,ruU,entryE,Nat.reduceLT,Nat.reduceAdd,Nat.reduceEqDiff]
  refine (awake_c _).to ?_
  simp only[Tryz.results4,ruW,ruU,Nat.reduceLT]
  exact⟨trivial,Mod.ext hok⟩
 |false =>
 have n1:=of_decide_eq_false hc1
 have n2:=of_decide_eq_false hc2
 simp only[hb,su,sp,hc1,hc2,ruW,Nat.reduceLeDiff,xF,ruU,entryE,Nat.reduceLT,Nat.reduceAdd,Nat.reduceEqDiff]
 generalize hX:ext H _=X
 have mX:Mod [] H X:=hX▸Mod.ext hok
 have nX:X.next=b+1:=by rw[<-hX,ext_next,hb]; rfl
 have k0:bk X (b+0)=some ⟨33,false,[.int .i64 least,.int .i64 most,.int .i64 depth,.slice ua l.length uc,.slice pa w.length pc]⟩:=by rw[<-hX,bk_at hb (by simp)]; rfl
 clear hX
 have okX:=mX.ok hok
 have huX:RdAt X 1 (.slice ua l.length uc) (bv l) l.length:=eu▸hu.mod0 mX
 have hpX:RdAt X 2 (.slice pa w.length pc) (wdC w) w.length:=ep▸hp.mod0 mX
 have suX:scb X.next (.slice ua l.length uc)=true:=by rw[nX]; exact scb_mono (by omega) _ su
 have spX:scb X.next (.slice pa w.length pc)=true:=by rw[nX]; exact scb_mono (by omega) _ sp
 refine (copy15_c X least most depth _ _ l w huX hpX (by omega) (by omega) suX spX okX).mono ?_
 rintro _ Y ⟨u',p',rfl,hu',hp',su',sp',mY⟩
 obtain⟨va,vc,ev⟩:=hu'.sl
 obtain⟨qa,qc,eq⟩:=hp'.sl
 obtain⟨y,hy⟩:=Go.Ax.exq Y.next
 have okY:=mY.ok okX
 have yb:Y.base<=y:=hy▸okY
 have ly:b+1<=y:=by have:=mY.next; omega
 rw[hy,ev]at su'
 rw[hy,eq]at sp'
 rw[ev]at hu'
 rw[eq]at hp'
 have k0Y:=(mY.bk (by omega) (by simp)).trans k0
 have su1:=scb_mono (show y<=y+1 by omega) _ su'
 have sp1:=scb_mono (show y<=y+1 by omega) _ sp'
 rw[show Y=ext Y [] from rfl]
 unfold cdV
 rw[ev,eq]
 simp only[hy,yb,su1,sp1,ruW,putL,Nat.reduceLeDiff,xF,ruU,Nat.reduceLT,Nat.reduceAdd,Nat.reduceEqDiff]
 generalize hZ:ext Y _=Z
 have mZ:Mod [] Y Z:=hZ▸Mod.ext okY
 have nZ:Z.next=y+1:=by rw[<-hZ,ext_next,hy]; rfl
 have k3:bk Z (y+0)=some ⟨33,false,[.int .i64 least,.int .i64 most,.int .i64 depth,.slice va l.length vc,.slice qa w.length qc]⟩:=by rw[<-hZ,bk_at hy (by simp)]; rfl
 clear hZ
 have okZ:=mZ.ok okY
 have k0Z:=(mZ.bk (by omega) (by simp)).trans k0Y
 have hver:=verA_eq (least:=least) (most:=most) (depth:=depth) (cn:=w.length) (bs:=l) (by omega)
 refine (heights16_c Z least most depth _ qa w.length qc l (hu'.mod0 mZ) (by rw[nZ]; exact su1) (by rw[nZ]; exact sp1) okZ).mono ?_
 rintro out A ⟨mA,ho⟩
 obtain⟨h1,rfl,a1⟩:=hgt_norm ho
 clear ho
 rw[hver]at a1 ⊢
 obtain⟨R,hR⟩:=Go.Ax.exq (verR least most depth w.length l)
 obtain⟨hs,hhs⟩:∃ q,hsR R=q:=⟨_,rfl⟩
 obtain⟨⟨e,a⟩,hea⟩:∃ q,erR R=q:=⟨_,rfl⟩
 rw[hR,hhs]at a1
 rw[hR,hea]
 obtain⟨x1,ex1⟩:=a1.len
 obtain⟨n,hn⟩:=Go.Ax.exq A.next
 have okA:=mA.ok okZ
 have ab:A.base<=n:=hn▸okA
 have ln:y+1<=n:=by have:=mA.next; omega
 have k0A:=(mA.bk (by omega) (by simp)).trans k0Z
 have k3A:=(mA.bk (by omega) (by simp)).trans k3
 have jb2:b+0<n:=by omega
 rw[show A=ext A [] from rfl]
 rw[ex1]
 simp only[fltV,hn,ab,jb2,k0A,qk_old,ruW,putL,Nat.reduceLeDiff,xF,ruU,Nat.reduceLT,Nat.reduceAdd,Nat.reduceEqDiff]
 generalize hB:ext A _=B
 have mB:Mod [] A B:=hB▸Mod.ext okA
 have nB:B.next=n+1:=by rw[<-hB,ext_next,hn]; rfl
 have k5:bk B (n+0)=some ⟨26,false,[.int .i64 e,.int .i64 a]⟩:=by rw[<-hB,bk_at hn (by simp)]; rfl
 clear hB
 have okB:=mB.ok okA
 have mXB:=((mY.trans mZ).trans mA).trans mB
 have k0B:=(mB.bk (by omega) (by simp)).trans k0A
 have k3B:=(mB.bk (by omega) (by simp)).trans k3A
 refine (heights17_c B least most depth _ pa w.length pc l (huX.mod0 mXB) (by omega) (scb_mono mXB.next _ suX) (scb_mono mXB.next _ spX) okB).mono ?_
 rintro out C ⟨mC,ho⟩
 obtain⟨h2,rfl,a2⟩:=hgt_norm ho
 clear ho
 rw[hR,hhs]at a2
 rw[hR,hea]
 obtain⟨x2,ex2⟩:=a2.len
 obtain⟨d,hd⟩:∃ n,C.next=n:=⟨_,rfl⟩
 have okC:=mC.ok okB
 have cb:C.base<=d:=hd▸okC
 have ld:n+1<=d:=by have:=mC.next; omega
 rw[show C=ext C [] from rfl]
 rw[ex2]
 simp only[fltV,hd,cb,ruW,putL,Nat.reduceLeDiff,xF,ruU,Nat.reduceLT,Nat.reduceAdd,Nat.reduceEqDiff]
 generalize hD:ext C _=D
 have mD:Mod [] C D:=hD▸Mod.ext okC
 have nD:D.next=d+1:=by rw[<-hD,ext_next,hd]; rfl
 have k7:bk D (d+0)=some ⟨26,false,[.int .i64 e,.int .i64 a]⟩:=by rw[<-hD,bk_at hd (by simp)]; rfl
 clear hD
 have okD:=mD.ok okC
 have mBD:=mC.trans mD
 have k0D:=(mBD.bk (by omega) (by simp)).trans k0B
 have k3D:=(mBD.bk (by omega) (by simp)).trans k3B
 have k5D:=(mBD.bk (by omega) (by simp)).trans k5
 have i0:b+0<d+1:=by omega
 have i3:y+0<d+1:=by omega
 have i5:n+0<d+1:=by omega
 have i7:d+0<d+1:=by omega
 have mYD:=mZ.trans (mA.trans (mB.trans mBD))
 have huD:=huX.mod0 (mY.trans mYD)
 have hpD:=hpX.mod0 (mY.trans mYD)
 have hu'D:=hu'.mod0 mYD
 have hp'D:=hp'.mod0 mYD
 have a1D:RdAt D 1 h1 (iv hs) hs.length:=(VsAt.rd a1).mod0 (mB.trans mBD)
 have a2D:RdAt D 1 h2 (iv hs) hs.length:=(VsAt.rd a2).mod0 mD
 rw[ex1]at a1D
 rw[ex2]at a2D
 have ne2:∀ {s1 s2:Nat} {v1 v2:Value} {c1 c2:List Value} {n1 n2:Nat},RdAt D s1 v1 c1 n1->RdAt D s2 v2 c2 n2->∀ k∈rdF v1 n1++rdF v2 n2,D.get k≠none:=fun h1 h2 k hk=>by
  rcases zB9.1 hk with hk|hk
  ·exact (h1.ne k hk).1
  ·exact (h2.ne k hk).1
 refine w_drawB [] [(3,34),(8,39),(14,45),(19,50)] (by kernel_rfl) (by kernel_rfl) (by kernel_rfl) fun ops anc hA hG=>?_
 simp only[all2_cons]at hG
 rw[show D=ext D [] from rfl]
 simp only[ruD,ruU,Nat.reduceLT,Nat.reduceAdd,Nat.reduceEqDiff]
 have hsl:hs.length<=400:=by
  rw[<-hhs]
  cases R with
  |error f=>simp[hsR]
  |ok ks =>
   have:=(ver_len hR).2
   rw[hsR,hghR,zC9]
   omega
 refine genV_quiet (v:=.bool true) (rdF _ hs.length++rdF _ hs.length) rfl (by kernel_rfl) (by decide) (ne2 a1D a2D) (fun G h1 h2=>?_) (by simp[Meets]) ?_
 ·simp only[ruU,Nat.reduceEqDiff]
  have:=same18_c G _ _ hs hs (a1D.of (zD0 h1.symm) fun k hk=>h2 k (List.mem_append_left _ hk)) (a2D.of (zD0 h1.symm) fun k hk=>h2 k (zF9 _ hk)) (by omega)
  rw[show decide (hs=hs)=true from decide_eq_true rfl]at this
  exact this
 simp only[nD,i5,i7,k5D,k7,hG,qk_old,ruD,ruW,Nat.reduceLeDiff,xF,ruU,Nat.reduceLT,Nat.reduceAdd,Nat.reduceEqDiff]
 refine wd_eqS fl26b ag26b gd26b (eq26b e a) rfl rfl (by decide) rfl rfl (ff26b _ _) (ff26b _ _) ?_
 simp only[nD,i3,k3D,hG,qk_old,ruD,ruW,Nat.reduceLeDiff,xF,ruU,Nat.reduceLT,Nat.reduceAdd,Nat.reduceEqDiff]
 refine genV_quiet (v:=fltV e a) (rdF (.slice va l.length vc) l.length) rfl (by kernel_rfl) (by decide) (fun k hk=>(hu'D.ne k hk).1) (fun G h1 h2=>?_) (by simp[Meets]) ?_
 ·simp only[ruU]
  have:=check19_c G least most depth _ qa w.length qc l (hu'D.of (zD0 h1.symm) h2)
  rw[hver,hR,err_norm,hea]at this
  exact this
 simp only[nD,i7,k7,hG,qk_old,ruD,ruW,Nat.reduceLeDiff,xF,ruU,Nat.reduceLT,Nat.reduceAdd,Nat.reduceEqDiff]
 refine wd_eqS fl26b ag26b gd26b (eq26b e a) rfl rfl (by decide) rfl rfl (ff26b _ _) (ff26b _ _) ?_
 simp only[nD,i0,i3,k0D,k3D,hG,qk_old,ruD,ruW,Nat.reduceLeDiff,xF,ruU,Nat.reduceLT,Nat.reduceAdd,Nat.reduceEqDiff]
 refine genV_quiet (v:=.bool true) ((rdF (.slice va l.length vc) l.length++rdF (.slice ua l.length uc) l.length)++(rdF (.slice qa w.length qc) w.length++rdF (.slice pa w.length pc) w.length)) rfl (by kernel_rfl) (by decide) (fun k hk=>?_) (fun G h1 h2=>?_) (by simp[Meets]) ?_
 ·rcases zB9.1 hk with hk|hk
  ·exact ne2 hu'D huD k hk
  ·exact ne2 hp'D hpD k hk
 ·simp only[ruU,Nat.reduceEqDiff]
  have hn:=zD0 h1.symm
  exact same20_c G least most depth _ _ _ _ l w (hu'D.of hn fun k hk=>h2 k (List.mem_append_left _ (List.mem_append_left _ hk))) (huD.of hn fun k hk=>h2 k (List.mem_append_left _ (zF9 _ hk))) (hp'D.of hn fun k hk=>h2 k (zF9 _ (List.mem_append_left _ hk))) (hpD.of hn fun k hk=>h2 k (zF9 _ (zF9 _ hk))) (by omega) (by omega)
 simp only[nD,hG,ruD,ruW,ruU,Nat.reduceLT,Nat.reduceAdd,Nat.reduceEqDiff]
 refine genV_quiet (v:=.bool true) [] rfl (by kernel_rfl) (by decide) (by simp) (fun G h1 h2=>by simp only[ruU]; exact awake_c G) (by simp[Meets]) ?_
 simp only[nD,Tryz.results4,ruD,ruW,ruU,Nat.reduceLT,Nat.reduceAdd,Nat.reduceEqDiff]
 exact mX.trans (mY.trans mYD)
end Go.Proofs.YtnigelgcjfhghaaGreatDoor
