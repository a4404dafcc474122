/- Parts of the proof, one behind the other. -/
import Derived.Test.YtnigelgcjfhghaaGreatDoorM5
import Derived.Test.YtnigelgcjfhghaaGreatDoorM18
import Derived.Test.YtnigelgcjfhghaaGreatDoorM3
set_option linter.all false
set_option maxRecDepth 10000
set_option maxHeartbeats 16000000
open And renaming intro → zA0
open Option renaming bind_eq_bind → zA1, bind_eq_some_iff → zA2, bind_some → zA3, map_some → zA5, map_eq_some_iff → zA8
open Bool renaming and_eq_true → zA4, false_eq_true → zC0, and_self → zD6
open List renaming getElem?_eq_getElem → zA6, length_cons → zA7, mem_singleton → zB0, mem_cons → zB1, length_append → zB2, map_cons → zB4, mem_cons_of_mem → zB6, length_map → zB7, getD_eq_getElem?_getD → zB8, length_singleton → zB9, mem_cons_self → zC1, length_nil → zC5, mem_append → zC6, all_eq_true → zC7, mem_map → zC8, flatMap_cons → zC9, nil_append → zD4, getElem?_eq_none → zD5, append_nil → zD8, take_of_length_le → zD9, mem_of_getElem? → zE2, map_nil → zE3, getElem?_cons_succ → zE4, drop_eq_getElem_cons → zE5, getElem?_map → zE6, eq_nil_of_length_eq_zero → zE7
open Nat renaming le_refl → zA9, zero_le → zB3, le_of_ble_eq_true → zB5, mul_one → zC2, zero_add → zC3, lt_succ_self → zC4, add_zero → zD1, eq_of_beq_eq_true → zD2, lt_or_ge → zD3, ble_eq → zD7, le_trans → zE0, lt_of_lt_of_le → zE1
open Int renaming toNat_natCast → zD0

namespace Go.Proofs.YtnigelgcjfhghaaGreatDoor
open Go.Ax
set_option maxRecDepth 100000
theorem fl26b:flat Tryz.prog 10000 26=some [24,3]:=by kernel_rfl
theorem ag26b:aggT Tryz.prog 26=some true:=by kernel_rfl
theorem gd26b:Tryz.prog.eqGuardType Tryz.prog.depth 26=false:=by kernel_rfl
theorem ff26b (e a:Int):fits Tryz.prog [24,3] [.int .i64 e,.int .i64 a]=true:=by kernel_rfl
theorem eq26b (e a:Int):eqOp .eql (eqL [.int .i64 e,.int .i64 a] [.int .i64 e,.int .i64 a])=some (.bool true):=by
 simp[eqL,eqOp,eq1]
set_option maxRecDepth 100000
theorem law5_c (H:AHeap) (u v:Value) (l:List UInt8) (ls:List Iv) (hp:Pow H) (hu:RdAt H 1 u (bv l) l.length) (hsc:scb H.next u=true) (hi:InsRd H v ls) (hok:H.base≤H.next):CallA Tryz.prog 5 [u,v] H (fun out X=>out=.ok (.bool true)∧Mod [] H X):=by
 obtain⟨b,hb⟩:∃ b,H.next=b:=⟨_,rfl⟩
 have hbase:H.base≤b:=hb▸hok
 obtain⟨ua,uc,eu⟩:=hu.sl
 obtain⟨va,vc,ev⟩:=hi.rd.sl
 refine callE_fn mixed Tryz.func5 rfl Tryz.ntmps5 (zB5 rfl) ?_
 by_cases h1:1000<l.length
 ·have hd:decide ((1000:Int)<(l.length:Int))=true:=decide_eq_true (by omega)
  rw[eu]
  simp (maxDischargeDepth:=6) only[hd,ruW,putL,Nat.reduceLeDiff,xF,ruU,entryE,Nat.reduceLT,Nat.reduceAdd,Nat.reduceMul,Nat.reduceEqDiff]
  refine (awake_c (ext H [])).to ?_
  simp (maxDischargeDepth:=6) only[Tryz.results5,ruW,putL,Nat.reduceLeDiff,xF,ruU,entryE,Nat.reduceLT,Nat.reduceAdd,Nat.reduceMul,Nat.reduceEqDiff]
  exact⟨trivial,Mod.refl⟩
 have hd1:decide ((1000:Int)<(l.length:Int))=false:=decide_eq_false (by omega)
 rw[eu]
 simp (maxDischargeDepth:=6) only[hd1,ruW,putL,Nat.reduceLeDiff,xF,ruU,entryE,Nat.reduceLT,Nat.reduceAdd,Nat.reduceMul,Nat.reduceEqDiff]
 rw[←eu]
 refine (long_c (ext H []) v ls hi).to ?_
 obtain⟨q,hq⟩:∃ q,longR ls=q:=⟨_,rfl⟩
 rw[hq]
 cases q with
 |true =>
  simp (maxDischargeDepth:=6) only[ruW,putL,Nat.reduceLeDiff,xF,ruU,entryE,Nat.reduceLT,Nat.reduceAdd,Nat.reduceMul,Nat.reduceEqDiff]
  refine (awake_c (ext H [])).to ?_
  simp (maxDischargeDepth:=6) only[Tryz.results5,ruW,putL,Nat.reduceLeDiff,xF,ruU,entryE,Nat.reduceLT,Nat.reduceAdd,Nat.reduceMul,Nat.reduceEqDiff]
  exact⟨trivial,Mod.refl⟩
 |false =>
  obtain⟨hl200,hl40⟩:=longR_no hq
  simp (maxDischargeDepth:=6) only[ruW,putL,Nat.reduceLeDiff,xF,ruU,entryE,Nat.reduceLT,Nat.reduceAdd,Nat.reduceMul,Nat.reduceEqDiff]
  refine (own22_c (ext H []) u l hu (by omega)).to ?_
  rw[ext_nil]
  obtain⟨oa,ho⟩:=own_form H.next l.length
  have how:=own_rd (H:=H) (b:=b) (cnt:=l.length) (e:=5) (vs:=bv l) hb (by simp[bv])
  have hos:=own_sc (H:=H) (b:=b) (cnt:=l.length) (e:=5) (vs:=bv l) hb
  rw[hb]at ho
  rw[hb]
  rw[ho]at how hos ⊢
  generalize hH1:ext H (ownL 5 (bv l) l.length)=H1 at how hos ⊢
  have mH1:Mod [] H H1:=hH1▸Mod.ext hok
  clear hH1
  have ok1:=mH1.ok hok
  rw[show H1=ext H1 [] from rfl]
  simp (maxDischargeDepth:=6) only[ruW,putL,Nat.reduceLeDiff,xF,ruU,entryE,Nat.reduceLT,Nat.reduceAdd,Nat.reduceMul,Nat.reduceEqDiff]
  refine (copy_c (ext H1 []) v ls (hi.mod0 mH1) ok1 (by omega) (fun z hz=>by have:=hl40 z hz; omega)).mono ?_
  rintro _ X ⟨w,cs,rfl,hcs,cp,mX⟩
  obtain⟨wa,ew⟩:=cp.vs.len
  have okX:=mX.ok ok1
  rw[ext_nil]at mX
  have mHX:=mH1.trans mX
  obtain⟨x,hx⟩:∃ x,X.next=x:=⟨_,rfl⟩
  have hxb:X.base≤x:=hx▸okX
  have hraw:RdAt X 1 (.slice oa l.length l.length) (bv l) l.length:=how.mod0 mX
  have hraws:scb X.next (.slice oa l.length l.length)=true:=scb_mono mX.next _ hos
  have hw:=cp.ird
  rw[show X=ext X [] from rfl]
  simp (maxDischargeDepth:=6) only[ruW,putL,Nat.reduceLeDiff,xF,ruU,entryE,Nat.reduceLT,Nat.reduceAdd,Nat.reduceMul,Nat.reduceEqDiff]
  refine (decode_c (ext X []) (.slice oa l.length l.length) l (by omega) hraw hraws okX).mono ?_
  rintro _ X1 ⟨hout,m1⟩
  obtain⟨x1,lx,rfl,hlx,ownx⟩:=dec_norm hout
  clear hout
  rw[ext_nil]at m1 ownx
  obtain⟨er,her⟩:∃ er,dE l=er:=⟨_,rfl⟩
  obtain⟨ea,hea⟩:∃ ea,dA l=ea:=⟨_,rfl⟩
  obtain⟨tx,htx⟩:∃ tx,dT l=tx:=⟨_,rfl⟩
  have htn:=text_norm l
  rw[her,hea]at htn ⊢
  rw[htx]at htn
  obtain⟨xa,ex⟩:=ownx.vs.len
  have okX1:=m1.ok okX
  obtain⟨y1,hy1⟩:∃ y1,X1.next=y1:=⟨_,rfl⟩
  have b1:X1.base≤y1:=hy1▸okX1
  have t1:=m1.next
  rw[hx,hy1]at t1
  rw[show X1=ext X1 [] from rfl]
  rw[ex]
  simp (maxDischargeDepth:=6) only[fltV,hy1,b1,ruW,putL,Nat.reduceLeDiff,xF,ruU,entryE,Nat.reduceLT,Nat.reduceAdd,Nat.reduceMul,Nat.reduceEqDiff]
  rw[←ex]
  obtain⟨X2,hX2⟩:∃ X2,ext X1 [⟨26,false,[.int .i64 er,.int .i64 ea]⟩]=X2:=⟨_,rfl⟩
  have mX2:Mod [] X1 X2:=hX2▸Mod.ext okX1
  have n2:X2.next=y1+1:=by rw[←hX2,ext_next,hy1]; rfl
  have k8:bk X2 (y1+0)=some ⟨26,false,[.int .i64 er,.int .i64 ea]⟩:=by rw[←hX2,bk_at hy1 (by simp)]; rfl
  rw[hX2]
  have m2:=m1.trans mX2
  have okX2:=m2.ok okX
  refine (decode25_c X2 u l (by omega) (hu.mod0 (mHX.trans m2)) okX2).mono ?_
  rintro _ X3 ⟨hout,mX3⟩
  obtain⟨x3,ly,rfl,hly,owny⟩:=dec_norm hout
  clear hout
  rw[her,hea]
  obtain⟨ya,ey⟩:=owny.vs.len
  have m3:=m2.trans mX3
  have okX3:=m3.ok okX
  obtain⟨y3,hy3⟩:∃ y3,X3.next=y3:=⟨_,rfl⟩
  have b3:X3.base≤y3:=hy3▸okX3
  have t3:=mX3.next
  rw[n2,hy3]at t3
  rw[n2]at owny
  have k8:=(mX3.bk (by omega) (by simp)).trans k8
  rw[show X3=ext X3 [] from rfl]
  rw[ey]
  simp (maxDischargeDepth:=6) only[fltV,hy3,b3,ruW,putL,Nat.reduceLeDiff,xF,ruU,entryE,Nat.reduceLT,Nat.reduceAdd,Nat.reduceMul,Nat.reduceEqDiff]
  rw[←ey]
  obtain⟨X4,hX4⟩:∃ X4,ext X3 [⟨26,false,[.int .i64 er,.int .i64 ea]⟩]=X4:=⟨_,rfl⟩
  have mX4:Mod [] X3 X4:=hX4▸Mod.ext okX3
  have n4':X4.next=y3+1:=by rw[←hX4,ext_next,hy3]; rfl
  obtain⟨y4,n4⟩:∃ y4,X4.next=y4:=⟨_,rfl⟩
  have t4:y4=y3+1:=n4.symm.trans n4'
  have k10:bk X4 (y3+0)=some ⟨26,false,[.int .i64 er,.int .i64 ea]⟩:=by rw[←hX4,bk_at hy3 (by simp)]; rfl
  have k8:=(mX4.bk (by omega) (by simp)).trans k8
  rw[hX4]
  have m4:=m3.trans mX4
  have okX4:=m4.ok okX
  have b4:X4.base≤y4:=n4▸okX4
  rw[show X4=ext X4 [] from rfl]
  have ht:=text_c (ext X4 []) (.slice oa l.length l.length) l (by omega) (hraw.mod0 m4) (hp.mod (mHX.trans m4) (by simp))
  rw[htn]at ht
  refine ht.to ?_
  clear ht
  simp (maxDischargeDepth:=6) only[fltV,n4,b4,ruW,putL,Nat.reduceLeDiff,xF,ruU,entryE,Nat.reduceLT,Nat.reduceAdd,Nat.reduceMul,Nat.reduceEqDiff]
  obtain⟨X5,hX5⟩:∃ X5,ext X4 [⟨26,false,[.int .i64 er,.int .i64 ea]⟩]=X5:=⟨_,rfl⟩
  have mX5:Mod [] X4 X5:=hX5▸Mod.ext okX4
  have n5:X5.next=y4+1:=by rw[←hX5,ext_next,n4]; rfl
  have k12:bk X5 (y4+0)=some ⟨26,false,[.int .i64 er,.int .i64 ea]⟩:=by rw[←hX5,bk_at n4 (by simp)]; rfl
  have k8:=(mX5.bk (by omega) (by simp)).trans k8
  have k10:=(mX5.bk (by omega) (by simp)).trans k10
  rw[hX5]
  have m5:=m4.trans mX5
  have okX5:=m5.ok okX
  refine (text27_c X5 u l (by omega) (hu.mod0 (mHX.trans m5)) okX5).mono ?_
  rintro _ X6 ⟨rfl,mX6⟩
  rw[htn]
  have m6:=m5.trans mX6
  have okX6:=m6.ok okX
  obtain⟨y6,hy6⟩:∃ y6,X6.next=y6:=⟨_,rfl⟩
  have b6:X6.base≤y6:=hy6▸okX6
  have t6:=mX6.next
  rw[n5,hy6]at t6
  have k8:=(mX6.bk (by omega) (by simp)).trans k8
  have k10:=(mX6.bk (by omega) (by simp)).trans k10
  have k12:=(mX6.bk (by omega) (by simp)).trans k12
  rw[show X6=ext X6 [] from rfl]
  simp (maxDischargeDepth:=6) only[fltV,hy6,b6,ruW,putL,Nat.reduceLeDiff,xF,ruU,entryE,Nat.reduceLT,Nat.reduceAdd,Nat.reduceMul,Nat.reduceEqDiff]
  obtain⟨X7,hX7⟩:∃ X7,ext X6 [⟨26,false,[.int .i64 er,.int .i64 ea]⟩]=X7:=⟨_,rfl⟩
  have mX7:Mod [] X6 X7:=hX7▸Mod.ext okX6
  have n7:X7.next=y6+1:=by rw[←hX7,ext_next,hy6]; rfl
  have k14:bk X7 (y6+0)=some ⟨26,false,[.int .i64 er,.int .i64 ea]⟩:=by rw[←hX7,bk_at hy6 (by simp)]; rfl
  have k8:=(mX7.bk (by omega) (by simp)).trans k8
  have k10:=(mX7.bk (by omega) (by simp)).trans k10
  have k12:=(mX7.bk (by omega) (by simp)).trans k12
  rw[hX7]
  have m7:=m6.trans mX7
  have okX7:=m7.ok okX
  have l8:y1+0<y6+1:=by omega
  have l10:y3+0<y6+1:=by omega
  have l12:y4+0<y6+1:=by omega
  have l14:y6+0<y6+1:=by omega
  have ownx7:=ownx.mod0 ((mX2.trans mX3).trans ((mX4.trans mX5).trans (mX6.trans mX7)))
  have owny7:=owny.mod0 (mX4.trans (mX5.trans (mX6.trans mX7)))
  obtain⟨sx1,sx2⟩:=ivs_small hlx
  rw[show X7=ext X7 [] from rfl]
  refine (same28_c (ext X7 []) x1 x3 lx ly ownx7.rd owny7.rd (by omega) (fun z hz=>by have:=sx2 z hz; omega) (hlx.trans hly.symm)).to ?_
  simp (maxDischargeDepth:=6) only[n7,l8,l10,l12,l14,k8,k10,k12,k14,ruW,putL,Nat.reduceLeDiff,xF,ruU,entryE,Nat.reduceLT,Nat.reduceAdd,Nat.reduceMul,Nat.reduceEqDiff]
  refine w_eqS fl26b ag26b gd26b (eq26c er ea) (by simp only[ruU,entryE,Nat.reduceLT,Nat.reduceAdd,Nat.reduceMul,Nat.reduceEqDiff]) (by simp only[ruU,entryE,Nat.reduceLT,Nat.reduceAdd,Nat.reduceMul,Nat.reduceEqDiff]) (by decide) (by simp only[ruU,entryE,Nat.reduceLT,Nat.reduceAdd,Nat.reduceMul,Nat.reduceEqDiff]) (by simp only[ruU,entryE,Nat.reduceLT,Nat.reduceAdd,Nat.reduceMul,Nat.reduceEqDiff]) (ff26b _ _) (ff26b _ _) ?_
  simp (maxDischargeDepth:=6) only[n7,l8,l10,l12,l14,k8,k10,k12,k14,ruW,putL,Nat.reduceLeDiff,xF,ruU,entryE,Nat.reduceLT,Nat.reduceAdd,Nat.reduceMul,Nat.reduceEqDiff]
  refine w_neStr (a:=bs tx) (b:=bs tx) (by simp only[ruU,entryE,Nat.reduceLT,Nat.reduceAdd,Nat.reduceMul,Nat.reduceEqDiff]) (by simp only[ruU,entryE,Nat.reduceLT,Nat.reduceAdd,Nat.reduceMul,Nat.reduceEqDiff]) (by simp only[ruU,entryE,Nat.reduceLT,Nat.reduceAdd,Nat.reduceMul,Nat.reduceEqDiff]) (by simp only[ruU,entryE,Nat.reduceLT,Nat.reduceAdd,Nat.reduceMul,Nat.reduceEqDiff]) (by decide) neb_none ?_
  rw[same_bytes]
  simp (maxDischargeDepth:=6) only[n7,l8,l10,l12,l14,k8,k10,k12,k14,ruW,putL,Nat.reduceLeDiff,xF,ruU,entryE,Nat.reduceLT,Nat.reduceAdd,Nat.reduceMul,Nat.reduceEqDiff]
  refine w_eqS fl26b ag26b gd26b (eq26c er ea) (by simp only[ruU,entryE,Nat.reduceLT,Nat.reduceAdd,Nat.reduceMul,Nat.reduceEqDiff]) (by simp only[ruU,entryE,Nat.reduceLT,Nat.reduceAdd,Nat.reduceMul,Nat.reduceEqDiff]) (by decide) (by simp only[ruU,entryE,Nat.reduceLT,Nat.reduceAdd,Nat.reduceMul,Nat.reduceEqDiff]) (by simp only[ruU,entryE,Nat.reduceLT,Nat.reduceAdd,Nat.reduceMul,Nat.reduceEqDiff]) (ff26b _ _) (ff26b _ _) ?_
  simp (maxDischargeDepth:=6) only[n7,l8,l10,l12,l14,k8,k10,k12,k14,ruW,putL,Nat.reduceLeDiff,xF,ruU,entryE,Nat.reduceLT,Nat.reduceAdd,Nat.reduceMul,Nat.reduceEqDiff]
  have h14:=same14_c (ext X7 []) (.slice oa l.length l.length) u l l (hraw.mod0 m7) (hu.mod0 (mHX.trans m7)) (by omega)
  rw[show decide (l=l)=true from decide_eq_true rfl]at h14
  refine h14.to ?_
  simp (maxDischargeDepth:=6) only[n7,Bool.not_true,ruW,putL,Nat.reduceLeDiff,xF,ruU,entryE,Nat.reduceLT,Nat.reduceAdd,Nat.reduceMul,Nat.reduceEqDiff]
  have hc40:∀ z∈cs,z.1.args.length≤40:=fun z hz=>by
   have:z.1∈ls.map (·.1):=by rw[←hcs]; exact List.mem_map_of_mem hz
   obtain⟨q,hq,e⟩:=zC8.1 this
   rw[←e]
   exact hl40 q hq
  have hc200:cs.length≤200:=by have:=congrArg List.length hcs; rw[zB7,zB7]at this; omega
  have hsm:(encL (ls.map (·.1))).length≤100000000:=by
   have:=encL_small (ls:=ls.map (·.1)) fun q hq=>by
    obtain⟨z,hz,e⟩:=zC8.1 hq
    rw[←e]
    exact hl40 z hz
   rw[zB7]at this
   omega
  refine (over_c (ext X7 []) X.next x1 lx ownx7 (by omega) (fun z hz=>by have:=sx2 z hz; omega) okX7).mono ?_
  rintro _ X8 ⟨rfl,mW⟩
  obtain⟨W,hW⟩:∃ W,(idsV x1++lx.flatMap fun z=>idsV z.2)=W:=⟨_,rfl⟩
  rw[hW]at mW
  have hWx:∀ n∈W,x≤n∧n<y1:=fun n hn=>by
   rw[←hW]at hn
   rcases zC6.1 hn with hn|hn
   ·exact⟨hx▸ownx.lo n hn,hy1▸(ownx.vs.ne n hn).2⟩
   ·obtain⟨z,hz,hn⟩:=List.mem_flatMap.1 hn
    exact⟨hx▸(ownx.alo z hz n hn).1,hy1▸((ownx.av z hz).ne n hn).2⟩
  have m8:Mod [] X X8:=m7.step (W':=W) mW okX fun n hn=>.inr (by rw[hx]; exact (hWx n hn).1)
  have owny8:=owny7.keep (G:=X8) mW fun n hn=>by have:=(hWx n hn).2; omega
  have okX8:=m8.ok okX
  rw[show X8=ext X8 [] from rfl]
  simp (maxDischargeDepth:=6) only[ruW,putL,Nat.reduceLeDiff,xF,ruU,entryE,Nat.reduceLT,Nat.reduceAdd,Nat.reduceMul,Nat.reduceEqDiff]
  refine (decode_c (ext X8 []) (.slice oa l.length l.length) l (by omega) (hraw.mod0 m8) (scb_mono m8.next _ hraws) okX8).mono ?_
  rintro _ X9 ⟨hout,mX9⟩
  obtain⟨x9,l9,rfl,hl9,own9⟩:=dec_norm hout
  clear hout
  rw[her,hea]
  obtain⟨xa9,ex9⟩:=own9.vs.len
  have m9:=m8.trans mX9
  have okX9:=m9.ok okX
  obtain⟨y9,hy9⟩:∃ y9,X9.next=y9:=⟨_,rfl⟩
  have b9:X9.base≤y9:=hy9▸okX9
  rw[show X9=ext X9 [] from rfl]
  rw[ex9]
  simp (maxDischargeDepth:=6) only[fltV,hy9,b9,ruW,putL,Nat.reduceLeDiff,xF,ruU,entryE,Nat.reduceLT,Nat.reduceAdd,Nat.reduceMul,Nat.reduceEqDiff]
  rw[←ex9]
  obtain⟨X10,hX10⟩:∃ X10,ext X9 [⟨26,false,[.int .i64 er,.int .i64 ea]⟩]=X10:=⟨_,rfl⟩
  have mX10:Mod [] X9 X10:=hX10▸Mod.ext okX9
  rw[hX10]
  have m10:=m9.trans mX10
  have okX10:=m10.ok okX
  refine (encode_c X10 w cs (hw.mod0 m10) okX10 (by omega) (fun z hz=>by have:=hc40 z hz; omega) (by rw[hcs]; exact hsm)).mono ?_
  rintro _ X11 ⟨hout,mX11⟩
  rw[hcs]at hout
  obtain⟨p,rfl,hpv⟩:=enc_norm hout
  clear hout
  obtain⟨fe,hfe⟩:∃ fe,xE (ls.map (·.1))=fe:=⟨_,rfl⟩
  obtain⟨fa,hfa⟩:∃ fa,xA (ls.map (·.1))=fa:=⟨_,rfl⟩
  obtain⟨fw,hfw⟩:∃ fw,xW (ls.map (·.1))=fw:=⟨_,rfl⟩
  have hfs:=xW_small (ls.map (·.1))
  rw[hfw]at hpv hfs
  rw[hfe,hfa]
  obtain⟨pa,ep⟩:=hpv.len
  have m11:=m10.trans mX11
  have okX11:=m11.ok okX
  obtain⟨y11,hy11⟩:∃ y11,X11.next=y11:=⟨_,rfl⟩
  have b11:X11.base≤y11:=hy11▸okX11
  rw[show X11=ext X11 [] from rfl]
  rw[ep]
  simp (maxDischargeDepth:=6) only[fltV,hy11,b11,ruW,putL,Nat.reduceLeDiff,xF,ruU,entryE,Nat.reduceLT,Nat.reduceAdd,Nat.reduceMul,Nat.reduceEqDiff]
  rw[←ep]
  obtain⟨X12,hX12⟩:∃ X12,ext X11 [⟨26,false,[.int .i64 fe,.int .i64 fa]⟩]=X12:=⟨_,rfl⟩
  have mX12:Mod [] X11 X12:=hX12▸Mod.ext okX11
  have n12:X12.next=y11+1:=by rw[←hX12,ext_next,hy11]; rfl
  have k18:bk X12 (y11+0)=some ⟨26,false,[.int .i64 fe,.int .i64 fa]⟩:=by rw[←hX12,bk_at hy11 (by simp)]; rfl
  rw[hX12]
  have m12:=m11.trans mX12
  have okX12:=m12.ok okX
  refine (encode31_c X12 v ls (hi.mod0 (mHX.trans m12)) okX12 (by omega) (fun z hz=>by have:=hl40 z hz; omega) hsm).mono ?_
  rintro _ X13 ⟨hout,mX13⟩
  obtain⟨q,rfl,hqv⟩:=enc_norm hout
  clear hout
  rw[hfw]at hqv
  rw[hfe,hfa]
  obtain⟨qa,eq⟩:=hqv.len
  have m13:=m12.trans mX13
  have okX13:=m13.ok okX
  obtain⟨y13,hy13⟩:∃ y13,X13.next=y13:=⟨_,rfl⟩
  have b13:X13.base≤y13:=hy13▸okX13
  have t13:=mX13.next
  rw[n12,hy13]at t13
  have k18:=(mX13.bk (by omega) (by simp)).trans k18
  rw[show X13=ext X13 [] from rfl]
  rw[eq]
  simp (maxDischargeDepth:=6) only[fltV,hy13,b13,ruW,putL,Nat.reduceLeDiff,xF,ruU,entryE,Nat.reduceLT,Nat.reduceAdd,Nat.reduceMul,Nat.reduceEqDiff]
  rw[←eq]
  obtain⟨X14,hX14⟩:∃ X14,ext X13 [⟨26,false,[.int .i64 fe,.int .i64 fa]⟩]=X14:=⟨_,rfl⟩
  have mX14:Mod [] X13 X14:=hX14▸Mod.ext okX13
  have n14:X14.next=y13+1:=by rw[←hX14,ext_next,hy13]; rfl
  have k20:bk X14 (y13+0)=some ⟨26,false,[.int .i64 fe,.int .i64 fa]⟩:=by rw[←hX14,bk_at hy13 (by simp)]; rfl
  have k18:=(mX14.bk (by omega) (by simp)).trans k18
  rw[hX14]
  have m14:=m13.trans mX14
  have okX14:=m14.ok okX
  have l18:y11+0<y13+1:=by omega
  have l20:y13+0<y13+1:=by omega
  have own14:=own9.mod0 (mX10.trans (mX11.trans (mX12.trans (mX13.trans mX14))))
  have owny14:=owny8.mod0 (mX9.trans (mX10.trans (mX11.trans (mX12.trans (mX13.trans mX14)))))
  obtain⟨s91,s92⟩:=ivs_small hl9
  rw[show X14=ext X14 [] from rfl]
  refine (same28_c (ext X14 []) x9 x3 l9 ly own14.rd owny14.rd (by omega) (fun z hz=>by have:=s92 z hz; omega) (hl9.trans hly.symm)).to ?_
  rw[ep,eq]
  simp (maxDischargeDepth:=6) only[n14,l18,l20,k18,k20,ruW,putL,Nat.reduceLeDiff,xF,ruU,entryE,Nat.reduceLT,Nat.reduceAdd,Nat.reduceMul,Nat.reduceEqDiff]
  have h14:=same14_c (ext X14 []) p q fw fw (VsAt.rd (hpv.of (mX12.trans (mX13.trans mX14)).next fun n hn=>(mX12.trans (mX13.trans mX14)).get n (hpv.ne n hn).2 (by simp))) (VsAt.rd (hqv.of mX14.next fun n hn=>mX14.get n (hqv.ne n hn).2 (by simp))) (by omega)
  rw[show decide (fw=fw)=true from decide_eq_true rfl,ep,eq]at h14
  refine h14.to ?_
  simp (maxDischargeDepth:=6) only[n14,l18,l20,k18,k20,ruW,putL,Nat.reduceLeDiff,xF,ruU,entryE,Nat.reduceLT,Nat.reduceAdd,Nat.reduceMul,Nat.reduceEqDiff]
  refine w_eqS fl26b ag26b gd26b (eq26b fe fa) (by simp only[ruU,entryE,Nat.reduceLT,Nat.reduceAdd,Nat.reduceMul,Nat.reduceEqDiff]) (by simp only[ruU,entryE,Nat.reduceLT,Nat.reduceAdd,Nat.reduceMul,Nat.reduceEqDiff]) (by decide) (by simp only[ruU,entryE,Nat.reduceLT,Nat.reduceAdd,Nat.reduceMul,Nat.reduceEqDiff]) (by simp only[ruU,entryE,Nat.reduceLT,Nat.reduceAdd,Nat.reduceMul,Nat.reduceEqDiff]) (ff26b _ _) (ff26b _ _) ?_
  simp (maxDischargeDepth:=6) only[n14,l18,l20,k18,k20,ruW,putL,Nat.reduceLeDiff,xF,ruU,entryE,Nat.reduceLT,Nat.reduceAdd,Nat.reduceMul,Nat.reduceEqDiff]
  refine (same28_c (ext X14 []) w v cs ls (hw.mod0 m14) (hi.mod0 (mHX.trans m14)) (by omega) (fun z hz=>by have:=hc40 z hz; omega) hcs).to ?_
  simp (maxDischargeDepth:=6) only[n14,ruW,putL,Nat.reduceLeDiff,xF,ruU,entryE,Nat.reduceLT,Nat.reduceAdd,Nat.reduceMul,Nat.reduceEqDiff]
  refine (names_c (ext X14 []) okX14).mono ?_
  rintro _ X15 ⟨nv,rfl,hnv,mX15,_⟩
  obtain⟨na,en⟩:=hnv.len
  have m15:=m14.trans mX15
  have okX15:=m15.ok okX
  obtain⟨y15,hy15⟩:∃ y15,X15.next=y15:=⟨_,rfl⟩
  rw[show X15=ext X15 [] from rfl]
  simp (maxDischargeDepth:=6) only[ruW,putL,Nat.reduceLeDiff,xF,ruU,entryE,Nat.reduceLT,Nat.reduceAdd,Nat.reduceMul,Nat.reduceEqDiff]
  refine (names34_c (ext X15 [])).to ?_
  rw[ext_nil,hy15]
  obtain⟨X16,hX16⟩:∃ X16,ext X15 [⟨9,false,nmV⟩]=X16:=⟨_,rfl⟩
  have mX16:Mod [] X15 X16:=hX16▸Mod.ext okX15
  have n16:X16.next=y15+1:=by rw[←hX16,ext_next,hy15]; rfl
  have k16:bk X16 (y15+0)=some ⟨9,false,nmV⟩:=by rw[←hX16,bk_at hy15 (by simp)]; rfl
  rw[hX16]
  have m16:=m15.trans mX16
  have hlen28:((List.range 28).map nameR).length=28:=rfl
  have hr1:RdAt X16 1 nv (sv ((List.range 28).map nameR)) ((List.range 28).map nameR).length:=by
   rw[hlen28,←nm_sv]
   exact VsAt.rd (hnv.of mX16.next fun n hn=>mX16.get n (hnv.ne n hn).2 (by simp))
  have hr2:RdAt X16 1 (.slice (some ⟨y15+0,0,some 0⟩) 28 28) (sv ((List.range 28).map nameR)) ((List.range 28).map nameR).length:=by
   rw[hlen28,←nm_sv]
   exact⟨rfl,.inr ⟨by decide,y15+0,0,some 0,28,9,false,nmV,rfl,rk_of k16,by omega,zA9 _,rfl⟩⟩
  have hsame:=same32_c (ext X16 []) nv (.slice (some ⟨y15+0,0,some 0⟩) 28 28) _ hr1 hr2 (by rw[hlen28]; omega)
  rw[show X16=ext X16 [] from rfl]
  simp (maxDischargeDepth:=6) only[ruW,putL,Nat.reduceLeDiff,xF,ruU,entryE,Nat.reduceLT,Nat.reduceAdd,Nat.reduceMul,Nat.reduceEqDiff]
  refine hsame.to ?_
  simp (maxDischargeDepth:=6) only[ruW,putL,Nat.reduceLeDiff,xF,ruU,entryE,Nat.reduceLT,Nat.reduceAdd,Nat.reduceMul,Nat.reduceEqDiff]
  refine (awake_c (ext X16 [])).to ?_
  simp (maxDischargeDepth:=6) only[Tryz.results5,ruW,putL,Nat.reduceLeDiff,xF,ruU,entryE,Nat.reduceLT,Nat.reduceAdd,Nat.reduceMul,Nat.reduceEqDiff]
  exact⟨trivial,mHX.trans m16⟩
end Go.Proofs.YtnigelgcjfhghaaGreatDoor
