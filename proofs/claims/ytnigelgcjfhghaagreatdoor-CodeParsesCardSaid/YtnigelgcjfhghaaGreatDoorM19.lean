/- Parts of the proof, one behind the other. -/
import Derived.Test.YtnigelgcjfhghaaGreatDoorM5
import Derived.Test.YtnigelgcjfhghaaGreatDoorM4
import Derived.Test.YtnigelgcjfhghaaGreatDoorM18
import Derived.Test.YtnigelgcjfhghaaGreatDoorM3
set_option linter.all false
set_option maxRecDepth 10000
set_option maxHeartbeats 16000000
open And renaming intro → zA0
open Option renaming bind_eq_bind → zA1, bind_eq_some_iff → zA2, bind_some → zA3, map_some → zA5, map_eq_some_iff → zA6
open Bool renaming and_eq_true → zA4, false_eq_true → zB2
open List renaming mem_singleton → zA7, length_cons → zA9, getElem?_eq_getElem → zB0, mem_cons → zB1, length_append → zB3, mem_cons_of_mem → zB5, all_eq_true → zB6, mem_cons_self → zB7, map_cons → zB9, length_singleton → zC0, mem_append → zC2, getD_eq_getElem?_getD → zC3, length_nil → zC4, nil_append → zC5, flatMap_cons → zD4, append_nil → zD5, getElem?_cons_succ → zD6, getElem?_eq_none → zD7, take_of_length_le → zD8
open Nat renaming le_refl → zA8, zero_le → zB4, le_of_ble_eq_true → zB8, eq_of_beq_eq_true → zC6, lt_succ_self → zC7, zero_add → zC8, lt_or_ge → zC9, add_zero → zD0, le_trans → zD1, lt_of_lt_of_le → zD2, mul_one → zD3
open Int renaming toNat_natCast → zC1

namespace Go.Proofs.YtnigelgcjfhghaaGreatDoor
open Go.Ax
set_option maxRecDepth 100000
theorem fl26b:flat Tryz.prog 10000 26=some [24,3]:=by kernel_rfl
theorem ag26b:aggT Tryz.prog 26=some true:=by kernel_rfl
theorem gd26b:Tryz.prog.eqGuardType Tryz.prog.depth 26=false:=by kernel_rfl
theorem ff26b (e a:Int):fits Tryz.prog [24,3] [.int .i64 e,.int .i64 a]=true:=by kernel_rfl
theorem eq26b (e a:Int):eqOp .eql (eqL [.int .i64 e,.int .i64 a] [.int .i64 e,.int .i64 a])=some (.bool true):=by
 simp[eqL,eqOp,eq1]
set_option maxRecDepth 100000
theorem par_norm {b:Nat} {s:List UInt8} {out:Out} {X:AHeap} (h:ParOut b s out X):∃ v,out=.ok (.tuple #[v,fltV (parsedR s).2.1 (if (parsedR s).2.1≠0 then ((parsedR s).2.2:Int) else 0)])∧VsAt X 5 1 v (bv (if (parsedR s).2.1≠0 then [] else (parsedR s).1)) (if (parsedR s).2.1≠0 then [] else (parsedR s).1).length:=by
 rcases h with⟨h,rfl⟩|⟨h,v,rfl,hv,_⟩
 ·rw[if_pos h,if_pos h]
  exact⟨_,rfl,VsAt.nil⟩
 ·rw[if_neg (by simp[h]),if_neg (by simp[h]),h]
  exact⟨v,rfl,hv⟩
theorem parsed_small (s:List UInt8):(if (parsedR s).2.1≠0 then [] else (parsedR s).1).length≤60000:=by
 split
 ·simp
 ·rename_i h
  unfold parsedR at h ⊢
  split at h
  ·simp_all
  ·rename_i h1
   rw[if_neg h1]
   split
   ·simp
   ·simp only; omega
theorem law3_c (H:AHeap) (s:List UInt8) (hok:H.base≤H.next):CallA Tryz.prog 3 [.string (bs s)] H (fun out X=>out=.ok (.bool true)∧Mod [] H X):=by
 obtain⟨b,hb⟩:∃ b,H.next=b:=⟨_,rfl⟩
 have hbase:H.base≤b:=hb▸hok
 refine callE_fn mixed Tryz.func3 rfl Tryz.ntmps3 (zB8 rfl) ?_
 by_cases h2:2000<s.length
 ·have hd:decide ((2000:Int)<(s.length:Int))=true:=decide_eq_true (by omega)
  simp (maxDischargeDepth:=6) only[hd,bt_lenStr u9,bs_size,ruW,putL,Nat.reduceLeDiff,xF,ruU,entryE,Nat.reduceLT,Nat.reduceAdd,Nat.reduceMul,Nat.reduceEqDiff]
  refine (awake_c (ext H [])).to ?_
  simp (maxDischargeDepth:=6) only[Tryz.results3,ruW,putL,Nat.reduceLeDiff,xF,ruU,entryE,Nat.reduceLT,Nat.reduceAdd,Nat.reduceMul,Nat.reduceEqDiff]
  exact⟨trivial,Mod.refl⟩
 have hd2:decide ((2000:Int)<(s.length:Int))=false:=decide_eq_false (by omega)
 simp (maxDischargeDepth:=6) only[hd2,bt_lenStr u9,bs_size,ruW,putL,Nat.reduceLeDiff,xF,ruU,entryE,Nat.reduceLT,Nat.reduceAdd,Nat.reduceMul,Nat.reduceEqDiff]
 refine (parsed_c (ext H []) s (by omega) hok).mono ?_
 rintro out X ⟨hout,m1⟩
 obtain⟨v,rfl,hv⟩:=par_norm hout
 clear hout
 have hws:=parsed_small s
 obtain⟨w,hw⟩:∃ w,(if (parsedR s).2.1≠0 then [] else (parsedR s).1)=w:=⟨_,rfl⟩
 obtain⟨er,her⟩:∃ er,(parsedR s).2.1=er:=⟨_,rfl⟩
 obtain⟨at',hat⟩:∃ a:Int,(if (parsedR s).2.1≠0 then ((parsedR s).2.2:Int) else 0)=a:=⟨_,rfl⟩
 rw[hw]at hv hws
 rw[hat,her]
 obtain⟨x,hx⟩:∃ x,X.next=x:=⟨_,rfl⟩
 have okX:=m1.ok hok
 have hxb:X.base≤x:=hx▸okX
 obtain⟨va,ev⟩:=hv.len
 rw[show X=ext X [] from rfl]
 simp (maxDischargeDepth:=6) only[fltV,hx,hxb,ruW,putL,Nat.reduceLeDiff,xF,ruU,entryE,Nat.reduceLT,Nat.reduceAdd,Nat.reduceMul,Nat.reduceEqDiff]
 obtain⟨X1,hX1⟩:∃ X1,ext X [⟨26,false,[.int .i64 er,.int .i64 at']⟩]=X1:=⟨_,rfl⟩
 have mX1:Mod [] X X1:=hX1▸Mod.ext okX
 have n1:X1.next=x+1:=by rw[←hX1,ext_next,hx]; rfl
 have k1:bk X1 (x+0)=some ⟨26,false,[.int .i64 er,.int .i64 at']⟩:=by rw[←hX1,bk_at hx (by simp)]; rfl
 have ok1:=mX1.ok okX
 rw[hX1]
 refine (parsed13_c X1 s (by omega) ok1).mono ?_
 rintro out X2 ⟨hout,m2⟩
 obtain⟨v2,rfl,hv2⟩:=par_norm hout
 clear hout
 rw[hw]at hv2
 rw[hat,her]
 obtain⟨y,hy⟩:∃ y,X2.next=y:=⟨_,rfl⟩
 have ok2:=m2.ok ok1
 have hyb:X2.base≤y:=hy▸ok2
 have nn:=m2.next
 rw[n1,hy]at nn
 have k2:=(m2.bk (by omega) (by simp)).trans k1
 have l0:x+0<y:=by omega
 obtain⟨vb,ev2⟩:=hv2.len
 have hv':VsAt X2 5 1 v (bv w) w.length:=hv.of (mX1.trans m2).next fun q hq=>(mX1.trans m2).get q (hv.ne q hq).2 (by simp)
 have hdl:∀ i:Decidable True,@decide True i=true:=fun i=>by simp
 rw[show X2=ext X2 [] from rfl]
 subst ev ev2
 simp (maxDischargeDepth:=6) only[fltV,hy,hyb,l0,k2,ruW,putL,Nat.reduceLeDiff,xF,ruU,entryE,Nat.reduceLT,Nat.reduceAdd,Nat.reduceMul,Nat.reduceEqDiff]
 refine (same14_c (ext X2 _) _ _ w w hv'.rd.ext hv2.rd.ext (by omega)).to ?_
 have l1:x+0<y+1:=by omega
 simp (maxDischargeDepth:=6) only[hy,hyb,l0,l1,k2,hdl,ruW,putL,Nat.reduceLeDiff,xF,ruU,entryE,Nat.reduceLT,Nat.reduceAdd,Nat.reduceMul,Nat.reduceEqDiff]
 refine w_eqS fl26b ag26b gd26b (eq26b er at') (by simp only[ruU,entryE,Nat.reduceLT,Nat.reduceAdd,Nat.reduceMul,Nat.reduceEqDiff]) (by simp only[ruU,entryE,Nat.reduceLT,Nat.reduceAdd,Nat.reduceMul,Nat.reduceEqDiff]) (by decide) (by simp only[ruU,entryE,Nat.reduceLT,Nat.reduceAdd,Nat.reduceMul,Nat.reduceEqDiff]) (by simp only[ruU,entryE,Nat.reduceLT,Nat.reduceAdd,Nat.reduceMul,Nat.reduceEqDiff]) (ff26b _ _) (ff26b _ _) ?_
 simp (maxDischargeDepth:=6) only[hy,hyb,ruW,putL,Nat.reduceLeDiff,xF,ruU,entryE,Nat.reduceLT,Nat.reduceAdd,Nat.reduceMul,Nat.reduceEqDiff]
 refine (awake_c (ext X2 _)).to ?_
 simp (maxDischargeDepth:=6) only[Tryz.results3,ruW,putL,Nat.reduceLeDiff,xF,ruU,entryE,Nat.reduceLT,Nat.reduceAdd,Nat.reduceMul,Nat.reduceEqDiff]
 exact⟨trivial,((m1.trans mX1).trans m2).trans (Mod.ext ok2)⟩
end Go.Proofs.YtnigelgcjfhghaaGreatDoor
