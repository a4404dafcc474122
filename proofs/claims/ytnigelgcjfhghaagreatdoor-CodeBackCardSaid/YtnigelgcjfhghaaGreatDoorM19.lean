/- Parts of the proof, one behind the other. -/
import Derived.Test.YtnigelgcjfhghaaGreatDoorM5
import Derived.Test.YtnigelgcjfhghaaGreatDoorM18
import Derived.Test.YtnigelgcjfhghaaGreatDoorM3
set_option linter.all false
set_option maxRecDepth 10000
set_option maxHeartbeats 16000000
open And renaming intro → zA0
open Option renaming bind_eq_bind → zA1, bind_eq_some_iff → zA2, bind_some → zA3, map_some → zA6, map_eq_some_iff → zA9
open Bool renaming and_eq_true → zA4, false_eq_true → zB5, and_self → zD7
open List renaming length_cons → zA5, mem_cons → zA7, mem_singleton → zB0, getElem?_eq_getElem → zB1, length_append → zB2, mem_cons_of_mem → zB3, map_cons → zB4, mem_cons_self → zB6, all_eq_true → zB7, length_nil → zB8, length_singleton → zC0, mem_append → zC1, flatMap_cons → zC4, getD_eq_getElem?_getD → zC6, nil_append → zC8, length_map → zD3, mem_map → zD4, not_mem_nil → zD6, take_of_length_le → zD8, cons_append → zE0, getElem?_eq_none → zE2, append_nil → zE3, map_nil → zE4, getElem?_cons_succ → zE5, append_assoc → zE6, eq_nil_of_length_eq_zero → zE7
open Nat renaming le_refl → zA8, le_of_ble_eq_true → zB9, zero_le → zC2, add_zero → zC3, mul_one → zC5, lt_succ_self → zC7, zero_add → zC9, eq_of_beq_eq_true → zD1, lt_or_ge → zD2, le_trans → zD5, lt_of_lt_of_le → zD9, ble_eq → zE1
open Int renaming toNat_natCast → zD0

namespace Go.Proofs.YtnigelgcjfhghaaGreatDoor
open Go.Ax
set_option maxRecDepth 100000
theorem fl26b:flat Tryz.prog 10000 26=some [24,3]:=by kernel_rfl
theorem ag26b:aggT Tryz.prog 26=some true:=by kernel_rfl
theorem gd26b:Tryz.prog.eqGuardType Tryz.prog.depth 26=false:=by kernel_rfl
theorem ff26b (e a:Int):fits Tryz.prog [24,3] [.int .i64 e,.int .i64 a]=true:=by kernel_rfl
theorem eq26b (e a:Int):eqOp .eql (eqL [.int .i64 e,.int .i64 a] [.int .i64 e,.int .i64 a])=some (.bool true):=by
 simp[eqL,eqOp,eq1]
theorem law8_c (H:AHeap) (u:Value) (l s:List UInt8) (hp:Pow H) (hu:RdAt H 1 u (bv l) l.length) (hsc:scb H.next u=true) (hok:H.base≤H.next):CallA Tryz.prog 8 [u,.string (bs s)] H (fun out X=>out=.ok (.bool true)∧Mod [] H X):=by
 obtain⟨b,hb⟩:∃ b,H.next=b:=⟨_,rfl⟩
 have hbase:H.base≤b:=hb▸hok
 obtain⟨ua,uc,eu⟩:=hu.sl
 refine callE_fn mixed Tryz.func8 rfl Tryz.ntmps8 (zB9 rfl) ?_
 simp (maxDischargeDepth:=6) only[ruW,putL,Nat.reduceLeDiff,xF,ruU,entryE,Nat.reduceLT,Nat.reduceAdd,Nat.reduceMul,Nat.reduceEqDiff]
 refine (codeKnown_c (ext H [])).to ?_
 subst eu
 by_cases h1:1000<l.length
 ·have hd:decide ((1000:Int)<(l.length:Int))=true:=decide_eq_true (by omega)
  simp (maxDischargeDepth:=6) only[hd,Tryz.results8,ruW,putL,Nat.reduceLeDiff,xF,ruU,entryE,Nat.reduceLT,Nat.reduceAdd,Nat.reduceMul,Nat.reduceEqDiff]
  exact⟨trivial,Mod.refl⟩
 have hd1:decide ((1000:Int)<(l.length:Int))=false:=decide_eq_false (by omega)
 by_cases h2:2000<s.length
 ·have hd:decide ((2000:Int)<(s.length:Int))=true:=decide_eq_true (by omega)
  simp (maxDischargeDepth:=6) only[hd1,hd,bt_lenStr u9,bs_size,Tryz.results8,ruW,putL,Nat.reduceLeDiff,xF,ruU,entryE,Nat.reduceLT,Nat.reduceAdd,Nat.reduceMul,Nat.reduceEqDiff]
  exact⟨trivial,Mod.refl⟩
 have hd2:decide ((2000:Int)<(s.length:Int))=false:=decide_eq_false (by omega)
 simp (maxDischargeDepth:=6) only[hd1,hd2,bt_lenStr u9,bs_size,ruW,putL,Nat.reduceLeDiff,xF,ruU,entryE,Nat.reduceLT,Nat.reduceAdd,Nat.reduceMul,Nat.reduceEqDiff]
 refine (decode_c (ext H []) (.slice ua l.length uc) l (by omega) hu hsc hok).mono ?_
 rintro out X ⟨hout,mX⟩
 obtain⟨x,hx⟩:∃ x,X.next=x:=⟨_,rfl⟩
 have okX:=mX.ok hok
 have hxb:X.base≤x:=hx▸okX
 obtain⟨v0,e0,a0,hv0,hbad⟩:∃ v0 e0 a0,out=.ok (.tuple #[v0,fltV e0 a0])∧(e0≠0∧v0=.slice none 0 0∨e0=0∧badA l=none∧∃ ls:List Iv,ls.map (·.1)=insA l∧OwnI (ext H []).next X v0 ls∧a0=0):=by
  unfold DecOut at hout
  split at hout
  ·rename_i r hr
   refine⟨_,_,_,hout,.inl ⟨?_,rfl⟩⟩
   have:=List.find?_some (show (decA 0 l).find? _=some r from hr)
   simpa using this
  ·rename_i hr
   obtain⟨v,ls,h1,h2,h3⟩:=hout
   exact⟨v,0,0,h1,.inr ⟨rfl,hr,ls,h2,h3,rfl⟩⟩
 subst hv0
 rw[show X=ext X [] from rfl]
 obtain⟨d,hdd⟩:∃ d,decide (e0=0)=d:=⟨_,rfl⟩
 simp (maxDischargeDepth:=6) only[hx,hxb,hdd,ruW,putL,Nat.reduceLeDiff,xF,ruU,entryE,Nat.reduceLT,Nat.reduceAdd,Nat.reduceMul,Nat.reduceEqDiff]
 refine condC_join (fun E' X'=>Mod [] H X'∧E' 1=.string (bs s)∧E' 5=.bool true) (fun hdt=>?_) (fun hdf=>?_) ?_
 ·have he:=of_decide_eq_true (hdd.trans hdt)
  rcases hbad with⟨h,_⟩|⟨_,hbn,ls,hls,own,ha0⟩
  ·exact absurd he h
  subst he ha0
  obtain⟨va,ev⟩:=own.vs.len
  obtain⟨henc,hall⟩:=enc_of_dec hbn
  have hIR:InsRd X v0 ls:=⟨own.vs.rd,fun z hz=>(own.av z hz).rd,fun z hz=>VsAt.sc (own.av z hz)⟩
  have hbd:=enc_bound (insA l)
  rw[henc]at hbd
  have hll:ls.length≤l.length:=by have:=hbd.1; rw[←hls,zD3]at this; exact this
  obtain⟨X1,hX1⟩:∃ X1,ext X [⟨26,false,[.int .i64 0,.int .i64 0]⟩]=X1:=⟨_,rfl⟩
  have m1:Mod [] X X1:=hX1▸Mod.ext okX
  have ok1:=m1.ok okX
  simp (maxDischargeDepth:=6) only[ruW,putL,Nat.reduceLeDiff,xF,ruU,entryE,Nat.reduceLT,Nat.reduceAdd,Nat.reduceMul,Nat.reduceEqDiff]
  rw[hX1]
  refine (encode_c X1 v0 ls (hIR.mod0 m1) ok1 (by omega) (fun z hz=>by have:=hbd.2 z.1 (by rw[←hls]; exact List.mem_map_of_mem hz); omega) (by rw[hls,henc]; omega)).mono ?_
  rintro out X2 ⟨hout,m2⟩
  have hnb:encBad 0 (insA l)=none:=encBad_at fun i z hz=>hall z (List.mem_of_getElem? hz)
  unfold EncOut at hout
  rw[hls,hnb]at hout
  simp only[henc]at hout
  rw[if_neg (by omega)]at hout
  obtain⟨w,rfl,hw,_⟩:=hout
  obtain⟨wa,ew⟩:=hw.len
  obtain⟨y,hy⟩:∃ y,X2.next=y:=⟨_,rfl⟩
  have mm2:=(mX.trans m1).trans m2
  have ok2:=mm2.ok hok
  have hyb:X2.base≤y:=hy▸ok2
  rw[show X2=ext X2 [] from rfl]
  simp (maxDischargeDepth:=6) only[hy,hyb,ruW,putL,Nat.reduceLeDiff,xF,ruU,entryE,Nat.reduceLT,Nat.reduceAdd,Nat.reduceMul,Nat.reduceEqDiff]
  have ht:=text_c (ext X2 [⟨26,false,[.int .i64 0,.int .i64 0]⟩]) (.slice ua l.length uc) l (by omega) ((hu.mod0 mm2).ext) ((hp.mod mm2 (by simp)).ext)
  rw[show textV l=.tuple #[.string (bs (textL (insA l))),fltV 0 0] by simp only[textV,hbn]]at ht
  refine ht.to ?_
  clear ht
  simp (maxDischargeDepth:=6) only[hy,hyb,ruW,putL,Nat.reduceLeDiff,xF,ruU,entryE,Nat.reduceLT,Nat.reduceAdd,Nat.reduceMul,Nat.reduceEqDiff]
  have htl:=text_len hall
  rw[henc]at htl
  obtain⟨X3,hX3⟩:∃ X3,ext X2 [⟨26,false,[.int .i64 0,.int .i64 0]⟩,⟨26,false,[.int .i64 0,.int .i64 0]⟩]=X3:=⟨_,rfl⟩
  have m3:Mod [] X2 X3:=hX3▸Mod.ext ok2
  have k30:bk X3 (y+0)=some ⟨26,false,[.int .i64 0,.int .i64 0]⟩:=by rw[←hX3,bk_at hy (by simp)]; rfl
  have k31:bk X3 (y+1)=some ⟨26,false,[.int .i64 0,.int .i64 0]⟩:=by rw[←hX3,bk_at hy (by simp)]; rfl
  have n3:X3.next=y+2:=by rw[←hX3,ext_next,hy]; rfl
  have mm3:=mm2.trans m3
  have ok3:=mm3.ok hok
  rw[hX3]
  refine (parsed_c X3 (textL (insA l)) (by omega) ok3).mono ?_
  rintro out X4 ⟨hout,m4⟩
  have hpt:=parsed_text hall (by rw[henc]; omega)
  rw[henc]at hpt
  unfold ParOut at hout
  rw[hpt]at hout
  rcases hout with⟨h,_⟩|⟨_,w2,rfl,hw2,_⟩
  ·exact absurd rfl h
  simp only at hw2
  obtain⟨wb,ew2⟩:=hw2.len
  obtain⟨z,hz⟩:∃ z,X4.next=z:=⟨_,rfl⟩
  have mm4:=mm3.trans m4
  have ok4:=mm4.ok hok
  have hzb:X4.base≤z:=hz▸ok4
  have nz:=m4.next
  rw[n3,hz]at nz
  have k40:=(m4.bk (by omega) (by simp)).trans k30
  have k41:=(m4.bk (by omega) (by simp)).trans k31
  have l0:y+0<z:=by omega
  have l1:y+1<z:=by omega
  have hw4:VsAt X4 5 1 w (bv l) l.length:=hw.of (m3.trans m4).next fun q hq=>(m3.trans m4).get q (hw.ne q hq).2 (by simp)
  have hu4:=hu.mod0 mm4
  have hdl:∀ i:Decidable True,@decide True i=true:=fun i=>by simp
  rw[show X4=ext X4 [] from rfl]
  subst ew ew2
  simp (maxDischargeDepth:=6) only[hz,hzb,l0,l1,k40,k41,ruW,putL,Nat.reduceLeDiff,xF,ruU,entryE,Nat.reduceLT,Nat.reduceAdd,Nat.reduceMul,Nat.reduceEqDiff]
  refine w_eqS fl26b ag26b gd26b (eq26b 0 0) (by simp only[ruU,entryE,Nat.reduceLT,Nat.reduceAdd,Nat.reduceMul,Nat.reduceEqDiff]) (by simp only[ruU,entryE,Nat.reduceLT,Nat.reduceAdd,Nat.reduceMul,Nat.reduceEqDiff]) (by decide) (by simp only[ruU,entryE,Nat.reduceLT,Nat.reduceAdd,Nat.reduceMul,Nat.reduceEqDiff]) (by simp only[ruU,entryE,Nat.reduceLT,Nat.reduceAdd,Nat.reduceMul,Nat.reduceEqDiff]) (ff26b _ _) (ff26b _ _) ?_
  simp (maxDischargeDepth:=6) only[hz,hzb,l0,l1,k40,k41,ruW,putL,Nat.reduceLeDiff,xF,ruU,entryE,Nat.reduceLT,Nat.reduceAdd,Nat.reduceMul,Nat.reduceEqDiff]
  refine (same14_c (ext X4 _) _ _ l l hw4.rd.ext hu4.ext (by omega)).to ?_
  simp (maxDischargeDepth:=6) only[hz,hzb,l0,l1,k40,k41,hdl,ruW,putL,Nat.reduceLeDiff,xF,ruU,entryE,Nat.reduceLT,Nat.reduceAdd,Nat.reduceMul,Nat.reduceEqDiff]
  refine w_eqS fl26b ag26b gd26b (eq26b 0 0) (by simp only[ruU,entryE,Nat.reduceLT,Nat.reduceAdd,Nat.reduceMul,Nat.reduceEqDiff]) (by simp only[ruU,entryE,Nat.reduceLT,Nat.reduceAdd,Nat.reduceMul,Nat.reduceEqDiff]) (by decide) (by simp only[ruU,entryE,Nat.reduceLT,Nat.reduceAdd,Nat.reduceMul,Nat.reduceEqDiff]) (by simp only[ruU,entryE,Nat.reduceLT,Nat.reduceAdd,Nat.reduceMul,Nat.reduceEqDiff]) (ff26b _ _) (ff26b _ _) ?_
  simp (maxDischargeDepth:=6) only[hz,hzb,l0,l1,k40,k41,ruW,putL,Nat.reduceLeDiff,xF,ruU,entryE,Nat.reduceLT,Nat.reduceAdd,Nat.reduceMul,Nat.reduceEqDiff]
  refine w_eqS fl26b ag26b gd26b (eq26b 0 0) (by simp only[ruU,entryE,Nat.reduceLT,Nat.reduceAdd,Nat.reduceMul,Nat.reduceEqDiff]) (by simp only[ruU,entryE,Nat.reduceLT,Nat.reduceAdd,Nat.reduceMul,Nat.reduceEqDiff]) (by decide) (by simp only[ruU,entryE,Nat.reduceLT,Nat.reduceAdd,Nat.reduceMul,Nat.reduceEqDiff]) (by simp only[ruU,entryE,Nat.reduceLT,Nat.reduceAdd,Nat.reduceMul,Nat.reduceEqDiff]) (ff26b _ _) (ff26b _ _) ?_
  simp (maxDischargeDepth:=6) only[hz,hzb,l0,l1,k40,k41,ruW,putL,Nat.reduceLeDiff,xF,ruU,entryE,Nat.reduceLT,Nat.reduceAdd,Nat.reduceMul,Nat.reduceEqDiff]
  refine (same14_c (ext X4 _) _ _ l l hw2.rd.ext hu4.ext (by omega)).to ?_
  simp (maxDischargeDepth:=6) only[hz,hzb,l0,l1,k40,k41,hdl,ruW,putL,Nat.reduceLeDiff,xF,ruU,entryE,Nat.reduceLT,Nat.reduceAdd,Nat.reduceMul,Nat.reduceEqDiff]
  rw[joinC_normal]
  refine⟨_,rfl,mm4.trans (Mod.ext ok4),?_,?_⟩<;>simp only[ruU,entryE,Nat.reduceLT,Nat.reduceAdd,Nat.reduceMul,Nat.reduceEqDiff]
 ·simp (maxDischargeDepth:=6) only[ruW,putL,Nat.reduceLeDiff,xF,ruU,entryE,Nat.reduceLT,Nat.reduceAdd,Nat.reduceMul,Nat.reduceEqDiff]
  rw[joinC_normal]
  refine⟨_,rfl,mX.trans (Mod.ext okX),?_,?_⟩<;>simp only[ruU,entryE,Nat.reduceLT,Nat.reduceAdd,Nat.reduceMul,Nat.reduceEqDiff]
 ·rintro E X5 ⟨m5,g1,g5⟩
  clear hdd hbad hx hxb okX mX hd1
  have ok5:=m5.ok hok
  rw[show X5=ext X5 [] from rfl]
  simp (maxDischargeDepth:=6) only[g1,g5,ruW,putL,Nat.reduceLeDiff,xF,ruU,entryE,Nat.reduceLT,Nat.reduceAdd,Nat.reduceMul,Nat.reduceEqDiff]
  refine (parsed_c (ext X5 []) s (by omega) ok5).mono ?_
  rintro out X6 ⟨hout,m6⟩
  have mm:=m5.trans m6
  have ok6:=mm.ok hok
  obtain⟨z,hz⟩:∃ z,X6.next=z:=⟨_,rfl⟩
  have hzb:X6.base≤z:=hz▸ok6
  rw[show X6=ext X6 [] from rfl]
  rcases hout with⟨hne,rfl⟩|⟨he,w,rfl,hw,_⟩
  ·have hd:decide ((parsedR s).2.1=0)=false:=decide_eq_false hne
   simp (maxDischargeDepth:=6) only[g1,g5,hz,hzb,hd,Tryz.results8,ruW,putL,Nat.reduceLeDiff,xF,ruU,entryE,Nat.reduceLT,Nat.reduceAdd,Nat.reduceMul,Nat.reduceEqDiff]
   exact⟨trivial,mm.trans (Mod.ext ok6)⟩
  ·obtain⟨hbn,htx,hpl⟩:=parsed_back he
   obtain⟨wa,ew⟩:=hw.len
   have hz0:∀ i:Decidable True,@decide True i=true:=fun i=>by simp
   subst ew
   simp (maxDischargeDepth:=6) only[g1,g5,hz,hzb,hz0,ruW,putL,Nat.reduceLeDiff,xF,ruU,entryE,Nat.reduceLT,Nat.reduceAdd,Nat.reduceMul,Nat.reduceEqDiff]
   have ht:=text_c (ext X6 [⟨26,false,[.int .i64 0,.int .i64 0]⟩]) (.slice wa (parsedR s).1.length (parsedR s).1.length) (parsedR s).1 hpl hw.rd.ext ((hp.mod mm (by simp)).ext)
   rw[show textV (parsedR s).1=.tuple #[.string (bs s),fltV 0 0] by simp only[textV,hbn,htx]]at ht
   refine ht.to ?_
   clear ht
   simp (maxDischargeDepth:=6) only[g1,g5,hz,hzb,ruW,putL,Nat.reduceLeDiff,xF,ruU,entryE,Nat.reduceLT,Nat.reduceAdd,Nat.reduceMul,Nat.reduceEqDiff]
   refine w_eqS fl26b ag26b gd26b (eq26b 0 0) (by simp only[ruU,entryE,Nat.reduceLT,Nat.reduceAdd,Nat.reduceMul,Nat.reduceEqDiff]) (by simp only[ruU,entryE,Nat.reduceLT,Nat.reduceAdd,Nat.reduceMul,Nat.reduceEqDiff]) (by decide) (by simp only[ruU,entryE,Nat.reduceLT,Nat.reduceAdd,Nat.reduceMul,Nat.reduceEqDiff]) (by simp only[ruU,entryE,Nat.reduceLT,Nat.reduceAdd,Nat.reduceMul,Nat.reduceEqDiff]) (ff26b _ _) (ff26b _ _) ?_
   simp (maxDischargeDepth:=6) only[g1,g5,hz,hzb,ruW,putL,Nat.reduceLeDiff,xF,ruU,entryE,Nat.reduceLT,Nat.reduceAdd,Nat.reduceMul,Nat.reduceEqDiff]
   refine (w_eqStr (a:=bs s) (b:=bs s) (by simp only[ruU,entryE,Nat.reduceLT,Nat.reduceAdd,Nat.reduceMul,Nat.reduceEqDiff]) (by simp only[ruU,entryE,Nat.reduceLT,Nat.reduceAdd,Nat.reduceMul,Nat.reduceEqDiff]) (by simp only[ruU,entryE,Nat.reduceLT,Nat.reduceAdd,Nat.reduceMul,Nat.reduceEqDiff]) (by simp only[g1,ruU,entryE,Nat.reduceLT,Nat.reduceAdd,Nat.reduceMul,Nat.reduceEqDiff]) (by decide) eqb_none).mpr ?_
   rw[eqb_bs,show decide (s=s)=true from decide_eq_true rfl]
   simp (maxDischargeDepth:=6) only[g1,g5,hz,hzb,Tryz.results8,ruW,putL,Nat.reduceLeDiff,xF,ruU,entryE,Nat.reduceLT,Nat.reduceAdd,Nat.reduceMul,Nat.reduceEqDiff]
   exact⟨trivial,mm.trans (Mod.ext ok6)⟩
end Go.Proofs.YtnigelgcjfhghaaGreatDoor
