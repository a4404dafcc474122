/- Parts of the proof, one behind the other. -/
import Derived.Test.YtaojjfebkldmnaaDoorM3
import Derived.Test.YtaojjfebkldmnaaDoorM5
import Derived.Test.YtaojjfebkldmnaaDoorM4
import Derived.Test.YtaojjfebkldmnaaDoorRows
import Derived.Shelf.Unicode.ValidAny
import Derived.Lib.ValidLaws
import Derived.Lib.TrimUEq
import Derived.Test.YtaojjfebkldmnaaDoorProg
import Derived.KernelRfl
set_option linter.all false
set_option maxRecDepth 10000
set_option maxHeartbeats 16000000
open And renaming intro → zA0
open Option renaming bind_eq_bind → zA1, bind_eq_some_iff → zA2, bind_some → zA3, map_some → zA7, map_eq_some_iff → zB0
open Nat renaming le_refl → zA4, le_of_ble_eq_true → zA9, zero_le → zB2, zero_add → zB6, lt_or_ge → zC4, lt_succ_self → zC7, le_trans → zD1, lt_of_lt_of_le → zD2, add_zero → zD8, zero_mul → zE8, le_of_eq → zE9, sub_self → zF7, eq_of_beq_eq_true → zF9, add_sub_cancel_left → zG3
open Bool renaming and_eq_true → zA5, false_eq_true → zC2, not_true → zD3, and_self → zD5, not_false → zE1
open List renaming getElem?_eq_getElem → zA6, mem_singleton → zA8, mem_cons → zB1, mem_cons_of_mem → zB3, length_cons → zB4, mem_append → zB5, length_append → zB7, nil_append → zB8, map_cons → zB9, all_eq_true → zC0, mem_of_getElem? → zC1, length_nil → zC3, length_drop → zC5, mem_flatMap → zC6, append_nil → zC8, getD_eq_getElem?_getD → zC9, eq_nil_of_length_eq_zero → zD0, getElem?_eq_some_iff → zD4, drop_zero → zD6, mem_cons_self → zD7, length_take → zD9, getElem?_eq_none → zE0, mem_append_right → zE2, drop_eq_nil_of_le → zE3, mem_append_left → zE4, mem_of_mem_take → zE5, mem_of_mem_drop → zE6, getElem?_cons_zero → zF0, take_of_length_le → zF1, flatMap_cons → zF2, mem_range → zF3, cons_append → zF4, map_nil → zF5, take_length → zF6, getElem?_cons_succ → zF8, drop_drop → zG0, append_assoc → zG1, drop_eq_getElem_cons → zG2
open Int renaming toNat_natCast → zE7

namespace Go.Proofs.YtaojjfebkldmnaaDoor
open Go.Ax
abbrev Ce.zero:Ce:=⟨0,0,0,false,false,false⟩
theorem zeros_cs (n:Nat):zerosL Ce.zero.cells n=csOf (List.replicate n Ce.zero):=by
 induction n with
 |zero=>rfl
 |succ n ih=>rw[zerosL,ih,List.replicate_succ,csOf_cons]
theorem mkCells {X:AHeap} {w:Nat} (h:w≤1000):aMakeSlice Tryd.prog X 56 (.int .i64 (w:Int)) (.int .i64 (w:Int))=(aNew X 55 (csOf (List.replicate w Ce.zero)) false).map fun g=>(.slice (some ⟨X.next,0,some 0⟩) w w,g):=by
 rw[mk_slice (e:=55) (sz:=6) (by1:=32) (z:=Ce.zero.val) (by kernel_rfl) (by kernel_rfl) (by kernel_rfl) (by kernel_rfl) rfl (by simp only[small,zA5,Nat.ble_eq]; omega)]
 rw[show Ce.zero.val.cells.toList=Ce.zero.cells from rfl,zeros_cs]
theorem wrap_u64 {n:Nat} (h:n<100000):IntKind.u64.wrap (n:Int)=n:=by
 simp only[IntKind.wrap,IntKind.signed,IntKind.bits]
 simp
 omega
theorem csOf_take (l:List Ce) (k:Nat):(csOf l).take (k*6)=csOf (l.take k):=by
 induction l generalizing k with
 |nil=>simp[csOf]
 |cons c l ih =>
  cases k with
  |zero=>simp[csOf]
  |succ k=>rw[csOf_cons,List.take_succ_cons,csOf_cons,show (k+1)*6=c.cells.length+k*6 by simp[Ce.cells]; omega,List.take_append,zF1 (by omega),zG3,ih]
theorem csOf_drop (l:List Ce) (k:Nat):(csOf l).drop (k*6)=csOf (l.drop k):=by
 induction l generalizing k with
 |nil=>simp[csOf]
 |cons c l ih =>
  cases k with
  |zero=>simp[csOf]
  |succ k=>rw[csOf_cons,List.drop_succ_cons,show (k+1)*6=c.cells.length+k*6 by simp[Ce.cells]; omega,List.drop_append,zE3 (by omega),zB8,zG3,ih]
theorem csOf_put (pre new old:List Ce) (h:new.length≤old.length):putL (csOf (pre++old)) (pre.length*6) (csOf new)=csOf (pre++(new++old.drop new.length)):=by
 have e:pre.length*6=(csOf pre).length:=(csOf_length pre).symm
 rw[csOf_append,e,putL_at _ _ _ (by rw[csOf_length,csOf_length]; omega),csOf_length,csOf_drop,csOf_append,csOf_append]
theorem cp56 {G:AHeap} {q off dl dc n off2 sl sc:Nat} {s2:Option Nat} {b bq:Bl} (hq:bk G q=some bq) (hlt:q<G.next) (hb:bk G n=some b) {l:List Ce} (hle:off2+Nat.min sl dl*6≤b.l.length) (hl:(b.l.drop off2).take (Nat.min sl dl*6)=csOf l) (hw:off+Nat.min sl dl*6≤bq.l.length) (hll:l.length=Nat.min sl dl) :
  aBuiltin Tryd.prog G .copy ⟨[56,56]⟩ [.slice (some ⟨q,off,some 0⟩) dl dc,.slice (some ⟨n,off2,s2⟩) sl sc]=some (goInt (Nat.min sl dl),uw G q off (csOf l)):=by
 rw[cp_slice (e:=55) (sz:=6) (by kernel_rfl) (by kernel_rfl) rfl hb hle,hl]
 have:=write_old (H:=G) (L:=[]) (vs:=csOf l) hlt hq (by rw[csOf_length,hll]; exact hw) (csOf_one l) (csOf_sc l _)
 rw[ext_nil,ext_nil]at this
 rw[this]
 rfl
theorem repeat_c (w:Nat) (h1:1≤w) (hw:w≤1000) (c:Ce) (n:Nat) (s:Option Nat) (H:AHeap) (hn:bk H n=some ⟨55,false,c.cells⟩) :
  CallS Tryd.prog 66 [.slice (some ⟨n,0,s⟩) 1 1,.int .i64 (w:Int)] H (.ok (.slice (some ⟨H.next,0,some 0⟩) w w)) (ext H [⟨55,false,csOf (List.replicate w c)⟩]):=by
 refine callS_one (fun wf hsc=>?_) (fun _ _=>csOf_sc _ _)
 obtain⟨b,hb⟩:∃ b,H.next=b:=⟨_,rfl⟩
 have hbase:H.base≤b:=hb▸wf.base
 have hnb:n<b:=hb▸wf.lt hn
 have hneg:decide ((w:Int)<0)=false:=decide_eq_false (by omega)
 have hcv:∀ (X:AHeap) (k:IntKind) (m:Int),aConvert Tryd.prog X 3 118 (.int k m)=some (.int .u64 (IntKind.u64.wrap m),X):=fun X k m=>cv_int (u:=.int .i64) (by kernel_rfl) (by kernel_rfl)
 have hcv2:∀ (X:AHeap) (k:IntKind) (m:Int),aConvert Tryd.prog X 118 3 (.int k m)=some (.int .i64 (IntKind.i64.wrap m),X):=fun X k m=>cv_int (u:=.int .u64) (by kernel_rfl) (by kernel_rfl)
 have u1:IntKind.u64.wrap ((1:Nat):Int)=1:=by decide
 have huw:IntKind.u64.wrap (w:Int)=w:=wrap_u64 (by omega)
 have iw:IntKind.i64.wrap (w:Int)=w:=wrap_sm (by omega) (by omega)
 have z1:decide ((0:Int)>0)=false:=by decide
 have z2:decide ((w:Int)>9223372036854775807)=false:=decide_eq_false (by omega)
 refine callE_fn mixed Tryd.func66 rfl Tryd.ntmps66 (zA9 rfl) ?_
 simp (maxDischargeDepth:=6) only[hneg,w_convert,hcv,u1,huw,ruW,putL,Nat.reduceLeDiff,xF,ruU,entryE,Nat.reduceLT,Nat.reduceAdd,Nat.reduceMul,Nat.reduceEqDiff]
 refine (mul_c (ext H []) w (by omega)).to ?_
 simp (maxDischargeDepth:=6) only[w_convert,hcv2,iw,z1,z2,mkCells (show w≤1000 by omega),csOf_sc,hb,ruW,putL,Nat.reduceLeDiff,xF,ruU,entryE,Nat.reduceLT,Nat.reduceAdd,Nat.reduceMul,Nat.reduceEqDiff]
 generalize hG:ext H [_]=G
 have mG:Mod [] H G:=hG▸Mod.ext wf.base
 have hGn:G.next=b+1:=by rw[←hG,ext_next,hb]; rfl
 have hq:bk G (b+0)=some ⟨55,false,csOf (List.replicate w Ce.zero)⟩:=by rw[←hG,bk_at hb (by simp)]; rfl
 have hnG:=(mG.bk (hb▸hnb) (by simp)).trans hn
 have m1:Nat.min 1 w=1:=Nat.min_eq_left h1
 have hcp:=cp56 (G:=G) (q:=b+0) (off:=0) (dl:=w) (dc:=w) (n:=n) (off2:=0) (sl:=1) (sc:=1) (s2:=s) (l:=[c]) hq (by omega) hnG (by rw[m1]; simp[Ce.cells]) (by rw[m1]; rfl) (by rw[m1,csOf_length,List.length_replicate]; omega) (by rw[m1]; rfl)
 rw[m1]at hcp
 simp (maxDischargeDepth:=6) only[hcp,ruW,putL,Nat.reduceLeDiff,xF,ruU,entryE,Nat.reduceLT,Nat.reduceAdd,Nat.reduceMul,Nat.reduceEqDiff]
 generalize hK:uw G (b+0) 0 _=K
 have mK:Mod [b+0] G K:=hK▸Mod.uw (by simp)
 have okK:=mK.ok (mG.ok wf.base)
 have hKn:K.next=b+1:=by rw[←hK,uw_next,hGn]
 have hKq:bk K (b+0)=some ⟨55,false,csOf (List.replicate 1 c++List.replicate (w-1) Ce.zero)⟩:=by
  rw[←hK,bk_uw_eq,hq]
  have:=csOf_put [] [c] (List.replicate w Ce.zero) (by simp; omega)
  simp only[zB8,zC3,zE8,zB4,List.drop_replicate]at this
  show some (Bl.mk 55 false (putL (csOf (List.replicate w Ce.zero)) 0 (csOf [c])))=_
  rw[this]
  rfl
 have mHK:Mod [] H K:=mG.step mK wf.base (fun k hk=>.inr (by simp only[zA8]at hk; omega))
 refine w_env fun E hE=>?_
 have g7:E 7=.slice (some ⟨b+0,0,some 0⟩) w w:=by rw[hE]; simp only[ruU,entryE,Nat.reduceLT,Nat.reduceAdd,Nat.reduceMul,Nat.reduceEqDiff]
 have g8:E 8=.int .i64 ((1:Nat):Int):=by rw[hE]; (simp only[ruU,entryE,Nat.reduceLT,Nat.reduceAdd,Nat.reduceMul,Nat.reduceEqDiff]<;>rfl)
 clear hE
 refine blockC_meet (fun E' H'=>Mod [] H H'∧bk H' (b+0)=some ⟨55,false,csOf (List.replicate w c)⟩∧E' 7=.slice (some ⟨b+0,0,some 0⟩) w w) ?_ ?_
 ·refine w_loop (fun (m:Nat) E' H'=>Mod [] H H'∧b+0<H'.next∧1≤m∧m≤w∧bk H' (b+0)=some ⟨55,false,csOf (List.replicate m c++List.replicate (w-m) Ce.zero)⟩∧E' 7=.slice (some ⟨b+0,0,some 0⟩) w w∧E' 8=.int .i64 (m:Int)) (fun m=>w-m) 1
   ⟨mHK,by omega,zA4 _,h1,hKq,g7,g8⟩ ?_
  clear g7 g8
  rintro m E X ⟨mX,lX,hm1,hmw,hqX,g7,g8⟩
  rw[show X=ext X [] from rfl]
  by_cases hme:m=w
  ·have hc:decide ((m:Int)<(w:Int))=false:=by simp[hme]
   simp (maxDischargeDepth:=6) only[g7,g8,hc,ruW,putL,Nat.reduceLeDiff,xF,ruU,entryE,Nat.reduceLT,Nat.reduceAdd,Nat.reduceMul,Nat.reduceEqDiff]
   refine joinR_normal ⟨mX,?_,?_⟩
   ·rw[ext_nil,hqX,hme,zF7]; simp
   ·simp only[g7,ruU,entryE,Nat.reduceLT,Nat.reduceAdd,Nat.reduceMul,Nat.reduceEqDiff]
  ·have hlt:m<w:=by omega
   have hc:decide ((m:Int)<(w:Int))=true:=decide_eq_true (by omega)
   have okX:=mX.ok wf.base
   simp (maxDischargeDepth:=6) only[g7,g8,hc,ruW,putL,Nat.reduceLeDiff,xF,ruU,entryE,Nat.reduceLT,Nat.reduceAdd,Nat.reduceMul,Nat.reduceEqDiff]
   refine w_drawB [(7,3),(7,6),(9,7)] [] (by kernel_rfl) (by kernel_rfl) rfl fun ops anc hA hG2=>?_
   simp only[all2_cons]at hA
   simp (maxDischargeDepth:=6) only[g7,g8,ruD,ruW,putL,Nat.reduceLeDiff,xF,ruU,entryE,Nat.reduceLT,Nat.reduceAdd,Nat.reduceMul,Nat.reduceEqDiff]
   have hbm:bound 0 (some (.int .i64 (m:Int)))=some m:=by simp[bound]
   have hbm2:bound w (some (.int .i64 (m:Int)))=some m:=by simp[bound]
   rw[wd_slice]
   refine genV_val (v:=.slice (some ⟨b+0,0+m*6,some 0⟩) (w-m) (w-m)) rfl (by decide) (fun G=>slice_aop (by simp (maxDischargeDepth:=6) only[ruU,entryE,Nat.reduceLT,Nat.reduceAdd,Nat.reduceMul,Nat.reduceEqDiff]) (by simp (maxDischargeDepth:=6) only[ruU,entryE,Nat.reduceLT,Nat.reduceAdd,Nat.reduceMul,Nat.reduceEqDiff,bndsOk_some]) rfl rfl ?_) (by simp (maxDischargeDepth:=6) only[ruD,ruW,putL,Nat.reduceLeDiff,xF,ruU,entryE,Nat.reduceLT,Nat.reduceAdd,Nat.reduceMul,Nat.reduceEqDiff]) ?_
   ·simp only[g7,g8,bnds_some,bnds_none,ruU,entryE,Nat.reduceLT,Nat.reduceAdd,Nat.reduceMul,Nat.reduceEqDiff]
    exact sl_exact (e:=55) (sz:=6) (by kernel_rfl) (by kernel_rfl) hbm rfl (zA4 _) hmw hlt
   simp (maxDischargeDepth:=6) only[g7,g8,ruD,ruW,putL,Nat.reduceLeDiff,xF,ruU,entryE,Nat.reduceLT,Nat.reduceAdd,Nat.reduceMul,Nat.reduceEqDiff]
   rw[wd_slice]
   refine genV_val (v:=.slice (some ⟨b+0,0+0*6,some 0⟩) (m-0) (w-0)) rfl (by decide) (fun G=>slice_aop (by simp (maxDischargeDepth:=6) only[ruU,entryE,Nat.reduceLT,Nat.reduceAdd,Nat.reduceMul,Nat.reduceEqDiff]) rfl (by simp (maxDischargeDepth:=6) only[ruU,entryE,Nat.reduceLT,Nat.reduceAdd,Nat.reduceMul,Nat.reduceEqDiff,bndsOk_some]) rfl ?_) (by simp (maxDischargeDepth:=6) only[ruD,ruW,putL,Nat.reduceLeDiff,xF,ruU,entryE,Nat.reduceLT,Nat.reduceAdd,Nat.reduceMul,Nat.reduceEqDiff]) ?_
   ·simp only[g7,g8,bnds_some,bnds_none,ruU,entryE,Nat.reduceLT,Nat.reduceAdd,Nat.reduceMul,Nat.reduceEqDiff]
    exact sl_exact (e:=55) (sz:=6) (by kernel_rfl) (by kernel_rfl) rfl hbm2 hmw (zB2 _) (by omega)
   simp (maxDischargeDepth:=6) only[g7,g8,ruD,ruW,putL,Nat.reduceLeDiff,xF,ruU,entryE,Nat.reduceLT,Nat.reduceAdd,Nat.reduceMul,Nat.reduceEqDiff]
   rw[wd_copy (by simp only[ruU,entryE,Nat.reduceLT,Nat.reduceAdd,Nat.reduceMul,Nat.reduceEqDiff])]
   have hrn:=restrict_next X [b+0]
   have hqR:bk (X.restrict [b+0]) (b+0)=some ⟨55,false,csOf (List.replicate m c++List.replicate (w-m) Ce.zero)⟩:=(bk_get (by rw[restrict_get,if_pos (by simp)])).trans hqX
   obtain⟨j,hj⟩:∃ j,Nat.min m (w-m)=j:=⟨_,rfl⟩
   have hjm:j≤m∧j≤w-m∧0<j:=by rw[←hj]; exact⟨Nat.min_le_left _ _,Nat.min_le_right _ _,Nat.lt_min.2 ⟨by omega,by omega⟩⟩
   have hcl:(csOf (List.replicate m c++List.replicate (w-m) Ce.zero)).length=w*6:=by rw[csOf_length]; simp; omega
   have hcp2:=cp56 (G:=X.restrict [b+0]) (q:=b+0) (off:=0+m*6) (dl:=w-m) (dc:=w-m) (n:=b+0) (off2:=0+0*6) (sl:=m-0) (sc:=w-0) (s2:=some 0) (l:=List.replicate j c) hqR (by rw[hrn.1]; exact lX) hqR
    (by rw[Nat.sub_zero,hj,hcl]; omega) (by rw[Nat.sub_zero,hj,zE8,zB6,zD6,csOf_take,List.take_append,List.take_replicate,List.length_replicate,show j-m=0 by omega,Nat.min_eq_left hjm.1]; simp) (by rw[Nat.sub_zero,hj,hcl]; omega) (by rw[Nat.sub_zero,hj,List.length_replicate])
   rw[Nat.sub_zero,hj]at hcp2
   refine genV_modO (W:=[b+0]) [b+0] okX (fun k hk=>by simp only[zA8]at hk; subst hk; exact bk_ne hqX) (fun k hk=>by simp only[zA8]at hk; subst hk; exact lX) (fun _ h=>h)
    (builtin_op (v:=goInt j) (by simp only[ruU,entryE,Nat.reduceLT,Nat.reduceAdd,Nat.reduceMul,Nat.reduceEqDiff]) (by simp only[ruU,entryE,Nat.reduceLT,Nat.reduceAdd,Nat.reduceMul,Nat.reduceEqDiff]; rw[Nat.sub_zero]; exact hcp2)) (Mod.uw (by simp)) (by simp only[all2_cons,all2_nil,hA,true_or,and_true]) ?_
   intro H1 D mH1 hF1 _ _ _
   have hw8:IntKind.i64.wrap ((m:Int)+(j:Int))=((m+j:Nat):Int):=by
    have:=wrap_sm (n:=(m:Int)+(j:Int)) (by omega) (by omega)
    rw[show IntKind.i64.wrap ((m:Int)+(j:Int))=_ from this]; omega
   rw[show H1=ext H1 [] from rfl]
   simp (maxDischargeDepth:=6) only[g7,g8,goInt,hA,hw8,implies_true,ruD,ruW,putL,Nat.reduceLeDiff,xF,ruU,entryE,Nat.reduceLT,Nat.reduceAdd,Nat.reduceMul,Nat.reduceEqDiff]
   have hq1:bk H1 (b+0)=some ⟨55,false,csOf (List.replicate (m+j) c++List.replicate (w-(m+j)) Ce.zero)⟩:=by
    rw[bk_get (hF1 (b+0) (by simp)),bk_uw_eq,show bk ((ext X []).restrict [b+0]) (b+0)=_ from hqR]
    have:=csOf_put (List.replicate m c) (List.replicate j c) (List.replicate (w-m) Ce.zero) (by simp; omega)
    rw[List.length_replicate,List.length_replicate,List.drop_replicate]at this
    show some (Bl.mk 55 false (putL (csOf _) (0+m*6) (csOf (List.replicate j c))))=_
    rw[zB6,this,←zG1,List.replicate_append_replicate,show w-m-j=w-(m+j) by omega]
   refine loopC_next ⟨m+j,by omega,(mX.step mH1 wf.base (fun k hk=>.inr (by simp only[zA8]at hk; omega))),mH1.lt lX,by omega,by omega,hq1,?_,?_⟩<;>simp only[g7,g8,ruU,entryE,Nat.reduceLT,Nat.reduceAdd,Nat.reduceMul,Nat.reduceEqDiff]
 ·clear g7 g8
  rintro E X ⟨mX,hqX,g7⟩
  rw[show X=ext X [] from rfl]
  simp (maxDischargeDepth:=6) only[g7,Tryd.results66,ruW,putL,Nat.reduceLeDiff,xF,ruU,entryE,Nat.reduceLT,Nat.reduceAdd,Nat.reduceMul,Nat.reduceEqDiff]
  exact⟨b+0,rfl,by omega,hqX,mX⟩
def bt (l:List UInt8) (i:Nat):Int:=((l.getD i 0).toNat:Int)
theorem bt_lt (l:List UInt8) (i:Nat):0≤bt l i∧bt l i<256:=by
 have:=(l.getD i 0).toNat_lt
 unfold bt
 omega
def tl (l:List UInt8) (i:Nat):Bool:=decide (i<l.length)&&decide (128≤bt l i)&&decide (bt l i<192)
theorem tl_lt {l:List UInt8} {i:Nat} (h:tl l i=true):i<l.length∧128≤bt l i∧bt l i<192:=by
 simp only[tl,zA5,decide_eq_true_eq]at h
 exact⟨h.1.1,h.1.2,h.2⟩
theorem u9:Tryd.prog.underlying 9=some .string:=by kernel_rfl
theorem size_len (s:ByteArray):s.size=s.data.toList.length:=Array.length_toList.symm
def ptR (l:List UInt8):Int × Int :=
 cond (decide (bt l 0<128)) (bt l 0,1) <|
 cond (decide (194≤bt l 0)&&decide (bt l 0<224)&&tl l 1) ((bt l 0-192)*64+bt l 1-128,2) <|
 cond (decide (224≤bt l 0)&&decide (bt l 0<240)&&tl l 1&&tl l 2)
  (cond (decide (2048≤((bt l 0-224)*64+bt l 1-128)*64+bt l 2-128)&&isR (((bt l 0-224)*64+bt l 1-128)*64+bt l 2-128)) (((bt l 0-224)*64+bt l 1-128)*64+bt l 2-128,3) (0,0)) <|
 cond (decide (240≤bt l 0)&&decide (bt l 0<245)&&tl l 1&&tl l 2&&tl l 3)
  (cond (decide (65536≤(((bt l 0-240)*64+bt l 1-128)*64+bt l 2-128)*64+bt l 3-128)&&isR ((((bt l 0-240)*64+bt l 1-128)*64+bt l 2-128)*64+bt l 3-128)) ((((bt l 0-240)*64+bt l 1-128)*64+bt l 2-128)*64+bt l 3-128,4) (0,0))
 (0,0)
theorem ptR_len (l:List UInt8) (h0:0<l.length):0≤(ptR l).2∧(ptR l).2.toNat≤l.length∧-1<(ptR l).1+1∧(ptR l).1<2000000000:=by
 have r0:=bt_lt l 0
 have r1:=bt_lt l 1
 have r2:=bt_lt l 2
 have r3:=bt_lt l 3
 unfold ptR
 cases e0:decide (bt l 0<128) with
 |true=>simp only[cond_true]; omega
 |false =>
  rw[cond_false]
  cases e1:(decide (194≤bt l 0)&&decide (bt l 0<224)&&tl l 1) with
  |true =>
   simp only[zA5,decide_eq_true_eq]at e1
   have:=tl_lt e1.2
   simp only[cond_true]
   omega
  |false =>
   rw[cond_false]
   cases e2:(decide (224≤bt l 0)&&decide (bt l 0<240)&&tl l 1&&tl l 2) with
   |true =>
    simp only[zA5,decide_eq_true_eq]at e2
    have t1:=tl_lt e2.1.2
    have t2:=tl_lt e2.2
    rw[cond_true]
    cases (decide (2048≤((bt l 0-224)*64+bt l 1-128)*64+bt l 2-128)&&isR (((bt l 0-224)*64+bt l 1-128)*64+bt l 2-128)) with
    |true=>simp only[cond_true]; omega
    |false=>simp only[cond_false]; omega
   |false =>
    rw[cond_false]
    cases e3:(decide (240≤bt l 0)&&decide (bt l 0<245)&&tl l 1&&tl l 2&&tl l 3) with
    |true =>
     simp only[zA5,decide_eq_true_eq]at e3
     have t1:=tl_lt e3.1.1.2
     have t2:=tl_lt e3.1.2
     have t3:=tl_lt e3.2
     rw[cond_true]
     cases (decide (65536≤(((bt l 0-240)*64+bt l 1-128)*64+bt l 2-128)*64+bt l 3-128)&&isR ((((bt l 0-240)*64+bt l 1-128)*64+bt l 2-128)*64+bt l 3-128)) with
     |true=>simp only[cond_true]; omega
     |false=>simp only[cond_false]; omega
    |false=>simp only[cond_false]; omega
def ptsF:Nat→List UInt8→Option (List Int)
 |0,l=>if l=[] then some [] else none
 |n+1,l=>if l=[] then some [] else if (ptR l).2=0 then none else (ptsF n (l.drop (ptR l).2.toNat)).map ((ptR l).1::·)
theorem ptsF_fuel:∀ (n m:Nat) (l:List UInt8),l.length≤n→l.length≤m→ptsF n l=ptsF m l
 |0,m,l,hn,_=>by
  have:l=[]:=zD0 (by omega)
  subst this
  cases m<;>rfl
 |n+1,0,l,_,hm=>by
  have:l=[]:=zD0 (by omega)
  subst this
  rfl
 |n+1,m+1,l,hn,hm=>by
  simp only[ptsF]
  by_cases h:l=[]
  ·rw[if_pos h,if_pos h]
  ·rw[if_neg h,if_neg h]
   by_cases h2:(ptR l).2=0
   ·rw[if_pos h2,if_pos h2]
   ·rw[if_neg h2,if_neg h2]
    have hp:0<l.length:=List.length_pos_iff.2 h
    have:=ptR_len l hp
    rw[ptsF_fuel n m _ (by rw[zC5]; omega) (by rw[zC5]; omega)]
def ptsR (l:List UInt8):Option (List Int):=ptsF l.length l
theorem ptsR_nil:ptsR []=some []:=rfl
theorem ptsR_step (l:List UInt8) (h:0<l.length):ptsR l=if (ptR l).2=0 then none else (ptsR (l.drop (ptR l).2.toNat)).map ((ptR l).1::·):=by
 unfold ptsR
 obtain⟨n,hn⟩:∃ n,l.length=n+1:=⟨l.length-1,by omega⟩
 rw[hn,ptsF,if_neg (fun e=>by rw[e]at h; simp at h)]
 by_cases h2:(ptR l).2=0
 ·rw[if_pos h2,if_pos h2]
 ·rw[if_neg h2,if_neg h2]
  have:=ptR_len l h
  rw[ptsF_fuel n _ _ (by rw[zC5]; omega) (zA4 _)]
theorem ptsR_len:∀ (n:Nat) (l:List UInt8) (r:List Int),l.length≤n→ptsR l=some r→r.length≤l.length
 |0,l,r,hn,h=>by
  have:l=[]:=zD0 (by omega)
  subst this
  rw[ptsR_nil]at h
  cases h
  simp
 |n+1,l,r,hn,h=>by
  by_cases h0:0<l.length
  ·rw[ptsR_step l h0]at h
   split at h
   ·cases h
   ·rename_i h2
    obtain⟨q,hq,rfl⟩:=zB0.1 h
    have hl:=ptR_len l h0
    have:=ptsR_len n _ q (by rw[zC5]; omega) hq
    rw[zC5]at this
    simp only[zB4]
    omega
  ·have:l=[]:=zD0 (by omega)
   subst this
   rw[ptsR_nil]at h
   cases h
   simp
def iv (l:List Int):List Value:=l.map (Value.int .i64)
theorem iv_sc (l:List Int) (n:Nat):scbL n (iv l)=true:=by induction l with|nil=>rfl|cons a l ih=>simp only[iv,zB9,scbL]at ih ⊢; rw[ih]; rfl
def LsOut (H H1:AHeap) (r:Option (List Int)) (out:Out):Prop :=
 match r with
 |none=>out=.ok (.tuple #[.slice none 0 0,.int .i64 5])
 |some l=>∃ v,out=.ok (.tuple #[v,.int .i64 0])∧VsAt H1 3 1 v (iv l) l.length∧∀ n∈idsV v,H.next≤n
theorem int_app {X:AHeap} {v:Value} {l:List Int} {c:Int} {x:Nat} (h:VsAt X 3 1 v (iv l) l.length) (hx:X.next=x) (hb:X.base≤X.next) (hlen:l.length≤1000000) :
  ∃ G,aBuiltin Tryd.prog (ext X [⟨3,false,[.int .i64 c]⟩]) .append ⟨[109,109]⟩ [v,.slice (some ⟨x+0,0,some 0⟩) 1 1]=some (.slice (some ⟨x+1,0,none⟩) (l.length+1) (l.length+1),ext G [])∧VsAt G 3 1 (.slice (some ⟨x+1,0,none⟩) (l.length+1) (l.length+1)) (iv (l++[c])) (l++[c]).length∧Mod (idsV v) X G∧G.next=x+2:=by
 have h2:VsAt (ext X [⟨3,false,[.int .i64 c]⟩]) 3 1 v (iv l) l.length:=h.of (by rw[ext_next]; omega) (fun n hn=>ext_get_old (h.ne n hn).2)
 have hk:bk (ext X [⟨3,false,[.int .i64 c]⟩]) (x+0)=some ⟨3,false,[.int .i64 c]⟩:=by rw[bk_at hx (by simp)]; rfl
 have hsm:small (l.length+1) 8=true:=by simp only[small,zA5,Nat.ble_eq]; omega
 obtain⟨G,k1,k2,k3,k4,_⟩:=vs_app (P:=Tryd.prog) (H:=ext X [⟨3,false,[.int .i64 c]⟩]) (st:=109) (xt:=109) (e:=3) (sz:=1) (by1:=8) (z:=.int .i64 0) (n:=x+0) (off:=0) (cnt2:=1) (cap:=1) (s:=some 0) (x:=x+1) (ws:=[.int .i64 c]) (b:=⟨3,false,[.int .i64 c]⟩)
  (by kernel_rfl) (by kernel_rfl) (by kernel_rfl) (by kernel_rfl) rfl (by kernel_rfl) h2 (rk_of hk) (by simp) rfl rfl (by decide) hsm (by rw[ext_next,hx]; rfl) (scbL_append (iv_sc _ _) rfl)
 have e1:iv l++[.int .i64 c]=iv (l++[c]):=by simp[iv]
 rw[e1]at k2
 refine⟨G,k1,by rw[zB7]; exact k2,(Mod.ext hb).trans (k3 ((Mod.ext (W:=[]) hb).ok hb)),k4⟩
theorem ints_ld {X:AHeap} {v8:Value} {l:List Int} {i:Nat} {c:Int} (h:VsAt X 3 1 v8 (iv l) l.length) (hc:l[i]?=some c):∃ n,v8=.slice (some ⟨n,0,none⟩) l.length l.length∧n<X.next∧bk X n=some ⟨3,true,iv l⟩∧(iv l)[i]?=some (.int .i64 c):=by
 have hi:i<l.length:=(zD4.1 hc).1
 obtain⟨_,_,⟨h0,_⟩|⟨_,n,e,hb,hlt⟩⟩:=h
 ·omega
 ·exact⟨n,e,hlt,hb,by simp[iv,hc]⟩
def St.text (W:Nat) (r:Option (List Int)) (x:St):Option St:=match r with
 |none=>none
 |some l=>if St.fits W l x.col=true then
   some {x with grid:=x.grid.set x.row.toNat (putAll x.pen l (x.grid.getD x.row.toNat []) x.col.toNat).1,col:=((putAll x.pen l (x.grid.getD x.row.toNat []) x.col.toNat).2:Nat)}
  else none
theorem fits_cons {W:Nat} {c:Int} {l:List Int} {n:Int} (h:St.fits W (c::l) n=true):cellsR c≠0∧n+cellsR c≤W∧St.fits W l (n+cellsR c)=true:=by
 rw[St.fits]at h
 split at h
 ·cases h
 ·rename_i hh
  simp only[Bool.or_eq_true,decide_eq_true_eq,not_or,Int.not_lt]at hh
  exact⟨hh.1,hh.2,h⟩
theorem putC_len (pen:Lk) (l:List Ce) (k:Nat) (c:Int):(putC pen l k c).length=l.length:=by
 unfold putC
 split<;>simp[setL_len]
theorem set_c (N:Nat) (H:AHeap) (p i k n:Nat) (v:Value) (rvs:List Value) (x:St) (l:List Ce) (c:Ce) (s:Option Nat) (cc:Nat) (a:StAt 76 N H p v rvs x) (hok:H.base≤H.next) (hi:x.row=(i:Int)) (hl:x.grid[i]?=some l) (hrv:rvs[i]?=some (.slice (some ⟨n,0,s⟩) l.length cc)) (hk:k<l.length) (hlen:l.length≤1000) (hgl:x.grid.length≤1000) :
  CallA Tryd.prog 106 [.pointer (some ⟨p,0,none⟩),.int .i64 (k:Int),c.val] H (fun out X=>out=.ok (.tuple ⟨[]⟩)∧StAt 76 N X p v rvs (x.setRow i (setL l k c))∧Mod [n] H X):=by
 obtain⟨b,hb⟩:∃ b,H.next=b:=⟨_,rfl⟩
 have hbase:H.base≤b:=hb▸hok
 have hpl:=a.lt
 rw[hb]at hpl
 have hcell:=a.cell
 simp only[St.cells,hi]at hcell
 have hil:i<x.grid.length:=(zD4.1 hl).1
 obtain⟨m,s1,c1,o1,ev,hbm,hNm,hml,hmn⟩:∃ m s1 c1 o1,v=.slice (some ⟨m,0,s1⟩) x.grid.length c1∧bk H m=some ⟨56,o1,rvs⟩∧N≤m∧m<H.next∧m∉rvs.flatMap idsV:=by
  rcases a.own.at_ with⟨h,_⟩|h
  ·rw[h]at hil; simp at hil
  ·exact h
 obtain⟨f,hbn,hNn,hnl⟩:∃ f,bk H n=some ⟨55,f,csOf l⟩∧N≤n∧n<H.next:=by
  obtain⟨n',s',c',f,e,h1,h2,h3⟩:=a.own.row i _ l hrv hl
  cases e
  exact⟨f,h1,h2,h3⟩
 subst ev
 rw[hb]at hml hnl
 have i1:=grid_ia (n:=m) (off:=0) (s:=s1) (cap:=c1) (i:=(i:Int)) (len:=x.grid.length) rfl hil
 have q1:ldB Tryd.prog 56 (0+i) (some ⟨56,o1,rvs⟩)=some (.slice (some ⟨n,0,s⟩) l.length cc):=grid_load (by rw[zB6]; exact hrv)
 refine callE_fn mixed Tryd.func106 rfl Tryd.ntmps106 (zA9 rfl) ?_
 simp (maxDischargeDepth:=6) only[hb,hbase,hpl,hcell,Ce.val,ruW,putL,Nat.reduceLeDiff,xF,ruU,entryE,Nat.reduceLT,Nat.reduceAdd,Nat.reduceMul,Nat.reduceEqDiff]
 refine w_drawB [] [] (by kernel_rfl) rfl rfl fun ops anc hA hG=>?_
 simp (maxDischargeDepth:=6) only[hb,hpl,hcell,hml,hbm,i1,q1,ruD,ruW,putL,Nat.reduceLeDiff,xF,ruU,entryE,Nat.reduceLT,Nat.reduceAdd,Nat.reduceMul,Nat.reduceEqDiff]
 obtain⟨q,hq⟩:∃ q,l[k]?=some q:=⟨_,zA6 hk⟩
 have ht:∀ l':List Ce,((csOf l').drop 0).take (l'.length*6)=csOf l':=fun l'=>by rw[zD6,zF1 (by rw[csOf_length]; exact zA4 _)]
 have ia:∀ (j:Nat) (z:Int),z=(j:Int)→j<l.length→aIndexAddr Tryd.prog 56 (.slice (some ⟨n,0,s⟩) l.length cc) (.int .i64 z)=some (.pointer (some ⟨n,0+j*6,none⟩)):=fun j z hz hj=>row_ia (n:=n) (off:=0) (s:=s) (cap:=cc) (i:=z) hz hj
 have i2:=ia k (k:Int) rfl hk
 have q2:=run_load (e:=55) (o:=f) hq (by rw[csOf_length]; omega) (ht l)
 have spv:∀ (l':List Ce) (j:Nat) (M:Nat),j<l'.length→stB Tryd.prog 55 M (0+j*6) (.agg ⟨[.int .i64 32,.int .i64 0,.int .i64 0,.bool false,.bool false,.bool false]⟩) (some ⟨55,f,csOf l'⟩)=some ⟨55,f,csOf (l'.set j Ce.sp)⟩:=fun l' j M hj=>by
  rw[zB6]
  exact stB_cell (c:=Ce.sp) hj
 obtain⟨d1,hd1⟩:∃ d,decide (q.rune=-1)=d:=⟨_,rfl⟩
 obtain⟨d2,hd2⟩:∃ d,decide ((0:Int)<(k:Int))=d:=⟨_,rfl⟩
 have hh:halfL l k=if (d1&&d2)=true then l.set (k-1) Ce.sp else l:=by
  have e1:(l.getD k Ce.sp).rune=q.rune:=by rw[zC9,hq]; rfl
  unfold halfL
  rw[e1,←hd1,←hd2]
  by_cases h1:q.rune=-1<;>by_cases h2:0<k<;>simp[h1,h2]
 have hw1:IntKind.i64.wrap ((k:Int)+1)=((k+1:Nat):Int):=wrap_succ (by omega)
 have hpn:p≠n:=fun e=>a.apart (by rw[e]; exact zE2 _ (zC6.2 ⟨_,zC1 hrv,by simp[idsV]⟩))
 have fin:∀ (G:AHeap) (l2:List Ce) (L:List Bl),Mod [n] H G→bk G n=some ⟨55,f,csOf l2⟩→l2.length=l.length→halfR (halfL l k) k=l2→StAt 76 N (ext (uw G n (0+k*6) c.cells) L) p (.slice (some ⟨m,0,s1⟩) x.grid.length c1) rvs (x.setRow i (setL l k c))∧Mod [n] H (ext (uw G n (0+k*6) c.cells) L):=fun G l2 L mG hG hl2 hh2=>by
  have m1:Mod [n] H (uw G n (0+k*6) c.cells):=mG.trans (Mod.uw (by simp))
  have m2:=m1.trans (Mod.ext (W:=[n]) (L:=L) (m1.ok hok))
  have hbX:bk (ext (uw G n (0+k*6) c.cells) L) n=some ⟨55,f,csOf (l2.set k c)⟩:=by
   rw[bk_old (by rw[uw_next]; have:=mG.next; omega),bk_uw_eq,hG,←csOf_set l2 k c (by omega),zB6]
   rfl
  have e3:setL l k c=l2.set k c:=by rw[setL,hh2]
  have o2:=a.own.set (k:=i) (n:=n) hrv hl (l':=l2.set k c) (by rw[List.length_set]; exact hl2) hbX m2
  rw[←e3]at o2
  exact⟨⟨(m2.bk a.lt (by simpa using hpn)).trans a.cell,o2,a.apart,m2.lt a.lt,a.lo⟩,m2⟩
 have spq:∀ (G:AHeap) (l1:List Ce),bk G n=some ⟨55,f,csOf l1⟩→l1.length=l.length→k+1<l.length→∃ q3,l1[k+1]?=some q3∧ldB Tryd.prog 3 (0+(k+1)*6) (some ⟨55,f,csOf l1⟩)=some (.int .i64 q3.rune)∧halfR l1 k=if decide (q3.rune=-1)=true then l1.set (k+1) Ce.sp else l1:=fun G l1 hG hl1 h1=>by
  obtain⟨q3,hq3⟩:∃ q3,l1[k+1]?=some q3:=⟨_,zA6 (by omega)⟩
  refine⟨q3,hq3,run_load hq3 (by rw[csOf_length]; omega) (ht l1),?_⟩
  have e1:(l1.getD (k+1) Ce.sp).rune=q3.rune:=by rw[zC9,hq3]; rfl
  unfold halfR
  rw[e1]
  by_cases h:q3.rune=-1<;>simp[h]
 have hRo:∀ l1:List Ce,l1.length=l.length→¬k+1<l.length→halfR l1 k=l1:=fun l1 hl1 h1=>by
  unfold halfR
  rw[if_neg]
  rw[zC9,zE0 (by omega)]
  decide
 have stc:∀ (l':List Ce) (M:Nat),k<l'.length→stB Tryd.prog 55 M (0+k*6) (.agg ⟨[.int .i64 c.rune,.int .i64 c.fore,.int .i64 c.back,.bool c.bold,.bool c.under,.bool c.inv]⟩) (some ⟨55,f,csOf l'⟩)=some ⟨55,f,csOf (l'.set k c)⟩:=fun l' M hj=>by
  rw[zB6]
  exact stB_cell hj
 have pu:∀ (l1:List Ce) (j:Nat),j<l1.length→putL (csOf l1) (0+j*6) [.int .i64 32,.int .i64 0,.int .i64 0,.bool false,.bool false,.bool false]=csOf (l1.set j Ce.sp):=fun l1 j hj=>by
  rw[zB6]
  exact csOf_set l1 j Ce.sp hj
 have upu:∀ (G:AHeap) (l1:List Ce) (j:Nat),bk G n=some ⟨55,f,csOf l1⟩→j<l1.length→∀ vs,vs=Ce.sp.cells→bk (uw G n (0+j*6) vs) n=some ⟨55,f,csOf (l1.set j Ce.sp)⟩:=fun G l1 j hG hj vs hvs=>by
  rw[hvs,bk_uw_eq,hG,←pu l1 j hj]
  rfl
 by_cases hdd:(d1&&d2)=true
 ·obtain⟨rfl,rfl⟩:d1=true∧d2=true:=by cases d1<;>cases d2<;>simp_all
  have hk0:0<k:=by have:=of_decide_eq_true hd2; omega
  have hw2:IntKind.i64.wrap ((k:Int)-1)=((k-1:Nat):Int):=(wrap_sm (by omega) (by omega)).trans (by omega)
  have i3:=ia (k-1) ((k-1:Nat):Int) rfl (by omega)
  replace hh:halfL l k=l.set (k-1) Ce.sp:=hh.trans (if_pos rfl)
  simp (maxDischargeDepth:=6) only[hb,hnl,hbn,i2,q2,hd1,hd2,hw1,hw2,i3,spv l (k-1) _ (by omega),ruW,putL,Nat.reduceLeDiff,xF,ruU,entryE,Nat.reduceLT,Nat.reduceAdd,Nat.reduceMul,Nat.reduceEqDiff]
  generalize hG:uw H n _ _=G
  have mG:Mod [n] H G:=hG▸Mod.uw (by simp)
  have hGn:G.next=b:=by rw[←hG,uw_next,hb]
  have bG:bk G n=some ⟨55,f,csOf (l.set (k-1) Ce.sp)⟩:=hG▸upu H l (k-1) hbn (by omega) _ rfl
  generalize hl1:l.set (k-1) Ce.sp=l1 at hh bG ⊢
  have hl1l:l1.length=l.length:=by rw[←hl1]; simp
  by_cases h1:k+1<l.length
  ·have c1':decide (((k+1:Nat):Int)<(l.length:Int))=true:=decide_eq_true (by omega)
   obtain⟨q3,hq3,r3,hR⟩:=spq G l1 bG hl1l h1
   have i4:=ia (k+1) ((k+1:Nat):Int) rfl h1
   obtain⟨d3,hd3⟩:∃ d,decide (q3.rune=-1)=d:=⟨_,rfl⟩
   rw[hd3]at hR
   cases d3 with
   |true =>
    replace hR:=hR.trans (if_pos rfl)
    simp (maxDischargeDepth:=6) only[hGn,hnl,bG,c1',hw1,i2,i4,r3,hd3,spv l1 (k+1) _ (by omega),pu l1 (k+1) (by omega),stc (l1.set (k+1) Ce.sp) _ (by rw[List.length_set]; omega),Tryd.results106,ruW,putL,Nat.reduceLeDiff,xF,ruU,entryE,Nat.reduceLT,Nat.reduceAdd,Nat.reduceMul,Nat.reduceEqDiff]
    refine⟨trivial,fin _ _ _ (mG.trans (Mod.uw (by simp))) (upu G l1 (k+1) bG (by omega) _ rfl) (by rw[List.length_set]; exact hl1l) (by rw[hh]; exact hR)⟩
   |false =>
    replace hR:=hR.trans (if_neg (by decide))
    simp (maxDischargeDepth:=6) only[hGn,hnl,bG,c1',hw1,i2,i4,r3,hd3,stc l1 _ (by omega),Tryd.results106,ruW,putL,Nat.reduceLeDiff,xF,ruU,entryE,Nat.reduceLT,Nat.reduceAdd,Nat.reduceMul,Nat.reduceEqDiff]
    exact⟨trivial,fin _ _ _ mG bG hl1l (by rw[hh]; exact hR)⟩
  ·have c1':decide (((k+1:Nat):Int)<(l.length:Int))=false:=decide_eq_false (by omega)
   simp (maxDischargeDepth:=6) only[hGn,hnl,bG,c1',hw1,i2,stc l1 _ (by omega),Tryd.results106,ruW,putL,Nat.reduceLeDiff,xF,ruU,entryE,Nat.reduceLT,Nat.reduceAdd,Nat.reduceMul,Nat.reduceEqDiff]
   exact⟨trivial,fin _ _ _ mG bG hl1l (by rw[hh]; exact hRo l1 hl1l h1)⟩
 ·replace hh:halfL l k=l:=hh.trans (if_neg hdd)
  have hds:d2=false∨(d2=true∧d1=false):=by cases d1<;>cases d2<;>simp_all
  by_cases h1:k+1<l.length
  ·have c1':decide (((k+1:Nat):Int)<(l.length:Int))=true:=decide_eq_true (by omega)
   obtain⟨q3,hq3,r3,hR⟩:=spq H l hbn rfl h1
   have i4:=ia (k+1) ((k+1:Nat):Int) rfl h1
   obtain⟨d3,hd3⟩:∃ d,decide (q3.rune=-1)=d:=⟨_,rfl⟩
   rw[hd3]at hR
   cases d3 with
   |true =>
    replace hR:=hR.trans (if_pos rfl)
    rcases hds with rfl|⟨rfl,rfl⟩
    all_goals
     simp (maxDischargeDepth:=6) only[hb,hnl,hbn,c1',hw1,i2,q2,hd1,hd2,i4,r3,hd3,spv l (k+1) _ (by omega),pu l (k+1) (by omega),stc (l.set (k+1) Ce.sp) _ (by rw[List.length_set]; omega),Tryd.results106,ruW,putL,Nat.reduceLeDiff,xF,ruU,entryE,Nat.reduceLT,Nat.reduceAdd,Nat.reduceMul,Nat.reduceEqDiff]
     exact⟨trivial,fin _ _ _ (Mod.uw (by simp)) (upu H l (k+1) hbn (by omega) _ rfl) (by rw[List.length_set]) (by rw[hh]; exact hR)⟩
   |false =>
    replace hR:=hR.trans (if_neg (by decide))
    rcases hds with rfl|⟨rfl,rfl⟩
    all_goals
     simp (maxDischargeDepth:=6) only[hb,hnl,hbn,c1',hw1,i2,q2,hd1,hd2,i4,r3,hd3,stc l _ hk,Tryd.results106,ruW,putL,Nat.reduceLeDiff,xF,ruU,entryE,Nat.reduceLT,Nat.reduceAdd,Nat.reduceMul,Nat.reduceEqDiff]
     exact⟨trivial,fin _ _ _ Mod.refl hbn rfl (by rw[hh]; exact hR)⟩
  ·have c1':decide (((k+1:Nat):Int)<(l.length:Int))=false:=decide_eq_false (by omega)
   rcases hds with rfl|⟨rfl,rfl⟩
   all_goals
    simp (maxDischargeDepth:=6) only[hb,hnl,hbn,c1',hw1,i2,q2,hd1,hd2,stc l _ hk,Tryd.results106,ruW,putL,Nat.reduceLeDiff,xF,ruU,entryE,Nat.reduceLT,Nat.reduceAdd,Nat.reduceMul,Nat.reduceEqDiff]
    exact⟨trivial,fin _ _ _ Mod.refl hbn rfl (by rw[hh]; exact hRo l rfl h1)⟩
set_option maxRecDepth 100000
abbrev fstD:DataW Unit:=Rows.laid_unicode_utf8_first
abbrev accD:DataW Unit:=Rows.laid_unicode_utf8_acceptRanges
def Tab (H:AHeap):Prop:=∃ e1 e2,bk H 0=some ⟨e1,false,dc fstD⟩∧bk H 1=some ⟨e2,false,dc accD⟩
theorem Tab.of {H G:AHeap} (t:Tab H) (h0:G.get 0=H.get 0) (h1:G.get 1=H.get 1):Tab G:=by
 obtain⟨e1,e2,a,b⟩:=t
 exact⟨e1,e2,(bk_get h0).trans a,(bk_get h1).trans b⟩
def rhoV:Go.Shelf.Ren:=⟨fun n=>if n=196 then 97 else if n=259 then 111 else 0,fun n=>if n=46 then 118 else if n=53 then 135 else if n=119 then 142 else if n=138 then 144 else if n=139 then 145 else n,fun n=>n-3⟩
theorem laysV:Go.Proofs.Lays.n196 Tryd.prog rhoV:=by
 constructor
 all_goals first
  |exact mixed
  |kernel_rfl
  |(intro w; kernel_rfl)
theorem fst_list:dc fstD=(List.range 256).map fun c=>Value.int .u8 ((Go.Lib.firstT c:Nat):Int):=by kernel_rfl
theorem acc_list:dc accD=(List.range 16).flatMap fun i=>[Value.int .u8 ((Go.Lib.accLo i:Nat):Int),Value.int .u8 ((Go.Lib.accHi i:Nat):Int)]:=by kernel_rfl
theorem pairs_get {f g:Nat→Value}:∀ (n k:Nat) (i:Nat),i<n→(((List.range' k n).flatMap fun j=>[f j,g j])[2*i]?=some (f (k+i))∧((List.range' k n).flatMap fun j=>[f j,g j])[2*i+1]?=some (g (k+i)))
 |0,_,_,h=>absurd h (by omega)
 |n+1,k,0,_=>by rw[List.range'_succ]; exact⟨rfl,rfl⟩
 |n+1,k,i+1,h=>by
  rw[List.range'_succ]
  have:=pairs_get (f:=f) (g:=g) n (k+1) i (by omega)
  rw[show k+1+i=k+(i+1) by omega]at this
  exact this
theorem tabs_world {ρ:Go.Ax.Ren} {H:AHeap} {w:World} (r:Rel Tryd.prog ρ H w) (t:Tab H):Go.Lib.Utf8Tabs 0 1 w:=by
 obtain⟨e1,e2,h1,h2⟩:=t
 obtain⟨c1,a1,b1⟩:=tab_world r (show 0<Tryd.prog.globals.size by decide +kernel) h1 (by kernel_rfl)
 obtain⟨c2,a2,b2⟩:=tab_world r (show 1<Tryd.prog.globals.size by decide +kernel) h2 (by kernel_rfl)
 refine⟨fun c hc=>?_,fun i hi=>?_⟩
 ·simp only[World.cell?,a1]
  rw[←Array.getElem?_toList,b1,fst_list,List.getElem?_map,List.getElem?_range hc]
  rfl
 ·have:=pairs_get (f:=fun i=>Value.int .u8 ((Go.Lib.accLo i:Nat):Int)) (g:=fun i=>Value.int .u8 ((Go.Lib.accHi i:Nat):Int)) 16 0 i hi
  rw[zB6]at this
  simp only[World.cell?,a2]
  rw[←Array.getElem?_toList,←Array.getElem?_toList,b2,acc_list,List.range_eq_range']
  exact⟨by simpa using this.1,by simpa using this.2⟩
theorem validString_c (H:AHeap) (t:Tab H) (s:ByteArray) (hs:s.size≤9223372036854775807):Pure 97 [.string s] H (.bool (Go.Lib.validD s.data.toList)):=by
 intro ρ w r hsc F n R hF hR
 have hc:=Go.Proofs.Any.utf8_ValidString laysV s w hs (tabs_world r t)
 have e1:[Value.string s].map ρ.val=[Value.string s]:=map_af ρ _ (fun x hx=>by simp only[zA8]at hx; subst hx; rfl)
 rw[e1]
 refine (hF.calls hc).mono ?_
 rintro e w' ⟨rfl,hb⟩
 have:=hR ρ w' (St.below r hb) rfl
 rwa [val_af ρ _ rfl]at this
theorem valid_c (H:AHeap) (t:Tab H) (s:ByteArray) (hs:s.size≤9223372036854775807):Pure 74 [.string s] H (.bool (Go.Lib.validD s.data.toList)):=by
 refine callS_fn mixed Tryd.func74 rfl Tryd.ntmps74 (zA9 rfl) fun wf hsc=>?_
 simp (maxDischargeDepth:=6) only[ruW,putL,Nat.reduceLeDiff,xF,ruU,entryE,Nat.reduceLT,Nat.reduceAdd,Nat.reduceMul,Nat.reduceEqDiff]
 refine (validString_c (ext H []) t s hs).to ?_
 simp (maxDischargeDepth:=6) only[Tryd.results74,ruW,putL,Nat.reduceLeDiff,xF,ruU,entryE,Nat.reduceLT,Nat.reduceAdd,Nat.reduceMul,Nat.reduceEqDiff]
 exact Fin.pureE rfl rfl
theorem tl_iff (l:List UInt8) (i:Nat):tl l i=true ↔ (i<l.length∧(l.getD i 0).toNat / 64=2):=by
 constructor
 ·intro hh
  have h:=tl_lt hh
  unfold bt at h
  omega
 ·intro hh
  simp only[tl,zA5,decide_eq_true_eq]
  unfold bt
  omega
theorem pt_dec (l:List UInt8) (h:0<l.length):((ptR l).2=0∧(Go.Lib.decodeL l).1=65533∧(Go.Lib.decodeL l).2=1) ∨
  ((ptR l).2≠0∧(ptR l).1=((Go.Lib.decodeL l).1:Int)∧(ptR l).2=((Go.Lib.decodeL l).2:Int)∧¬((Go.Lib.decodeL l).1=65533∧(Go.Lib.decodeL l).2=1)):=by
 rw[Go.Lib.decodeL_N]
 have r0:=(l.getD 0 0).toNat_lt
 have r1:=(l.getD 1 0).toNat_lt
 have r2:=(l.getD 2 0).toNat_lt
 have r3:=(l.getD 3 0).toNat_lt
 have t1:=tl_iff l 1
 have t2:=tl_iff l 2
 have t3:=tl_iff l 3
 unfold ptR isR Go.Lib.decodeN
 simp only[Bool.cond_eq_ite,zA5,Bool.not_eq_true',decide_eq_true_eq,Bool.and_eq_false_iff,decide_eq_false_iff_not]
 rw[show bt l 0=((l.getD 0 0).toNat:Int) from rfl,show bt l 1=((l.getD 1 0).toNat:Int) from rfl,show bt l 2=((l.getD 2 0).toNat:Int) from rfl,show bt l 3=((l.getD 3 0).toNat:Int) from rfl]
 generalize (l.getD 0 0).toNat=b0 at *
 generalize (l.getD 1 0).toNat=b1 at *
 generalize (l.getD 2 0).toNat=b2 at *
 generalize (l.getD 3 0).toNat=b3 at *
 generalize tl l 1=c1 at *
 generalize tl l 2=c2 at *
 generalize tl l 3=c3 at *
 generalize l.length=n at *
 by_cases h1:b0<128
 ·rw[if_pos (by omega),if_pos h1]
  dsimp only
  omega
 rw[if_neg (by omega)]
 by_cases h4:194≤b0∧b0<224
 ·by_cases hc:c1=true
  ·have a1:=t1.1 hc
   rw[if_pos ⟨⟨by omega,by omega⟩,hc⟩,if_neg h1,if_pos ⟨by omega,a1⟩,if_pos (by omega)]
   dsimp only
   omega
  ·rw[if_neg (fun hh=>hc hh.2),if_neg (by intro hh; omega),if_neg (by intro hh; omega),if_neg h1,if_neg (fun hh=>hc (t1.2 hh.2)),if_neg (by omega),if_neg (by omega)]
   dsimp only
   omega
 rw[if_neg (by intro hh; omega)]
 by_cases h5:224≤b0∧b0<240
 ·by_cases hc:c1=true∧c2=true
  ·have a1:=t1.1 hc.1
   have a2:=t2.1 hc.2
   rw[if_pos ⟨⟨⟨by omega,by omega⟩,hc.1⟩,hc.2⟩,if_neg h1,if_neg (show ¬(b0 / 32=6∧(1<n∧b1 / 64=2)) by omega),if_pos (show (b0 / 16=14∧(1<n∧b1 / 64=2)∧(2<n∧b2 / 64=2)) from⟨by omega,a1,a2⟩)]
   have hz:((b0:Int)-224)*64+b1-128=(((b0-224)*64+(b1-128):Nat):Int):=by omega
   have hy:((((b0-224)*64+(b1-128):Nat):Int))*64+b2-128=((b0 % 16*4096+b1 % 64*64+b2 % 64:Nat):Int):=by omega
   rw[hz,hy]
   generalize b0 % 16*4096+b1 % 64*64+b2 % 64=z
   by_cases hz:z ≥ 2048∧(z<55296∨57344≤z∧z≤1114111)
   ·rw[if_pos (by omega),if_pos hz]
    dsimp only
    omega
   ·rw[if_neg (by omega),if_neg hz]
    dsimp only
    omega
  ·rw[if_neg (fun hh=>hc ⟨hh.1.2,hh.2⟩),if_neg (by intro hh; omega),if_neg h1,if_neg (show ¬(b0 / 32=6∧(1<n∧b1 / 64=2)) by omega),if_neg (show ¬(b0 / 16=14∧(1<n∧b1 / 64=2)∧(2<n∧b2 / 64=2)) from fun hh=>hc ⟨t1.2 hh.2.1,t2.2 hh.2.2⟩),if_neg (show ¬(b0 / 8=30∧(1<n∧b1 / 64=2)∧(2<n∧b2 / 64=2)∧(3<n∧b3 / 64=2)) by omega)]
   dsimp only
   omega
 rw[if_neg (by intro hh; omega)]
 by_cases h6:240≤b0∧b0<245
 ·by_cases hc:c1=true∧c2=true∧c3=true
  ·have a1:=t1.1 hc.1
   have a2:=t2.1 hc.2.1
   have a3:=t3.1 hc.2.2
   rw[if_pos ⟨⟨⟨⟨by omega,by omega⟩,hc.1⟩,hc.2.1⟩,hc.2.2⟩,if_neg h1,if_neg (show ¬(b0 / 32=6∧(1<n∧b1 / 64=2)) by omega),if_neg (show ¬(b0 / 16=14∧(1<n∧b1 / 64=2)∧(2<n∧b2 / 64=2)) by omega),if_pos (show (b0 / 8=30∧(1<n∧b1 / 64=2)∧(2<n∧b2 / 64=2)∧(3<n∧b3 / 64=2)) from⟨by omega,a1,a2,a3⟩)]
   have hz:((b0:Int)-240)*64+b1-128=(((b0-240)*64+(b1-128):Nat):Int):=by omega
   have hy:((((b0-240)*64+(b1-128):Nat):Int))*64+b2-128=(((b0-240)*4096+(b1-128)*64+(b2-128):Nat):Int):=by omega
   have hx:((((b0-240)*4096+(b1-128)*64+(b2-128):Nat):Int))*64+b3-128=((b0 % 8*262144+b1 % 64*4096+b2 % 64*64+b3 % 64:Nat):Int):=by omega
   rw[hz,hy,hx]
   generalize b0 % 8*262144+b1 % 64*4096+b2 % 64*64+b3 % 64=z
   by_cases hz:z ≥ 65536∧(z<55296∨57344≤z∧z≤1114111)
   ·rw[if_pos (by omega),if_pos hz]
    dsimp only
    omega
   ·rw[if_neg (by omega),if_neg hz]
    dsimp only
    omega
  ·rw[if_neg (fun hh=>hc ⟨hh.1.1.2,hh.1.2,hh.2⟩),if_neg h1,if_neg (show ¬(b0 / 32=6∧(1<n∧b1 / 64=2)) by omega),if_neg (show ¬(b0 / 16=14∧(1<n∧b1 / 64=2)∧(2<n∧b2 / 64=2)) by omega),if_neg (show ¬(b0 / 8=30∧(1<n∧b1 / 64=2)∧(2<n∧b2 / 64=2)∧(3<n∧b3 / 64=2)) from fun hh=>hc ⟨t1.2 hh.2.1,t2.2 hh.2.2.1,t3.2 hh.2.2.2⟩)]
   dsimp only
   omega
 rw[if_neg (by intro hh; omega),if_neg h1]
 repeat' split
 all_goals (dsimp only; omega)
theorem valid_pts:∀ (n:Nat) (l:List UInt8),l.length≤n→Go.Lib.validD l=(ptsR l).isSome
 |0,l,hn=>by
  have:l=[]:=zD0 (by omega)
  subst this
  rfl
 |n+1,l,hn=>by
  by_cases h0:0<l.length
  ·have hne:l≠[]:=fun e=>by rw[e]at h0; simp at h0
   rw[Go.Lib.validD_step l hne,ptsR_step l h0]
   have hl:=ptR_len l h0
   rcases pt_dec l h0 with⟨h1,h2,h3⟩|⟨h1,h2,h3,h4⟩
   ·rw[if_pos ⟨h2,h3⟩,if_pos h1]
    rfl
   ·rw[if_neg h4,if_neg h1,Option.isSome_map]
    have e:(Go.Lib.decodeL l).2=(ptR l).2.toNat:=by omega
    rw[e]
    exact valid_pts n _ (by rw[zC5]; omega)
  ·have:l=[]:=zD0 (by omega)
   subst this
   rfl
theorem list_c (H:AHeap) (t:Tab H) (s:ByteArray) (hlen:s.data.toList.length≤100000) (hok:H.base≤H.next):CallA Tryd.prog 105 [.string s] H (fun out H1=>Mod [] H H1∧LsOut H H1 (ptsR s.data.toList) out):=by
 obtain⟨r,hr⟩:∃ r,ptsR s.data.toList=r:=⟨_,rfl⟩
 have hv:=valid_c (ext H []) t s (by rw[size_len]; omega)
 rw[valid_pts _ _ (zA4 _),hr]at hv
 have hcv:∀ (X:AHeap) (m:Int),aConvert Tryd.prog X 21 3 (.int .i32 m)=some (.int .i64 (IntKind.i64.wrap m),X):=fun X m=>cv_int (u:=.int .i32) (by kernel_rfl) (by kernel_rfl)
 refine callE_fn mixed Tryd.func105 rfl Tryd.ntmps105 (zA9 rfl) ?_
 simp (maxDischargeDepth:=6) only[ruW,putL,Nat.reduceLeDiff,xF,ruU,entryE,Nat.reduceLT,Nat.reduceAdd,Nat.reduceMul,Nat.reduceEqDiff]
 refine hv.to ?_
 rw[hr]
 cases hr0:r with
 |none =>
  simp (maxDischargeDepth:=6) only[Option.isSome_none,Tryd.results105,ruW,putL,Nat.reduceLeDiff,xF,ruU,entryE,Nat.reduceLT,Nat.reduceAdd,Nat.reduceMul,Nat.reduceEqDiff]
  exact⟨Mod.refl,rfl⟩
 |some r0 =>
  rw[←hr0]
  have hsome:r.isSome=true:=by rw[hr0]; rfl
  have e1:=range_str (H:=ext H []) (s:=s) u9
  simp (maxDischargeDepth:=6) only[hr0,Option.isSome_some,w_rangeS,e1,ruW,putL,Nat.reduceLeDiff,xF,ruU,entryE,Nat.reduceLT,Nat.reduceAdd,Nat.reduceMul,Nat.reduceEqDiff]
  refine w_env fun E hE=>?_
  have g4:E 4=.slice none 0 0:=by rw[hE]; simp only[ruU,entryE,Nat.reduceLT,Nat.reduceAdd,Nat.reduceMul,Nat.reduceEqDiff]
  have g11:E 11=.pointer (some ⟨H.next,0,none⟩):=by rw[hE]; (simp only[ruU,entryE,Nat.reduceLT,Nat.reduceAdd,Nat.reduceMul,Nat.reduceEqDiff]<;>rfl)
  clear hE
  refine blockC_meet (fun E' X=>Mod [] H X∧∃ v l,r=some l∧E' 4=v∧VsAt X 3 1 v (iv l) l.length∧∀ n∈idsV v,H.next≤n) ?_ ?_
  ·refine w_loop (fun (q:Nat × List Int × Value) E' X=>Mod [] H X∧X.get H.next=some (itO s q.1)∧H.next<X.next∧r=(ptsR (s.data.toList.drop q.1)).map (q.2.1++·)∧q.2.1.length≤q.1∧q.1≤s.data.toList.length∧E' 11=.pointer (some ⟨H.next,0,none⟩)∧E' 4=q.2.2∧VsAt X 3 1 q.2.2 (iv q.2.1) q.2.1.length∧∀ n∈idsV q.2.2,H.next<n) (fun q=>s.data.toList.length-q.1) (0,[],.slice none 0 0)
    ⟨Mod.new hok,by rw[AHeap.get_new,if_pos (show H.next=(ext H []).next from rfl)],zC7 _,by rw[←hr]; simp,zA4 _,zB2 _,g11,g4,VsAt.nil,fun n hn=>by simp[idsV]at hn⟩ ?_
   clear g4 g11 E
   rintro⟨p,l,v⟩ E X ⟨m,hit,hlt,hrr,hlp,hps,g11,g4,hva,hid⟩
   simp only at hit hrr hlp hps g11 g4 hva hid
   rw[show X=ext X [] from rfl]
   by_cases h0:p<s.data.toList.length
   ·have hl0:0<(s.data.toList.drop p).length:=by rw[zC5]; omega
    have hpt:=ptR_len _ hl0
    have hdec:=pt_dec _ hl0
    rw[Go.Lib.decodeL_drop]at hdec
    rw[ptsR_step _ hl0]at hrr
    obtain⟨c,n,hcn⟩:∃ c n,ptR (s.data.toList.drop p)=(c,n):=⟨_,_,rfl⟩
    rw[hcn]at hpt hdec hrr
    simp only at hpt hdec hrr
    by_cases hn:n=0
    ·rw[if_pos hn]at hrr
     rw[hrr]at hsome
     cases hsome
    rw[if_neg hn]at hrr
    obtain⟨h1,h2,h3,h4⟩:=hdec.resolve_left (fun h=>hn h.1)
    have hnx:=next_str (H:=ext X []) (n:=H.next) (p:=p) (s:=s) hit (by rw[size_len]; exact h0)
    obtain⟨Y,hY⟩:∃ Y,X.upd H.next (some (itO s (p+(Utf8.decode s p).2)))=Y:=⟨_,rfl⟩
    have mY:Mod [H.next] X Y:=hY▸Mod.upd (by simp)
    have hYn:Y.next=X.next:=by rw[←hY]; rfl
    have hYit:Y.get H.next=some (itO s (p+(Utf8.decode s p).2)):=by rw[←hY,AHeap.get_upd,if_pos rfl]
    rw[show (ext X []).upd H.next (some (itO s (p+(Utf8.decode s p).2)))=ext Y [] from hY,←h2]at hnx
    rw[←hY]at mY
    rw[hY]at mY
    obtain⟨x,hx⟩:∃ x,Y.next=x:=⟨_,rfl⟩
    have hxb:Y.base≤Y.next:=mY.ok (m.ok hok)
    have hvY:VsAt Y 3 1 v (iv l) l.length:=hva.of (by omega) (fun q hq=>mY.get q (hva.ne q hq).2 (by simp only[zA8]; have:=hid q hq; omega))
    have hw:IntKind.i64.wrap c=c:=wrap_sm (by omega) (by omega)
    obtain⟨G,k1,k2,k3,k4⟩:=int_app (c:=c) hvY hx hxb (by omega)
    simp (maxDischargeDepth:=6) only[g4,g11,w_nextS,hnx,ruW,putL,Nat.reduceLeDiff,xF,ruU,entryE,Nat.reduceLT,Nat.reduceAdd,Nat.reduceMul,Nat.reduceEqDiff]
    simp (maxDischargeDepth:=6) only[g4,g11,hx,hxb,w_convert,hcv,hw,k1,ruW,putL,Nat.reduceLeDiff,xF,ruU,entryE,Nat.reduceLT,Nat.reduceAdd,Nat.reduceMul,Nat.reduceEqDiff]
    refine loopC_next ⟨(p+n.toNat,l++[c],.slice (some ⟨x+1,0,none⟩) (l.length+1) (l.length+1)),?_,?_,?_,?_,?_,?_,?_,?_,?_,?_,?_⟩
    ·simp only; omega
    ·exact (m.step mY hok (fun q hq=>.inr (by simp only[zA8]at hq; omega))).step k3 hok (fun q hq=>.inr (Nat.le_of_lt (hid q hq)))
    ·have hnv:H.next∉idsV v:=fun h=>absurd (hid _ h) (Nat.lt_irrefl _)
     rw[show (ext G []).get H.next=G.get H.next from rfl,k3.get H.next (by omega) hnv,hYit]
     rw[show (Utf8.decode s p).2=n.toNat by omega]
    ·rw[show (ext G []).next=G.next from rfl,k4]; omega
    ·rw[hrr,Option.map_map,zG0]
     congr 1
     funext y
     simp
    ·simp only[zB7,zB4,zC3]; omega
    ·rw[zC5]at hpt; omega
    ·simp only[g4,g11,ruU,entryE,Nat.reduceLT,Nat.reduceAdd,Nat.reduceMul,Nat.reduceEqDiff]
    ·simp only[g4,g11,ruU,entryE,Nat.reduceLT,Nat.reduceAdd,Nat.reduceMul,Nat.reduceEqDiff]
    ·exact k2
    ·intro q hq
     simp only[idsV,zA8]at hq
     omega
   ·have hnx:=next_end (H:=ext X []) (n:=H.next) (p:=p) (s:=s) hit (by rw[size_len]; exact h0)
    rw[zE3 (by omega),ptsR_nil]at hrr
    simp (maxDischargeDepth:=6) only[g4,g11,w_nextS,hnx,ruW,putL,Nat.reduceLeDiff,xF,ruU,entryE,Nat.reduceLT,Nat.reduceAdd,Nat.reduceMul,Nat.reduceEqDiff]
    exact joinR_normal ⟨m,v,l,by rw[hrr]; simp,g4,hva,fun q hq=>Nat.le_of_lt (hid q hq)⟩
  clear g4 g11 E
  rintro E X ⟨m,v,l,hrl,g4,hva,hid⟩
  rw[show X=ext X [] from rfl]
  simp (maxDischargeDepth:=6) only[g4,Tryd.results105,ruW,putL,Nat.reduceLeDiff,xF,ruU,entryE,Nat.reduceLT,Nat.reduceAdd,Nat.reduceMul,Nat.reduceEqDiff]
  have e:r0=l:=Option.some.inj (hr0.symm.trans hrl)
  subst e
  exact⟨m,v,rfl,hva,hid⟩
theorem Tab.modN {N:Nat} {H X:AHeap} (t:Tab H) (m:ModN N H X) (hN:2≤N) (hn:2≤H.next):Tab X:=by
 obtain⟨W,h,m⟩:=m
 exact t.of (m.get 0 (by omega) fun h0=>by have:=h 0 h0; omega) (m.get 1 (by omega) fun h0=>by have:=h 1 h0; omega)
theorem text_c (N:Nat) (H:AHeap) (p W:Nat) (v:Value) (rvs:List Value) (x:St) (o:Op) (a:StAt 76 N H p v rvs x) (sl:Slc v) (t:Tab H) (hN:2≤N) (hok:H.base≤H.next) (ok:x.Ok W) (hlen:o.text.data.toList.length≤1000) :
  CallA Tryd.prog 91 [.pointer (some ⟨p,0,none⟩),o.val] H (StepR 76 N p (x.text W (ptsR o.text.data.toList)) H):=by
 obtain⟨r,hr⟩:∃ r,ptsR o.text.data.toList=r:=⟨_,rfl⟩
 have h2n:2≤H.next:=by have:=a.lt; have:=a.lo; omega
 have m0:Mod [] H (ext H [⟨47,false,o.cells⟩]):=Mod.ext hok
 refine callE_fn mixed Tryd.func91 rfl Tryd.ntmps91 (zA9 rfl) ?_
 simp (maxDischargeDepth:=6) only[Op.val,Op.cells,ruW,putL,Nat.reduceLeDiff,xF,ruU,entryE,Nat.reduceLT,Nat.reduceAdd,Nat.reduceMul,Nat.reduceEqDiff]
 refine (list_c (ext H [⟨47,false,o.cells⟩]) (t.modN (ModN.of (N:=N) (Ws:=[]) m0 (by simp)) hN h2n) o.text (by omega) (m0.ok hok)).mono ?_
 rintro out X ⟨mX,ho⟩
 replace mX:Mod [] H X:=m0.trans mX
 rw[hr]at ho ⊢
 have aX:=a.mod0 mX
 obtain⟨xn,hx⟩:∃ xn,X.next=xn:=⟨_,rfl⟩
 rw[show X=ext X [] from rfl]
 have bad:StepR 76 N p none H (.error [refusedP]) (ext X []):=⟨ModN.of (Ws:=[]) mX (by simp),rfl⟩
 cases hp:r with
 |none =>
  rw[hp]at ho
  simp only[LsOut]at ho
  subst ho
  have h5:decide ((5:Int)=0)=false:=by decide
  simp (maxDischargeDepth:=6) only[h5,hx,ruW,putL,Nat.reduceLeDiff,xF,ruU,entryE,Nat.reduceLT,Nat.reduceAdd,Nat.reduceMul,Nat.reduceEqDiff]
  refine CallS.panics (needs_f _) ?_
  simp only[opC_error,seqC_panic,endA_panic,lv_panic]
  exact bad
 |some l =>
  rw[hp]at ho
  obtain⟨v5,rfl,hv5,hid5'⟩:=ho
  have hid5:∀ n∈idsV v5,H.next≤n:=fun n hn=>by have:=hid5' n hn; rw[ext_next]at this; omega
  have hll:l.length≤1000:=zD1 (ptsR_len _ _ _ (zA4 _) (hr.trans hp)) hlen
  have hpl:=aX.lt
  rw[hx]at hpl
  have hcell:=aX.cell
  simp only[St.cells]at hcell
  obtain⟨i,hi⟩:∃ i:Nat,x.row=i:=⟨x.row.toNat,by have:=ok.row0; omega⟩
  obtain⟨k0,hk0⟩:∃ k:Nat,x.col=k:=⟨x.col.toNat,by have:=ok.col0; omega⟩
  obtain⟨a5,e5⟩:=hv5.len
  have h0:decide ((0:Int)=0)=true:=by decide
  rw[e5]
  simp (maxDischargeDepth:=6) only[h0,hx,ruW,putL,Nat.reduceLeDiff,xF,ruU,entryE,Nat.reduceLT,Nat.reduceAdd,Nat.reduceMul,Nat.reduceEqDiff]
  refine CallS.to (needs_t _) ?_
  simp (maxDischargeDepth:=6) only[hx,hpl,hcell,hk0,ruW,putL,Nat.reduceLeDiff,xF,ruU,entryE,Nat.reduceLT,Nat.reduceAdd,Nat.reduceMul,Nat.reduceEqDiff]
  rw[←e5]
  obtain⟨l0,hl0⟩:∃ l0,x.grid[i]?=some l0:=⟨_,zA6 (by have:=ok.row1; omega)⟩
  have hw0:l0.length=W:=ok.wid l0 (zC1 hl0)
  have hgd:x.grid.getD x.row.toNat []=l0:=by rw[hi,zE7,zC9,hl0]; rfl
  have hk0':x.col.toNat=k0:=by rw[hk0,zE7]
  obtain⟨F,hF⟩:∃ F,St.fits W l (k0:Int)=F:=⟨_,rfl⟩
  obtain⟨y,hy⟩:∃ y:St,y={x with grid:=x.grid.set i (putAll x.pen l l0 k0).1,col:=((putAll x.pen l l0 k0).2:Nat)}:=⟨_,rfl⟩
  have hty:x.text W (some l)=if F=true then some y else none:=by
   simp only[St.text]
   rw[hgd,hk0',hk0,hF,hy,hi,zE7]
  rw[hty]
  refine w_env fun E hE=>?_
  have g0:E 0=.pointer (some ⟨p,0,none⟩):=by rw[hE]; simp only[ruU,entryE,Nat.reduceLT,Nat.reduceAdd,Nat.reduceMul,Nat.reduceEqDiff]
  have g4:E 4=v5:=by rw[hE]; simp only[e5,ruU,entryE,Nat.reduceLT,Nat.reduceAdd,Nat.reduceMul,Nat.reduceEqDiff]
  have g6:E 6=.int .i64 (k0:Int):=by rw[hE]; simp only[ruU,entryE,Nat.reduceLT,Nat.reduceAdd,Nat.reduceMul,Nat.reduceEqDiff]
  have g26:E 26=v5:=by rw[hE]; simp only[e5,ruU,entryE,Nat.reduceLT,Nat.reduceAdd,Nat.reduceMul,Nat.reduceEqDiff]
  have g27:E 27=.int .i64 (l.length:Int):=by rw[hE]; simp only[ruU,entryE,Nat.reduceLT,Nat.reduceAdd,Nat.reduceMul,Nat.reduceEqDiff]
  have g28:E 28=.int .i64 ((0:Nat):Int):=by rw[hE]; (simp only[ruU,entryE,Nat.reduceLT,Nat.reduceAdd,Nat.reduceMul,Nat.reduceEqDiff]<;>rfl)
  clear hE
  have hW1:=ok.w1
  have hW2:=ok.w2
  have hcl:=ok.col1
  obtain⟨mw,hmwl,hmwp,_,hwd⟩:=dwidth_c aX ok
  have hwX:CallS Tryd.prog 50 [.pointer (some ⟨p,0,none⟩)] (ext X []) (.ok (.int .i64 W)) (ext X []):=hwd X rfl (fun _ _=>rfl)
  refine blockC_meet (fun E' Y=>Y=ext X []∧E' 0=.pointer (some ⟨p,0,none⟩)∧E' 4=v5∧F=true) ?_ ?_
  ·refine w_loop (fun (q:Nat × Int) E' Y=>Y=ext X []∧E' 0=.pointer (some ⟨p,0,none⟩)∧E' 4=v5∧E' 6=.int .i64 q.2∧E' 26=v5∧E' 27=.int .i64 (l.length:Int)∧E' 28=.int .i64 (q.1:Int)∧q.1≤l.length∧0≤q.2∧q.2≤W∧St.fits W (l.drop q.1) q.2=F) (fun q=>l.length-q.1) (0,(k0:Int))
    ⟨rfl,g0,g4,g6,g26,g27,g28,zB2 _,by simp,by simp only; omega,hF⟩ ?_
   clear g0 g4 g6 g26 g27 g28
   rintro⟨j,n⟩ E Y ⟨hY,g0,g4,g6,g26,g27,g28,hj,hn0,hn1,hf⟩
   simp only at g6 g28 hj hn0 hn1 hf
   rw[hY]
   by_cases hjl:j=l.length
   ·have hc:decide ((j:Int)<(l.length:Int))=false:=by simp[hjl]
    simp (maxDischargeDepth:=6) only[g27,g28,hc,ruW,putL,Nat.reduceLeDiff,xF,ruU,entryE,Nat.reduceLT,Nat.reduceAdd,Nat.reduceMul,Nat.reduceEqDiff]
    rw[zE3 (by omega),St.fits]at hf
    exact joinR_normal ⟨rfl,by simp only[g0,ruU,entryE,Nat.reduceLT,Nat.reduceAdd,Nat.reduceMul,Nat.reduceEqDiff],by simp only[g4,ruU,entryE,Nat.reduceLT,Nat.reduceAdd,Nat.reduceMul,Nat.reduceEqDiff],hf.symm⟩
   ·have hlj:j<l.length:=by omega
    have hc:decide ((j:Int)<(l.length:Int))=true:=decide_eq_true (by omega)
    obtain⟨c,hcj⟩:∃ c,l[j]?=some c:=⟨_,zA6 hlj⟩
    obtain⟨n8,e8',n8l,b8,c8⟩:=ints_ld hv5 hcj
    rw[hx]at n8l
    have g26':=g26
    rw[e8']at g26'
    have ij:=ints_ia (len:=l.length) (cap:=l.length) (n:=n8) (s:=none) (k:=j) hlj
    have hdr:l.drop j=c::l.drop (j+1):=by
     rw[zG2 hlj]
     rw[zA6 hlj]at hcj
     rw[Option.some.inj hcj]
    rw[hdr,St.fits]at hf
    obtain⟨w,hw⟩:∃ w,cellsR c=w:=⟨_,rfl⟩
    have hw3:=cellsR_cases c
    rw[hw]at hf hw3
    have hwi:=cellsOf_c (ext X []) c
    rw[hw]at hwi
    obtain⟨d1,hd1⟩:∃ d,decide ((0:Int)<(w:Int))=d:=⟨_,rfl⟩
    have hd1':decide (w=0)=!d1:=by rw[←hd1,←decide_not]; exact decide_eq_decide.2 (by omega)
    obtain⟨d2,hd2⟩:∃ d,decide (n+(w:Int)≤(W:Int))=d:=⟨_,rfl⟩
    have hd2':decide ((W:Int)<n+w)=!d2:=by rw[←hd2,←decide_not]; exact decide_eq_decide.2 (by omega)
    rw[hd1',hd2']at hf
    have hwr:IntKind.i64.wrap (n+(w:Int))=n+w:=wrap_sm (by omega) (by omega)
    simp (maxDischargeDepth:=6) only[g0,g26',g27,g28,hx,hc,ij,b8,n8l,c8,ruW,putL,Nat.reduceLeDiff,xF,ruU,entryE,Nat.reduceLT,Nat.reduceAdd,Nat.reduceMul,Nat.reduceEqDiff]
    refine hwi.to ?_
    cases d1 with
    |false =>
     obtain rfl:false=F:=by simpa using hf
     simp (maxDischargeDepth:=6) only[g6,hwr,hd1,ruW,putL,Nat.reduceLeDiff,xF,ruU,entryE,Nat.reduceLT,Nat.reduceAdd,Nat.reduceMul,Nat.reduceEqDiff]
     refine CallS.panics (needs_f _) ?_
     simp only[opC_error,seqC_panic,blockC_panic,loopC_panic,joinR_panic,endA_panic,lv_panic,zC2,if_false]
     exact bad
    |true =>
     simp (maxDischargeDepth:=6) only[g0,g6,hwr,hd1,ruW,putL,Nat.reduceLeDiff,xF,ruU,entryE,Nat.reduceLT,Nat.reduceAdd,Nat.reduceMul,Nat.reduceEqDiff]
     refine hwX.to ?_
     cases d2 with
     |false =>
      obtain rfl:false=F:=by simpa using hf
      simp (maxDischargeDepth:=6) only[hd2,ruW,putL,Nat.reduceLeDiff,xF,ruU,entryE,Nat.reduceLT,Nat.reduceAdd,Nat.reduceMul,Nat.reduceEqDiff]
      refine CallS.panics (needs_f _) ?_
      simp only[opC_error,seqC_panic,blockC_panic,loopC_panic,joinR_panic,endA_panic,lv_panic,zC2,if_false]
      exact bad
     |true =>
      have hf':St.fits W (l.drop (j+1)) (n+w)=F:=by simpa using hf
      have:=of_decide_eq_true hd2
      simp (maxDischargeDepth:=6) only[hd2,ruW,putL,Nat.reduceLeDiff,xF,ruU,entryE,Nat.reduceLT,Nat.reduceAdd,Nat.reduceMul,Nat.reduceEqDiff]
      refine CallS.to (needs_t _) ?_
      simp (maxDischargeDepth:=6) only[g28,wrap_succ (show j<1000000 by omega),ruW,putL,Nat.reduceLeDiff,xF,ruU,entryE,Nat.reduceLT,Nat.reduceAdd,Nat.reduceMul,Nat.reduceEqDiff]
      refine loopC_next ⟨(j+1,n+w),by simp only; omega,rfl,?_,?_,?_,?_,?_,?_,by simp only; omega,by simp only; omega,by simp only; omega,hf'⟩
      ·simp only[g0,ruU,entryE,Nat.reduceLT,Nat.reduceAdd,Nat.reduceMul,Nat.reduceEqDiff]
      ·simp only[g4,ruU,entryE,Nat.reduceLT,Nat.reduceAdd,Nat.reduceMul,Nat.reduceEqDiff]
      ·simp only[ruU,entryE,Nat.reduceLT,Nat.reduceAdd,Nat.reduceMul,Nat.reduceEqDiff]
      ·simp only[g26,g26',e8',ruU,entryE,Nat.reduceLT,Nat.reduceAdd,Nat.reduceMul,Nat.reduceEqDiff]
      ·simp only[g27,ruU,entryE,Nat.reduceLT,Nat.reduceAdd,Nat.reduceMul,Nat.reduceEqDiff]
      ·simp only[ruU,entryE,Nat.reduceLT,Nat.reduceAdd,Nat.reduceMul,Nat.reduceEqDiff]
  ·clear g0 g4 g6 g26 g27 g28
   rintro E Y ⟨hY,g0,g4,rfl⟩
   rw[hY]
   rw[if_pos rfl]
   obtain⟨m,s1,c1,o1,ev,hbm,hNm,hml,hmn⟩:∃ m s1 c1 o1,v=.slice (some ⟨m,0,s1⟩) x.grid.length c1∧bk X m=some ⟨56,o1,rvs⟩∧N≤m∧m<X.next∧m∉rvs.flatMap idsV:=by
    rcases aX.own.at_ with⟨h,_⟩|h
    ·rw[h]at hl0; simp at hl0
    ·exact h
   obtain⟨n,s2,cc,f00,hrv,_⟩:=aX.row hl0
   obtain⟨xs,hxs⟩:∃ xs:List Ce→Int→St,xs=fun lr cl=>{x with grid:=x.grid.set i lr,col:=cl}:=⟨_,rfl⟩
   have hil:i<x.grid.length:=(zD4.1 hl0).1
   have hgi:∀ lr cl,(xs lr cl).grid[i]?=some lr:=fun lr cl=>by rw[hxs]; exact List.getElem?_set_self hil
   have hsr:∀ lr cl lr',(xs lr cl).setRow i lr'=xs lr' cl:=fun lr cl lr'=>by rw[hxs]; simp only[St.setRow,List.set_set]
   have hx0:xs l0 (k0:Int)=x:=by
    rw[hxs]
    simp only
    rw[←hk0]
    have:x.grid.set i l0=x.grid:=List.ext_getElem? fun j=>by
     rw[List.getElem?_set]
     split
     ·rename_i e; subst e; exact hl0.symm
     ·rfl
    rw[this]
   have rd:∀ (Z:AHeap) (lr:List Ce) (cl:Int),lr.length=W→StAt 76 N Z p v rvs (xs lr cl)→∃ f o,bk Z n=some ⟨55,f,csOf lr⟩∧n<Z.next∧bk Z m=some ⟨56,o,rvs⟩∧m<Z.next∧bk Z p=some ⟨76,false,(xs lr cl).cells v⟩∧p<Z.next:=fun Z lr cl hlr az=>by
    obtain⟨n',s',c',f,h1,h2,_,h3,_⟩:=az.row (hgi lr cl)
    rw[hrv]at h1
    rw[hw0,hlr]at h1
    cases h1
    rcases az.own.at_ with⟨h,_⟩|⟨m',s'',c'',o,e,h4,_,h5,_⟩
    ·have:=hgi lr cl; rw[h]at this; simp at this
    ·have hgl:(xs lr cl).grid.length=x.grid.length:=by rw[hxs]; simp
     rw[ev,hgl]at e
     cases e
     exact⟨f,o,h2,h3,h4,h5,az.cell,az.lt⟩
   have hxi:∀ lr cl,(xs lr cl).row=(i:Int):=fun lr cl=>by rw[hxs]; exact hi
   have hxp:∀ lr cl,(xs lr cl).pen=x.pen:=fun lr cl=>by rw[hxs]
   have hxg:∀ lr cl,(xs lr cl).grid.length=x.grid.length:=fun lr cl=>by rw[hxs]; simp
   have hxc:∀ lr cl,(xs lr cl).cells v=[v,.int .i64 x.sr,.int .i64 x.sc,.int .i64 x.pen.fore,.int .i64 x.pen.back,.bool x.pen.bold,.bool x.pen.under,.bool x.pen.inv,.int .i64 (i:Int),.int .i64 cl,.bool x.shown]:=fun lr cl=>by rw[hxs]; simp only[St.cells,hi]
   have hidl:∀ n∈p::rvs.flatMap idsV,n<H.next:=fun q hq=>by
    rcases zB1.1 hq with rfl|hq
    ·exact a.lt
    ·exact (a.own.ids q hq).2.1
   have fr8:∀ (Z:AHeap),Mod (p::rvs.flatMap idsV) X Z→∀ {j:Nat} {c:Int},l[j]?=some c→∃ n8,v5=.slice (some ⟨n8,0,none⟩) l.length l.length∧n8<Z.next∧bk Z n8=some ⟨3,true,iv l⟩∧(iv l)[j]?=some (.int .i64 c)∧H.next≤n8:=fun Z mZ {j c} hc=>by
    obtain⟨n8,e8',n8l,b8,c8⟩:=ints_ld hv5 hc
    have h8:H.next≤n8:=hid5 n8 (by rw[e8']; simp[idsV])
    exact⟨n8,e8',mZ.lt n8l,(mZ.bk n8l (fun h=>by have:=hidl _ h; omega)).trans b8,c8,h8⟩
   have g4':=g4
   rw[e5]at g4'
   simp (maxDischargeDepth:=6) only[g4',ruW,putL,Nat.reduceLeDiff,xF,ruU,entryE,Nat.reduceLT,Nat.reduceAdd,Nat.reduceMul,Nat.reduceEqDiff]
   refine w_env fun E2 hE2=>?_
   have k0':E2 0=.pointer (some ⟨p,0,none⟩):=by rw[hE2]; simp only[g0,ruU,entryE,Nat.reduceLT,Nat.reduceAdd,Nat.reduceMul,Nat.reduceEqDiff]
   have k47:E2 47=v5:=by rw[hE2]; simp only[e5,ruU,entryE,Nat.reduceLT,Nat.reduceAdd,Nat.reduceMul,Nat.reduceEqDiff]
   have k48:E2 48=.int .i64 (l.length:Int):=by rw[hE2]; simp only[ruU,entryE,Nat.reduceLT,Nat.reduceAdd,Nat.reduceMul,Nat.reduceEqDiff]
   have k49:E2 49=.int .i64 ((0:Nat):Int):=by rw[hE2]; (simp only[ruU,entryE,Nat.reduceLT,Nat.reduceAdd,Nat.reduceMul,Nat.reduceEqDiff]<;>rfl)
   clear hE2
   refine w_loop (fun (q:Nat × List Ce × Nat) E' Y=>Mod (p::rvs.flatMap idsV) X Y∧E' 0=.pointer (some ⟨p,0,none⟩)∧E' 47=v5∧E' 48=.int .i64 (l.length:Int)∧E' 49=.int .i64 (q.1:Int)∧q.1≤l.length∧q.2.1.length=W∧StAt 76 N Y p v rvs (xs q.2.1 (q.2.2:Int))∧putAll x.pen (l.drop q.1) q.2.1 q.2.2=putAll x.pen l l0 k0∧St.fits W (l.drop q.1) (q.2.2:Int)=true) (fun q=>l.length-q.1) (0,l0,k0)
    ⟨Mod.refl,k0',k47,k48,k49,zB2 _,hw0,by simp only; rw[hx0]; exact aX,rfl,hF⟩ ?_
   rintro⟨j,lr,k⟩ E Y ⟨mY,g0,g47,g48,g49,hj,hlr,aY,hput,hfit⟩
   simp only at g49 hj hlr aY hput hfit
   rw[show Y=ext Y [] from rfl]
   by_cases hjl:j=l.length
   ·have hc:decide ((j:Int)<(l.length:Int))=false:=by simp[hjl]
    simp (maxDischargeDepth:=6) only[g48,g49,hc,Tryd.results91,ruW,putL,Nat.reduceLeDiff,xF,ruU,entryE,Nat.reduceLT,Nat.reduceAdd,Nat.reduceMul,Nat.reduceEqDiff]
    rw[zE3 (by omega),putAll]at hput
    refine⟨ModN.of ((mX.mono (by simp)).trans mY) (fun q hq=>?_),rfl,v,rvs,sl,?_⟩
    ·rcases zB1.1 hq with rfl|hq
     ·exact a.pN (by decide) _ (zA8.2 rfl)
     ·exact a.rN q hq
    rw[hy,←hput]
    rw[hxs]at aY
    exact aY
   ·have hlj:j<l.length:=by omega
    have hc:decide ((j:Int)<(l.length:Int))=true:=decide_eq_true (by omega)
    obtain⟨c,hcj⟩:∃ c,l[j]?=some c:=⟨_,zA6 hlj⟩
    have hdr:l.drop j=c::l.drop (j+1):=by
     rw[zG2 hlj]
     rw[zA6 hlj]at hcj
     rw[Option.some.inj hcj]
    rw[hdr]at hput hfit
    obtain⟨hf0,hf1,hfit'⟩:=fits_cons hfit
    rw[putAll]at hput
    obtain⟨w,hw⟩:∃ w,cellsR c=w:=⟨_,rfl⟩
    have hw3:=cellsR_cases c
    rw[hw]at hput hf0 hf1 hfit' hw3
    obtain⟨l2,hl2⟩:∃ l2,l2=if w=2 then (setL (setL lr k Ce.sp) (k+1) Ce.sp).set (k+1) (x.pen.ce (-1)) else setL lr k Ce.sp:=⟨_,rfl⟩
    have hpc:putC x.pen lr k c=l2.set k (x.pen.ce c):=by
     rw[putC,hw,hl2]
     split<;>rfl
    have hl2l:l2.length=W:=by
     rw[hl2]
     split
     ·rw[List.length_set,setL_len,setL_len,hlr]
     ·rw[setL_len,hlr]
    have hokY:=mY.ok (mX.ok hok)
    obtain⟨n8,e8',n8l,b8,c8,h8⟩:=fr8 Y mY hcj
    obtain⟨f,o,bn,nl,bm,ml,bp,pl⟩:=rd Y lr k hlr aY
    rw[hxc]at bp
    have ij:=ints_ia (len:=l.length) (cap:=l.length) (n:=n8) (s:=none) (k:=j) hlj
    have hrv':∀ lr:List Ce,lr.length=W→rvs[i]?=some (.slice (some ⟨n,0,s2⟩) lr.length cc):=fun lr h=>by rw[hrv,hw0,h]
    have hnm:∀ q∈[n],q∈p::rvs.flatMap idsV:=fun q hq=>by
     obtain rfl:=zA8.1 hq
     exact zB3 _ (zC6.2 ⟨_,zC1 hrv,by simp[idsV]⟩)
    have hpn:p≠n:=fun e=>a.apart (zE2 _ (zC6.2 ⟨_,zC1 hrv,by simp[idsV,e]⟩))
    have set1:∀ (Z:AHeap) (lr:List Ce) (cl:Int) (q:Nat),StAt 76 N Z p v rvs (xs lr cl)→Z.base≤Z.next→lr.length=W→q<W→CallA Tryd.prog 106 [.pointer (some ⟨p,0,none⟩),.int .i64 (q:Int),Ce.sp.val] Z (fun out Z1=>out=.ok (.tuple ⟨[]⟩)∧StAt 76 N Z1 p v rvs (xs (setL lr q Ce.sp) cl)∧Mod [n] Z Z1):=fun Z lr cl q az hz hl hq=>by
     have:=set_c N Z p i q n v rvs (xs lr cl) lr Ce.sp s2 cc az hz (hxi _ _) (hgi _ _) (hrv' lr hl) (by omega) (by omega) (by rw[hxg]; exact zD1 ok.h2 (by decide))
     rw[hsr]at this
     exact this
    obtain⟨yn,hyn⟩:∃ yn,Y.next=yn:=⟨_,rfl⟩
    rw[hyn]at n8l nl ml pl
    have g47':=g47
    rw[e8']at g47'
    simp (maxDischargeDepth:=6) only[g0,g47',g48,g49,hc,ij,b8,n8l,c8,bp,pl,hyn,ruW,putL,Nat.reduceLeDiff,xF,ruU,entryE,Nat.reduceLT,Nat.reduceAdd,Nat.reduceMul,Nat.reduceEqDiff]
    refine (set1 (ext Y []) lr k k aY hokY hlr (by omega)).mono ?_
    rintro _ Y1 ⟨rfl,a1,m1⟩
    replace m1:Mod [n] Y Y1:=m1
    have hokY1:=m1.ok hokY
    have mY1:=mY.trans (m1.mono hnm)
    rw[show Y1=ext Y1 [] from rfl]
    obtain⟨d2,hd2⟩:∃ d,decide ((w:Int)=2)=d:=⟨_,rfl⟩
    have hwi:=cellsOf_c (ext Y1 []) c
    rw[hw]at hwi
    simp (maxDischargeDepth:=6) only[ruW,putL,Nat.reduceLeDiff,xF,ruU,entryE,Nat.reduceLT,Nat.reduceAdd,Nat.reduceMul,Nat.reduceEqDiff]
    refine hwi.to ?_
    simp (maxDischargeDepth:=6) only[hd2,ruW,putL,Nat.reduceLeDiff,xF,ruU,entryE,Nat.reduceLT,Nat.reduceAdd,Nat.reduceMul,Nat.reduceEqDiff]
    refine condC_meet (fun E' Z=>Mod (p::rvs.flatMap idsV) X Z∧E' 0=.pointer (some ⟨p,0,none⟩)∧E' 47=v5∧E' 48=.int .i64 (l.length:Int)∧E' 49=.int .i64 (j:Int)∧E' 11=.int .i64 c∧E' 12=.int .i64 (w:Int)∧StAt 76 N Z p v rvs (xs l2 k)) ?_ ?_
    ·cases d2 with
     |false =>
      have:¬w=2:=fun e=>by rw[e]at hd2; exact absurd hd2 (by decide)
      rw[if_neg this]at hl2
      rw[hl2]
      simp (maxDischargeDepth:=6) only[ruW,putL,Nat.reduceLeDiff,xF,ruU,entryE,Nat.reduceLT,Nat.reduceAdd,Nat.reduceMul,Nat.reduceEqDiff]
      exact joinR_normal ⟨mY1,by simp only[g0,ruU,entryE,Nat.reduceLT,Nat.reduceAdd,Nat.reduceMul,Nat.reduceEqDiff],by simp only[g47',e8',ruU,entryE,Nat.reduceLT,Nat.reduceAdd,Nat.reduceMul,Nat.reduceEqDiff],by simp only[g48,ruU,entryE,Nat.reduceLT,Nat.reduceAdd,Nat.reduceMul,Nat.reduceEqDiff],by simp only[g49,ruU,entryE,Nat.reduceLT,Nat.reduceAdd,Nat.reduceMul,Nat.reduceEqDiff],by simp only[ruU,entryE,Nat.reduceLT,Nat.reduceAdd,Nat.reduceMul,Nat.reduceEqDiff],by simp only[ruU,entryE,Nat.reduceLT,Nat.reduceAdd,Nat.reduceMul,Nat.reduceEqDiff],a1⟩
     |true =>
      have hw2:w=2:=by have:=of_decide_eq_true hd2; omega
      rw[if_pos hw2]at hl2
      obtain⟨f1,o1,bn1,nl1,bm1,ml1,bp1,pl1⟩:=rd Y1 _ k (by rw[setL_len]; exact hlr) a1
      rw[hxc]at bp1
      obtain⟨yn1,hyn1⟩:∃ yn,Y1.next=yn:=⟨_,rfl⟩
      rw[hyn1]at nl1 ml1 pl1
      have hks:IntKind.i64.wrap ((k:Int)+1)=((k+1:Nat):Int):=wrap_succ (by omega)
      simp (maxDischargeDepth:=6) only[g0,bp1,pl1,hyn1,hks,ruW,putL,Nat.reduceLeDiff,xF,ruU,entryE,Nat.reduceLT,Nat.reduceAdd,Nat.reduceMul,Nat.reduceEqDiff]
      refine (set1 (ext Y1 []) _ k (k+1) a1 hokY1 (by rw[setL_len]; exact hlr) (by omega)).mono ?_
      rintro _ Y2 ⟨rfl,a2,m2⟩
      replace m2:Mod [n] Y1 Y2:=m2
      have hokY2:=m2.ok hokY1
      have mY2:=mY1.trans (m2.mono hnm)
      rw[show Y2=ext Y2 [] from rfl]
      simp (maxDischargeDepth:=6) only[ruW,putL,Nat.reduceLeDiff,xF,ruU,entryE,Nat.reduceLT,Nat.reduceAdd,Nat.reduceMul,Nat.reduceEqDiff]
      obtain⟨lq,hlq⟩:∃ lq,setL (setL lr k Ce.sp) (k+1) Ce.sp=lq:=⟨_,rfl⟩
      rw[hlq]at a2 hl2
      have hlql:lq.length=W:=by rw[←hlq,setL_len,setL_len,hlr]
      obtain⟨f2,o2,bn2,nl2,bm2,ml2,bp2,pl2⟩:=rd Y2 lq k hlql a2
      rw[hxc]at bp2
      obtain⟨yn2,hyn2⟩:∃ yn,Y2.next=yn:=⟨_,rfl⟩
      rw[hyn2]at nl2 ml2 pl2
      obtain⟨hm1,hn1⟩:m<yn2∧n<yn2:=⟨ml2,nl2⟩
      have ig:=grid_ia (n:=m) (off:=0) (s:=s1) (cap:=c1) (i:=(i:Int)) (len:=x.grid.length) rfl hil
      have qg:ldB Tryd.prog 56 (0+i) (some ⟨56,o2,rvs⟩)=some (.slice (some ⟨n,0,s2⟩) W cc):=grid_load (by rw[zB6,hrv,hw0])
      have ir:aIndexAddr Tryd.prog 56 (.slice (some ⟨n,0,s2⟩) W cc) (.int .i64 ((k+1:Nat):Int))=some (.pointer (some ⟨n,0+(k+1)*6,none⟩)):=row_ia (n:=n) (off:=0) (s:=s2) (cap:=cc) (i:=((k+1:Nat):Int)) rfl (by omega)
      have stq:∀ M:Nat,stB Tryd.prog 55 M (0+(k+1)*6) (.agg ⟨[.int .i64 (-1),.int .i64 x.pen.fore,.int .i64 x.pen.back,.bool x.pen.bold,.bool x.pen.under,.bool x.pen.inv]⟩) (some ⟨55,f2,csOf lq⟩)=some ⟨55,f2,csOf (lq.set (k+1) (x.pen.ce (-1)))⟩:=fun M=>by
       rw[zB6]
       exact stB_cell (c:=x.pen.ce (-1)) (by omega)
      refine w_drawB [(22,4),(22,8),(22,10),(22,14),(22,19)] [] (by kernel_rfl) (by kernel_rfl) rfl fun ops anc hA hG=>?_
      simp only[all2_cons]at hA
      rw[ev]at bp2
      simp (maxDischargeDepth:=6) only[g0,bp2,pl2,bm2,bn2,hm1,hn1,hyn2,hks,ig,qg,ir,stq,hA,ruD,ruW,putL,Nat.reduceLeDiff,xF,ruU,entryE,Nat.reduceLT,Nat.reduceAdd,Nat.reduceMul,Nat.reduceEqDiff]
      obtain⟨a3,m3⟩:=a2.cellPut (q:=x.pen.ce (-1)) (j:=k+1) (hrv' lq hlql) (hgi _ _) (by omega) bn2
      rw[hsr,←hl2]at a3
      refine joinR_normal ⟨mY2.trans (m3.mono hnm),?_,?_,?_,?_,?_,?_,a3⟩
      ·simp only[g0,ruU,entryE,Nat.reduceLT,Nat.reduceAdd,Nat.reduceMul,Nat.reduceEqDiff]
      ·simp only[g47',e8',ruU,entryE,Nat.reduceLT,Nat.reduceAdd,Nat.reduceMul,Nat.reduceEqDiff]
      ·simp only[g48,ruU,entryE,Nat.reduceLT,Nat.reduceAdd,Nat.reduceMul,Nat.reduceEqDiff]
      ·simp only[g49,ruU,entryE,Nat.reduceLT,Nat.reduceAdd,Nat.reduceMul,Nat.reduceEqDiff]
      ·simp only[ruU,entryE,Nat.reduceLT,Nat.reduceAdd,Nat.reduceMul,Nat.reduceEqDiff]
      ·simp only[ruU,entryE,Nat.reduceLT,Nat.reduceAdd,Nat.reduceMul,Nat.reduceEqDiff]
    ·rintro E Z ⟨mZ,g0,g47,g48,g49,g11,g12,aZ⟩
     rw[show Z=ext Z [] from rfl]
     obtain⟨f,o,bn,nl,bm,ml,bp,pl⟩:=rd Z l2 k hl2l aZ
     rw[hxc]at bp
     obtain⟨zn,hzn⟩:∃ zn,Z.next=zn:=⟨_,rfl⟩
     rw[hzn]at nl ml pl
     have ig:=grid_ia (n:=m) (off:=0) (s:=s1) (cap:=c1) (i:=(i:Int)) (len:=x.grid.length) rfl hil
     have qg:ldB Tryd.prog 56 (0+i) (some ⟨56,o,rvs⟩)=some (.slice (some ⟨n,0,s2⟩) W cc):=grid_load (by rw[zB6,hrv,hw0])
     have ir:aIndexAddr Tryd.prog 56 (.slice (some ⟨n,0,s2⟩) W cc) (.int .i64 (k:Int))=some (.pointer (some ⟨n,0+k*6,none⟩)):=row_ia (n:=n) (off:=0) (s:=s2) (cap:=cc) (i:=(k:Int)) rfl (by omega)
     have stq:∀ M:Nat,stB Tryd.prog 55 M (0+k*6) (.agg ⟨[.int .i64 c,.int .i64 x.pen.fore,.int .i64 x.pen.back,.bool x.pen.bold,.bool x.pen.under,.bool x.pen.inv]⟩) (some ⟨55,f,csOf l2⟩)=some ⟨55,f,csOf (l2.set k (x.pen.ce c))⟩:=fun M=>by
      rw[zB6]
      exact stB_cell (c:=x.pen.ce c) (by omega)
     simp (maxDischargeDepth:=6) only[ruW,putL,Nat.reduceLeDiff,xF,ruU,entryE,Nat.reduceLT,Nat.reduceAdd,Nat.reduceMul,Nat.reduceEqDiff]
     refine w_drawB [(22,4),(22,8),(22,10),(22,14),(22,19)] [] (by kernel_rfl) (by kernel_rfl) rfl fun ops anc hA hG=>?_
     simp only[all2_cons]at hA
     rw[ev]at bp
     simp (maxDischargeDepth:=6) only[g0,g11,bp,pl,bm,bn,ml,nl,hzn,ig,qg,ir,stq,hA,ruD,ruW,putL,Nat.reduceLeDiff,xF,ruU,entryE,Nat.reduceLT,Nat.reduceAdd,Nat.reduceMul,Nat.reduceEqDiff]
     obtain⟨a3,m3⟩:=aZ.cellPut (q:=x.pen.ce c) (j:=k) (hrv' l2 hl2l) (hgi _ _) (by omega) bn
     rw[hsr,←hpc]at a3
     have hokZ1:=(m3.mono hnm).ok (mZ.ok (mX.ok hok))
     have mZ1:=mZ.trans (m3.mono hnm)
     have bp1:=a3.cell
     rw[hxc]at bp1
     have pl1:=a3.lt
     generalize hZ1:uw Z n _ _=Z1
     rw[show uw Z n (0+k*6) (x.pen.ce c).cells=Z1 from hZ1]at a3 hokZ1 mZ1 bp1 pl1
     obtain⟨zn1,hzn1⟩:∃ zn,Z1.next=zn:=⟨_,rfl⟩
     rw[hzn1]at pl1
     have hkw:IntKind.i64.wrap ((k:Int)+(w:Int))=((k+w:Nat):Int):=(wrap_sm (by omega) (by omega)).trans (by omega)
     simp (maxDischargeDepth:=6) only[g0,g12,g49,bp1,pl1,hzn1,hkw,wrap_succ (show j<1000000 by omega),ruW,putL,Nat.reduceLeDiff,xF,ruU,entryE,Nat.reduceLT,Nat.reduceAdd,Nat.reduceMul,Nat.reduceEqDiff]
     obtain⟨a4,m4⟩:=a3.putU (y:=xs (putC x.pen lr k c) ((k+w:Nat):Int)) hokZ1 (off:=9) (vs:=[.int .i64 ((k+w:Nat):Int)]) (L:=[]) (by rw[hxc,hxc]; rfl) (by rw[hxs])
     refine loopC_next ⟨(j+1,putC x.pen lr k c,k+w),by simp only; omega,mZ1.trans (m4.mono (by simp)),?_,?_,?_,?_,by simp only; omega,by simp only[putC_len]; exact hlr,a4,hput,by simpa using hfit'⟩
     ·simp only[g0,ruU,entryE,Nat.reduceLT,Nat.reduceAdd,Nat.reduceMul,Nat.reduceEqDiff]
     ·simp only[g47,ruU,entryE,Nat.reduceLT,Nat.reduceAdd,Nat.reduceMul,Nat.reduceEqDiff]
     ·simp only[g48,ruU,entryE,Nat.reduceLT,Nat.reduceAdd,Nat.reduceMul,Nat.reduceEqDiff]
     ·simp only[ruU,entryE,Nat.reduceLT,Nat.reduceAdd,Nat.reduceMul,Nat.reduceEqDiff]
theorem St.Ok.setRow {x:St} {W i:Nat} {l:List Ce} (ok:x.Ok W) (hl:l.length=W):(x.setRow i l).Ok W:=by
 refine⟨?_,?_,ok.w1,ok.w2,?_,ok.row0,?_,ok.col0,ok.col1⟩
 ·simp only[St.setRow,List.length_set]; exact ok.h1
 ·simp only[St.setRow,List.length_set]; exact ok.h2
 ·intro q hq
  rcases List.mem_or_eq_of_mem_set hq with h|h
  ·exact ok.wid q h
  ·rw[h]; exact hl
 ·simp only[St.setRow,List.length_set]; exact ok.row1
theorem setRow_self {x:St} {i:Nat} {l:List Ce} (h:x.grid[i]?=some l):x.setRow i l=x:=by
 have:x.grid.set i l=x.grid:=List.ext_getElem? fun j=>by
  rw[List.getElem?_set]
  split
  ·rename_i e; subst e; rw[if_pos (zD4.1 h).1]; exact h.symm
  ·rfl
 simp only[St.setRow,this]
def St.clear (W:Nat) (x:St):Option St:=if x.col<W then some {x with grid:=x.grid.set x.row.toNat (clearL (x.grid.getD x.row.toNat []) x.col.toNat (W-x.col.toNat))} else none
theorem clear_c (N:Nat) (H:AHeap) (p W:Nat) (v:Value) (rvs:List Value) (x:St) (o:Op) (a:StAt 76 N H p v rvs x) (sl:Slc v) (hok:H.base≤H.next) (ok:x.Ok W) :
  CallA Tryd.prog 92 [.pointer (some ⟨p,0,none⟩),o.val] H (StepR 76 N p (x.clear W) H):=by
 obtain⟨b,hb⟩:∃ b,H.next=b:=⟨_,rfl⟩
 have hpl:=a.lt
 rw[hb]at hpl
 have hcell:=a.cell
 simp only[St.cells]at hcell
 have m0:Mod [] H (ext H [⟨47,false,o.cells⟩]):=Mod.ext hok
 have aX:=a.mod0 m0
 obtain⟨m,hml,hmp,⟨_,_,_,hmb⟩,hwd⟩:=dwidth_c aX ok
 have hFn:∀ n∈[p,m],(ext H [⟨47,false,o.cells⟩]).get n≠none:=fun n hn=>by
  simp only[zB1,List.not_mem_nil,or_false]at hn
  rcases hn with rfl|rfl
  ·exact bk_ne aX.cell
  ·exact bk_ne hmb
 obtain⟨i,hi⟩:∃ i:Nat,x.row=i:=⟨x.row.toNat,by have:=ok.row0; omega⟩
 obtain⟨k0,hk0⟩:∃ k:Nat,x.col=k:=⟨x.col.toNat,by have:=ok.col0; omega⟩
 obtain⟨l0,hl0⟩:∃ l0,x.grid[i]?=some l0:=⟨_,zA6 (by have:=ok.row1; omega)⟩
 have hw0:l0.length=W:=ok.wid l0 (zC1 hl0)
 have hgd:x.grid.getD x.row.toNat []=l0:=by rw[hi,zE7,zC9,hl0]; rfl
 have hk0':x.col.toNat=k0:=by rw[hk0,zE7]
 have hil:i<x.grid.length:=(zD4.1 hl0).1
 have hr:x.clear W=if (k0:Int)<W then some (x.setRow i (clearL l0 k0 (W-k0))) else none:=by
  unfold St.clear
  rw[hgd,hk0',hk0,hi,zE7]
  simp only[St.setRow,hk0,hi]
 rw[hr]
 refine callE_fn mixed Tryd.func92 rfl Tryd.ntmps92 (zA9 rfl) ?_
 simp (maxDischargeDepth:=6) only[Op.val,Op.cells,hb,ruW,putL,Nat.reduceLeDiff,xF,ruU,entryE,Nat.reduceLT,Nat.reduceAdd,Nat.reduceMul,Nat.reduceEqDiff]
 by_cases hkw:(k0:Int)<W
 ·have hd:decide ((k0:Int)<W)=true:=decide_eq_true hkw
  rw[if_pos hkw]
  refine w_drawB [] [] (by kernel_rfl) rfl rfl fun ops anc hA hG=>?_
  simp (maxDischargeDepth:=6) only[hb,hpl,hcell,hk0,ruD,ruW,putL,Nat.reduceLeDiff,xF,ruU,entryE,Nat.reduceLT,Nat.reduceAdd,Nat.reduceMul,Nat.reduceEqDiff]
  refine genV_quiet (v:=.int .i64 W) [p,m] rfl rfl (zA9 rfl) hFn (fun G hn hg=>hwd G hn hg) (by simp[Meets]) ?_
  simp (maxDischargeDepth:=6) only[hd,ruD,ruW,putL,Nat.reduceLeDiff,xF,ruU,entryE,Nat.reduceLT,Nat.reduceAdd,Nat.reduceMul,Nat.reduceEqDiff]
  refine genV_quiet (v:=.tuple ⟨[]⟩) [] rfl rfl (zA9 rfl) (by simp) (fun G hn hg=>needs_t G) (by simp[Meets]) ?_
  simp (maxDischargeDepth:=6) only[hb,hpl,hcell,hk0,ruD,ruW,putL,Nat.reduceLeDiff,xF,ruU,entryE,Nat.reduceLT,Nat.reduceAdd,Nat.reduceMul,Nat.reduceEqDiff]
  refine w_env fun E hE=>?_
  have g0:E 0=.pointer (some ⟨p,0,none⟩):=by rw[hE]; simp only[ruU,entryE,Nat.reduceLT,Nat.reduceAdd,Nat.reduceMul,Nat.reduceEqDiff]
  have g4:E 4=.int .i64 (k0:Int):=by rw[hE]; simp only[ruU,entryE,Nat.reduceLT,Nat.reduceAdd,Nat.reduceMul,Nat.reduceEqDiff]
  clear hE
  have aY0:=aX
  obtain⟨X,hX⟩:∃ X,ext H [⟨47,false,o.cells⟩]=X:=⟨_,rfl⟩
  simp only[Op.cells]at hX
  rw[hX]
  rw[show ext H [⟨47,false,o.cells⟩]=X from hX]at aX m0
  rw[show X=ext X [] from rfl]
  obtain⟨n,s2,cc,f00,hrv,_⟩:=aX.row hl0
  refine w_loop (fun (q:Nat × List Ce) E' Y=>Mod [n] X Y∧E' 0=.pointer (some ⟨p,0,none⟩)∧E' 4=.int .i64 (q.1:Int)∧q.1≤W∧q.2.length=W∧StAt 76 N Y p v rvs (x.setRow i q.2)∧clearL q.2 q.1 (W-q.1)=clearL l0 k0 (W-k0)) (fun q=>W-q.1) (k0,l0)
   ⟨Mod.refl,g0,g4,by simp only; omega,hw0,by simp only; rw[setRow_self hl0]; exact aX,rfl⟩ ?_
  clear g0 g4
  rintro⟨k,lr⟩ E Y ⟨mY,g0,g4,hk,hlr,aY,hcl⟩
  simp only at g4 hk hlr aY hcl
  rw[show Y=ext Y [] from rfl]
  obtain⟨m2,_,_,_,hwd2⟩:=dwidth_c aY (ok.setRow hlr)
  have hwY:CallS Tryd.prog 50 [.pointer (some ⟨p,0,none⟩)] (ext Y []) (.ok (.int .i64 W)) (ext Y []):=hwd2 Y rfl (fun _ _=>rfl)
  simp (maxDischargeDepth:=6) only[g0,g4,ruW,putL,Nat.reduceLeDiff,xF,ruU,entryE,Nat.reduceLT,Nat.reduceAdd,Nat.reduceMul,Nat.reduceEqDiff]
  refine hwY.to ?_
  by_cases hkW:k=W
  ·have hc:decide ((k:Int)<(W:Int))=false:=by simp[hkW]
   simp (maxDischargeDepth:=6) only[hc,Tryd.results92,ruW,putL,Nat.reduceLeDiff,xF,ruU,entryE,Nat.reduceLT,Nat.reduceAdd,Nat.reduceMul,Nat.reduceEqDiff]
   refine⟨(ModN.of (Ws:=[]) m0 (by simp)).trans (ModN.of mY (fun q hq=>?_)),rfl,v,rvs,sl,?_⟩
   ·obtain rfl:=zA8.1 hq
    exact aX.rN q (zC6.2 ⟨_,zC1 hrv,by simp[idsV]⟩)
   ·rw[hkW,zF7,clearL]at hcl
    rw[←hcl]
    exact aY
  ·have hc:decide ((k:Int)<(W:Int))=true:=decide_eq_true (by omega)
   have hc1:clearL lr k (W-k)=clearL (setL lr k Ce.sp) (k+1) (W-(k+1)):=by
    rw[show W-k=(W-(k+1))+1 by omega,clearL]
   simp (maxDischargeDepth:=6) only[g0,g4,hc,ruW,putL,Nat.reduceLeDiff,xF,ruU,entryE,Nat.reduceLT,Nat.reduceAdd,Nat.reduceMul,Nat.reduceEqDiff]
   have hset:=set_c N (ext Y []) p i k n v rvs (x.setRow i lr) lr Ce.sp s2 cc aY (mY.ok (m0.ok hok)) hi (setRow_get hil) (by rw[hrv,hw0,hlr]) (by omega) (by have:=ok.w2; omega) (by simp only[St.setRow,List.length_set]; exact zD1 ok.h2 (by decide))
   rw[setRow_set]at hset
   refine hset.mono ?_
   rintro _ Y1 ⟨rfl,a1,m1⟩
   rw[show Y1=ext Y1 [] from rfl]
   simp (maxDischargeDepth:=6) only[g0,g4,wrap_succ (show k<1000000 by have:=ok.w2; omega),ruW,putL,Nat.reduceLeDiff,xF,ruU,entryE,Nat.reduceLT,Nat.reduceAdd,Nat.reduceMul,Nat.reduceEqDiff]
   refine loopC_next ⟨(k+1,setL lr k Ce.sp),by simp only; omega,mY.trans m1,?_,?_,by simp only; omega,by simp only[setL_len]; exact hlr,a1,by simp only; rw[←hc1]; exact hcl⟩
   ·simp only[g0,ruU,entryE,Nat.reduceLT,Nat.reduceAdd,Nat.reduceMul,Nat.reduceEqDiff]
   ·simp only[ruU,entryE,Nat.reduceLT,Nat.reduceAdd,Nat.reduceMul,Nat.reduceEqDiff]
 ·have hd:decide ((k0:Int)<W)=false:=decide_eq_false hkw
  rw[if_neg hkw]
  refine w_drawP [] [] (by kernel_rfl) (by kernel_rfl) rfl rfl (fun ops anc hA hG=>?_) (by simp) ⟨rfl,rfl⟩
  simp (maxDischargeDepth:=6) only[dropLast_more,dropLast_one,hb,hpl,hcell,hk0,ruD,ruW,putL,Nat.reduceLeDiff,xF,ruU,entryE,Nat.reduceLT,Nat.reduceAdd,Nat.reduceMul,Nat.reduceEqDiff]
  refine genV_quiet (v:=.int .i64 W) [p,m] rfl rfl (zA9 rfl) hFn (fun G hn hg=>hwd G hn hg) (by simp[Meets]) ?_
  simp (maxDischargeDepth:=6) only[dropLast_more,dropLast_one,hd,ruD,ruW,putL,Nat.reduceLeDiff,xF,ruU,entryE,Nat.reduceLT,Nat.reduceAdd,Nat.reduceMul,Nat.reduceEqDiff]
  simp (maxDischargeDepth:=6) only[lastO_cons,lastO_one,isDef_call,ff_eq,true_and,ruW,putL,Nat.reduceLeDiff,xF,ruU,entryE,Nat.reduceLT,Nat.reduceAdd,Nat.reduceMul,Nat.reduceEqDiff]
  refine CallS.panics (needs_f _) ?_
  simp only[opC_error,seqC_panic,endA_panic,lv_panic]
  exact⟨ModN.of (Ws:=[]) m0 (by simp),rfl⟩
end Go.Proofs.YtaojjfebkldmnaaDoor
namespace Go.Ax
section
variable {P : Program} {H : AHeap} {N : Nat} {E : Env} {ds : List Deferred} {ops : Array Oper} {anc : List Nat} {d : Nat} {ty : TypeId} {pos : String} {after : Array Edge} {rest : List Oper} {i : Nat} {fps : List Fp} {Q : AAct → AHeap → Prop}
theorem genV_extV {f:FuncId} {x:Operand} {args:List Operand} {ts:Array TypeId} {v:Value} {M:List Bl} {ca:List Value} (F:List Nat) (hx:opOk P N x=true) (hv:opv E x=.func (.func f) ⟨[]⟩ ⟨ca⟩) (ha:args.all (opOk P N)=true) (hb:hasBody P f=true) (hd:d<N) (hF:∀ n∈F,H.get n≠none)
  (hc:∀ G:AHeap,G.next=H.next→(∀ n∈F,G.get n=H.get n)→CallS P f (args.map (opv E)++ca) G (.ok v) (ext G M)) (hm:∀ r∈fps,Meets (anc.getD i 0) F [] (idsV v++M.flatMap fun x=>idsL x.l) r)
  (h:wkD P ops anc rest (i+1) (⟨i,F,[],H.next,H.next+M.length⟩::fps) (mkA N (upd E d v) ds) (ext H M) Q):genV P ops anc ⟨some d,.call ⟨.value x,⟨args⟩,ts⟩,ty,pos,after,none⟩ rest i fps (mkA N E ds) H Q :=
 genV_extO (v:=v) (M:=M) F rfl hd hF (fun G h1 h2=>by
  refine opS_of (x:=.enter f (args.map (opv E)++ca)) (g:=G) ?_ (hc G h1 h2)
  simp only[aop,xCall,aevals_opv ha,aeval_opv hx,hv,zA1,zA3,callV,aInvoke,enterN,hb,if_true,zB8,zA7]) hm h
theorem genV_sl {t:TypeId} {x:Operand} {lo hi mx:Option Operand} {v:Value} (F:List Nat) (hx:opOk P N x=true) (h1:bndsOk P N lo=true) (h2:bndsOk P N hi=true) (h3:bndsOk P N mx=true) (hd:d<N) (hF:∀ n∈F,H.get n≠none)
  (hc:∀ G:AHeap,(∀ n∈F,G.get n=H.get n)→aSlice P G t (opv E x) (bnds E lo) (bnds E hi) (bnds E mx)=some (v,G)) (hm:∀ r∈fps,Meets (anc.getD i 0) F [] (idsV v++([]:List Bl).flatMap fun x=>idsL x.l) r)
  (h:wkD P ops anc rest (i+1) (⟨i,F,[],H.next,H.next⟩::fps) (mkA N (upd E d v) ds) (ext H []) Q):genV P ops anc ⟨some d,.slice t x lo hi mx,ty,pos,after,none⟩ rest i fps (mkA N E ds) H Q :=
 genV_extO (v:=v) (M:=[]) F rfl hd hF (fun G _ h4=>opS_of (x:=.value v) (g:=G) (slice_aop hx h1 h2 h3 (hc G h4)) ⟨rfl,rfl⟩) hm h
end
end Go.Ax
namespace Go.Proofs.YtaojjfebkldmnaaDoor
open Go.Ax
theorem blank39_c (H:AHeap) (w:Nat) (h1:1≤w) (hw:w≤1000):CallS Tryd.prog 46 [.int .i64 (w:Int)] H (.ok (.slice (some ⟨H.next,0,some 0⟩) w w)) (ext H [⟨55,false,csOf (List.replicate w Ce.sp)⟩]):=by
 obtain⟨b,hb⟩:∃ b,H.next=b:=⟨_,rfl⟩
 refine callS_one (fun wf hsc=>?_) (fun _ _=>csOf_sc _ _)
 have hok:H.base≤H.next:=wf.base
 have hbase:H.base≤b:=hb▸wf.base
 refine callE_fn mixed Tryd.func46 rfl Tryd.ntmps46 (zA9 rfl) ?_
 simp (maxDischargeDepth:=6) only[hb,hbase,ruW,putL,Nat.reduceLeDiff,xF,ruU,entryE,Nat.reduceLT,Nat.reduceAdd,Nat.reduceMul,Nat.reduceEqDiff]
 refine (repeat_c w h1 hw Ce.sp (b+0) (some 0) (ext H [⟨55,false,Ce.sp.cells⟩]) (by rw[bk_at hb (by simp)]; rfl)).to ?_
 simp (maxDischargeDepth:=6) only[hb,Tryd.results46,ruW,putL,Nat.reduceLeDiff,xF,ruU,entryE,Nat.reduceLT,Nat.reduceAdd,Nat.reduceMul,Nat.reduceEqDiff]
 exact⟨b+1,rfl,by omega,by rw[bk_at hb (by simp)]; rfl,Mod.ext hok⟩
theorem scbL_sub {N:Nat} {L M:List Value} (h:scbL N L=true) (hs:∀ v∈M,v∈L):scbL N M=true:=scbL_iff.2 fun v hv=>scbL_iff.1 h v (hs v hv)
theorem one_sub {L M:List Value} (h:L.all one=true) (hs:∀ v∈M,v∈L):M.all one=true:=zC0.2 fun v hv=>zC0.1 h v (hs v hv)
theorem two_c (H:AHeap) (u1 u2:Value) (L1 L2:List Value) (n x:Nat) (hx:H.next=x) (P1:Part H u1 L1) (P2:Part H u2 L2) (h1:L1.all one=true) (h2:L2.all one=true) (s1:scbL H.next L1=true) (s2:scbL H.next L2=true) (hn:(L1++L2).length=n) (h0:0<n) (hn1:n≤10000) :
  CallS Tryd.prog 109 [.slice (some ⟨x+0,0,some 0⟩) 2 2] (ext H [⟨22,false,[u1,u2]⟩]) (.ok (.slice (some ⟨x+1,0,none⟩) n n)) (ext H [⟨22,false,[u1,u2]⟩,⟨56,true,L1++L2⟩]):=by
 have hnx:(ext H [⟨22,false,[u1,u2]⟩]).next=x+1:=by rw[ext_next,hx]; rfl
 have:=concat_c (ext H [⟨22,false,[u1,u2]⟩]) (x+0) (some 0) 2 22 false [(u1,L1),(u2,L2)] n (by rw[bk_at hx (by simp)]; rfl) (by omega) (fun q hq=>?_) (by simpa using hn) h0 hn1 (by simp)
 ·rw[hnx]at this
  simpa[ext_append]using this
 ·have le:H.next≤(ext H [⟨22,false,[u1,u2]⟩]).next:=by omega
  simp only[zB1,List.not_mem_nil,or_false]at hq
  rcases hq with rfl|rfl
  ·exact⟨P1.ext,h1,scbL_mono le _ s1⟩
  ·exact⟨P2.ext,h2,scbL_mono le _ s2⟩
theorem remove1_c (H:AHeap) (u1 u2:Value) (L1 L2:List Value) (b:Nat) (o:Op) (P1:Part H u1 L1) (P2:Part H u2 L2) (h1:L1.all one=true) (h2:L2.all one=true) (s1:scbL H.next L1=true) (s2:scbL H.next L2=true) (hb:bk H b=some ⟨47,false,o.cells⟩) (hbl:b<H.next)
  (k:Nat) (hk:o.n=(k:Int)) (hk0:0<k) (hk1:k≤L1.length) (h2l:L2.length=k) (hl:L1.length≤1000) :
  CallS Tryd.prog 108 [u1,u2,.pointer (some ⟨b,0,none⟩)] H (.ok (.slice (some ⟨H.next,0,none⟩) L1.length L1.length)) (ext H [⟨56,true,mid true L1 L2 k⟩]):=by
 obtain⟨x,hx⟩:∃ x,H.next=x:=⟨_,rfl⟩
 obtain⟨u3,hsl,P3,_⟩:=P1.slice (by intro e; rw[e]at hk1; simp at hk1; omega) (x:=some (.int .i64 (k:Int))) (y:=none) (lo:=k) (hi:=L1.length) (by simp[bound]) rfl hk1 (zA4 _)
 rw[zF6]at P3
 have hmid:mid true L1 L2 k=[(u3,L1.drop k),(u2,L2)].flatMap Prod.snd:=by simp[mid]
 refine callS_one (fun wf hsc=>?_) (fun _ _=>?_)
 ·rw[hx]
  rw[hx]at hbl
  have hok:H.base≤H.next:=wf.base
  have hbx:H.base≤x:=hx▸hok
  have sc1:=P3.sc
  have sc2:=P2.sc
  have tw:=two_c H u3 u2 (L1.drop k) L2 L1.length x hx P3 P2 (one_sub h1 fun v hv=>zE6 hv) h2 (scbL_sub s1 fun v hv=>zE6 hv) s2 (by simp only[zB7,zC5]; omega) (by omega) (by omega)
  rw[hx]at sc1 sc2
  obtain⟨a3,c3,e3⟩:=P3.len
  obtain⟨a2,c2,e2⟩:=P2.len
  subst e3 e2
  refine callE_fn mixed Tryd.func108 rfl Tryd.ntmps108 (zA9 rfl) ?_
  simp (maxDischargeDepth:=6) only[hx,hbl,hb,Op.cells,hk,hsl (ext H []) (fun _ _=>rfl),sc1,sc2,hbx,ruW,putL,Nat.reduceLeDiff,xF,ruU,entryE,Nat.reduceLT,Nat.reduceAdd,Nat.reduceMul,Nat.reduceEqDiff]
  refine tw.to ?_
  simp (maxDischargeDepth:=6) only[hx,Tryd.results108,ruW,putL,Nat.reduceLeDiff,xF,ruU,entryE,Nat.reduceLT,Nat.reduceAdd,Nat.reduceMul,Nat.reduceEqDiff]
  exact⟨x+1,rfl,by omega,by rw[bk_at hx (by simp)]; rfl,Mod.ext hok⟩
 ·exact scbL_append (scbL_sub s1 fun v hv=>zE6 hv) s2
theorem insert1_c (H:AHeap) (u1 u2:Value) (L1 L2:List Value) (b:Nat) (o:Op) (P1:Part H u1 L1) (P2:Part H u2 L2) (h1:L1.all one=true) (h2:L2.all one=true) (s1:scbL H.next L1=true) (s2:scbL H.next L2=true) (hb:bk H b=some ⟨47,false,o.cells⟩) (hbl:b<H.next)
  (k:Nat) (hk:o.n=(k:Int)) (hk0:0<k) (hk1:k≤L1.length) (h2l:L2.length=k) (hl:L1.length≤1000) :
  CallS Tryd.prog 110 [u1,u2,.pointer (some ⟨b,0,none⟩)] H (.ok (.slice (some ⟨H.next,0,none⟩) L1.length L1.length)) (ext H [⟨56,true,mid false L1 L2 k⟩]):=by
 obtain⟨x,hx⟩:∃ x,H.next=x:=⟨_,rfl⟩
 obtain⟨u3,hsl,P3,_⟩:=P1.slice (by intro e; rw[e]at hk1; simp at hk1; omega) (x:=none) (y:=some (.int .i64 ((L1.length-k:Nat):Int))) (lo:=0) (hi:=L1.length-k) rfl (by simp only[bound]; rw[if_pos (by omega)]; simp) (zB2 _) (by omega)
 rw[zD6]at P3
 have hwr:IntKind.i64.wrap ((L1.length:Int)-(k:Int))=((L1.length-k:Nat):Int):=(wrap_sm (by omega) (by omega)).trans (by omega)
 have hmid:mid false L1 L2 k=[(u2,L2),(u3,L1.take (L1.length-k))].flatMap Prod.snd:=by simp[mid]
 refine callS_one (fun wf hsc=>?_) (fun _ _=>?_)
 ·rw[hx]
  rw[hx]at hbl
  have hok:H.base≤H.next:=wf.base
  have hbx:H.base≤x:=hx▸hok
  have sc1:=P3.sc
  have sc2:=P2.sc
  have tw:=two_c H u2 u3 L2 (L1.take (L1.length-k)) L1.length x hx P2 P3 h2 (one_sub h1 fun v hv=>zE5 hv) s2 (scbL_sub s1 fun v hv=>zE5 hv) (by simp only[zB7,zD9]; omega) (by omega) (by omega)
  rw[hx]at sc1 sc2
  obtain⟨a1,c1,e1⟩:=P1.len
  obtain⟨a3,c3,e3⟩:=P3.len
  obtain⟨a2,c2,e2⟩:=P2.len
  subst e1 e3 e2
  refine callE_fn mixed Tryd.func110 rfl Tryd.ntmps110 (zA9 rfl) ?_
  simp (maxDischargeDepth:=6) only[hx,hbl,hb,Op.cells,hk,hwr,hsl (ext H []) (fun _ _=>rfl),sc1,sc2,hbx,ruW,putL,Nat.reduceLeDiff,xF,ruU,entryE,Nat.reduceLT,Nat.reduceAdd,Nat.reduceMul,Nat.reduceEqDiff]
  refine tw.to ?_
  simp (maxDischargeDepth:=6) only[hx,Tryd.results110,ruW,putL,Nat.reduceLeDiff,xF,ruU,entryE,Nat.reduceLT,Nat.reduceAdd,Nat.reduceMul,Nat.reduceEqDiff]
  exact⟨x+1,rfl,by omega,by rw[bk_at hx (by simp)]; rfl,Mod.ext hok⟩
 ·exact scbL_append s2 (scbL_sub s1 fun v hv=>zE5 hv)
def St.roll (W:Nat) (x:St) (o:Op) (up:Bool):Option St :=
 if (decide (0≤o.row)&&decide (o.row≤o.col)&&decide (o.col<x.grid.length)&&decide (1≤o.n)&&decide (o.n≤o.col-o.row+1))=true then
   some {x with grid:=rollR W x.grid o.row.toNat o.col.toNat o.n.toNat up} else none
theorem scrolls_c (N:Nat) (H:AHeap) (p W:Nat) (v:Value) (rvs:List Value) (x:St) (o:Op) (up:Bool) (f b0:Nat) (hb:hasBody Tryd.prog f=true) (a:StAt 76 N H p v rvs x) (sl:Slc v) (hok:H.base≤H.next) (ok:x.Ok W)
  (ho:bk H b0=some ⟨47,false,o.cells⟩) (hob:b0<H.next)
  (hf:∀ (G:AHeap) (u1 u2:Value) (L1 L2:List Value),Part G u1 L1→Part G u2 L2→L1.all one=true→L2.all one=true→scbL G.next L1=true→scbL G.next L2=true→bk G b0=some ⟨47,false,o.cells⟩→b0<G.next →
   ∀ k:Nat,o.n=(k:Int)→0<k→k≤L1.length→L2.length=k→L1.length≤1000→CallS Tryd.prog f [u1,u2,.pointer (some ⟨b0,0,none⟩)] G (.ok (.slice (some ⟨G.next,0,none⟩) L1.length L1.length)) (ext G [⟨56,true,mid up L1 L2 k⟩])) :
  CallA Tryd.prog 107 [.pointer (some ⟨p,0,none⟩),o.val,.func (.func f) ⟨[]⟩ ⟨[.pointer (some ⟨b0,0,none⟩)]⟩] H (StepR 76 N p (x.roll W o up) H):=by
 obtain⟨b,hbn⟩:∃ b,H.next=b:=⟨_,rfl⟩
 have hpl:=a.lt
 rw[hbn]at hpl hob
 have hcell:=a.cell
 simp only[St.cells]at hcell
 have m0:Mod [] H (ext H [⟨47,false,o.cells⟩]):=Mod.ext hok
 have aX:=a.mod0 m0
 obtain⟨d1,h1⟩:∃ d,decide (0≤o.row)=d:=⟨_,rfl⟩
 obtain⟨d2,h2⟩:∃ d,decide (o.row≤o.col)=d:=⟨_,rfl⟩
 obtain⟨d3,h3⟩:∃ d,decide (o.col<x.grid.length)=d:=⟨_,rfl⟩
 obtain⟨d4,h4⟩:∃ d,decide (1≤o.n)=d:=⟨_,rfl⟩
 obtain⟨d5,h5⟩:∃ d,decide (o.n≤o.col-o.row+1)=d:=⟨_,rfl⟩
 obtain⟨mb,hb',ev⟩:=id sl
 have ehb:hb'=x.grid.length:=by
  rcases aX.own.at_ with⟨h,_⟩|⟨_,_,_,_,h,_⟩
  ·have:=ok.h1; rw[h]at this; simp at this
  ·rw[ev]at h; cases h; rfl
 subst ehb
 unfold St.roll
 rw[h1,h2,h3,h4,h5]
 refine callE_fn mixed Tryd.func107 rfl Tryd.ntmps107 (zA9 rfl) ?_
 simp (maxDischargeDepth:=6) only[Op.val,Op.cells,hbn,ruW,putL,Nat.reduceLeDiff,xF,ruU,entryE,Nat.reduceLT,Nat.reduceAdd,Nat.reduceMul,Nat.reduceEqDiff]
 by_cases hall:(d1&&d2&&d3&&d4&&d5)=true
 ·rw[if_pos hall]
  simp only[zA5]at hall
  obtain⟨⟨⟨⟨rfl,rfl⟩,rfl⟩,rfl⟩,rfl⟩:=hall
  have i1:=of_decide_eq_true h1
  have i2:=of_decide_eq_true h2
  have i3:=of_decide_eq_true h3
  have i4:=of_decide_eq_true h4
  have i5:=of_decide_eq_true h5
  have hh:=ok.h2
  have hw1:IntKind.i64.wrap (o.col-o.row)=o.col-o.row:=wrap_sm (by omega) (by omega)
  have hw2:IntKind.i64.wrap (o.col-o.row+1)=o.col-o.row+1:=wrap_sm (by omega) (by omega)
  rw[ev]at hcell
  refine w_drawB [] [(3,10),(10,17),(21,28),(26,33)] (by kernel_rfl) rfl (by kernel_rfl) fun ops anc hA hG=>?_
  simp only[all2_cons]at hG
  simp (maxDischargeDepth:=6) only[hbn,hpl,hcell,h1,h2,h3,h4,h5,hw1,hw2,hG,ruD,ruW,putL,Nat.reduceLeDiff,xF,ruU,entryE,Nat.reduceLT,Nat.reduceAdd,Nat.reduceMul,Nat.reduceEqDiff]
  refine genV_quiet (v:=.tuple ⟨[]⟩) [] rfl rfl (zA9 rfl) (by simp) (fun G hn hg=>needs_t G) (by simp[Meets]) ?_
  simp (maxDischargeDepth:=6) only[hbn,hpl,hcell,ruD,ruW,putL,Nat.reduceLeDiff,xF,ruU,entryE,Nat.reduceLT,Nat.reduceAdd,Nat.reduceMul,Nat.reduceEqDiff]
  refine w_env fun E hE=>?_
  have g0:E 0=.pointer (some ⟨p,0,none⟩):=by rw[hE]; simp only[ruU,entryE,Nat.reduceLT,Nat.reduceAdd,Nat.reduceMul,Nat.reduceEqDiff]
  have g2:E 2=.func (.func f) ⟨[]⟩ ⟨[.pointer (some ⟨b0,0,none⟩)]⟩:=by rw[hE]; simp only[ruU,entryE,Nat.reduceLT,Nat.reduceAdd,Nat.reduceMul,Nat.reduceEqDiff]
  have g4:E 4=.pointer (some ⟨b+0,0,none⟩):=by rw[hE]; simp only[ruU,entryE,Nat.reduceLT,Nat.reduceAdd,Nat.reduceMul,Nat.reduceEqDiff]
  have g6:E 6=.slice none 0 0:=by rw[hE]; simp only[ruU,entryE,Nat.reduceLT,Nat.reduceAdd,Nat.reduceMul,Nat.reduceEqDiff]
  have g46:E 46=.int .i64 o.n:=by rw[hE]; simp only[ruU,entryE,Nat.reduceLT,Nat.reduceAdd,Nat.reduceMul,Nat.reduceEqDiff]
  have g47:E 47=.int .i64 ((0:Nat):Int):=by rw[hE]; (simp only[ruU,entryE,Nat.reduceLT,Nat.reduceAdd,Nat.reduceMul,Nat.reduceEqDiff]<;>rfl)
  clear hE
  obtain⟨X,hX⟩:∃ X,ext H [⟨47,false,o.cells⟩]=X:=⟨_,rfl⟩
  have hXo:bk X (b+0)=some ⟨47,false,o.cells⟩:=by rw[←hX,bk_at hbn (by simp)]; rfl
  have hXn:X.next=b+1:=by rw[←hX,ext_next,hbn]; rfl
  have hXb:bk X b0=some ⟨47,false,o.cells⟩:=(m0.bk (by omega) (by simp)).trans ho |> fun h=>by rw[←hX]; exact h
  rw[show ext H [⟨47,false,o.cells⟩]=X from hX]at aX m0
  simp only[Op.cells]at hX
  rw[hX]
  have okX:=m0.ok hok
  obtain⟨n,hn'⟩:∃ n:Nat,o.n=n:=⟨o.n.toNat,by omega⟩
  rw[hn']at g46
  refine blockC_meet (fun E' Y=>Mod [] X Y∧E' 0=.pointer (some ⟨p,0,none⟩)∧E' 2=.func (.func f) ⟨[]⟩ ⟨[.pointer (some ⟨b0,0,none⟩)]⟩∧E' 4=.pointer (some ⟨b+0,0,none⟩)∧∃ u fr,E' 6=u∧Grow (b+1) Y u fr (List.replicate n (List.replicate W Ce.sp))) ?_ ?_
  ·rw[show X=ext X [] from rfl]
   refine w_loop (fun (q:Nat × Value × List Value) E' Y=>Mod [] X Y∧E' 0=.pointer (some ⟨p,0,none⟩)∧E' 2=.func (.func f) ⟨[]⟩ ⟨[.pointer (some ⟨b0,0,none⟩)]⟩∧E' 4=.pointer (some ⟨b+0,0,none⟩)∧E' 6=q.2.1∧E' 46=.int .i64 (n:Int)∧E' 47=.int .i64 (q.1:Int)∧q.1≤n∧Grow (b+1) Y q.2.1 q.2.2 (List.replicate q.1 (List.replicate W Ce.sp))) (fun q=>n-q.1) (0,.slice none 0 0,[])
    ⟨Mod.refl,g0,g2,g4,g6,g46,g47,zB2 _,Grow.nil⟩ ?_
   clear g0 g2 g4 g6 g46 g47
   rintro⟨k,u,fr⟩ E Y ⟨mY,g0,g2,g4,g6,g46,g47,hk,gr⟩
   simp only at g6 g47 hk gr
   rw[show Y=ext Y [] from rfl]
   by_cases hkn:k=n
   ·have hc:decide ((k:Int)<(n:Int))=false:=by simp[hkn]
    simp (maxDischargeDepth:=6) only[g46,g47,hc,ruW,putL,Nat.reduceLeDiff,xF,ruU,entryE,Nat.reduceLT,Nat.reduceAdd,Nat.reduceMul,Nat.reduceEqDiff]
    rw[hkn]at gr
    exact joinR_normal ⟨mY,by simp only[g0,ruU,entryE,Nat.reduceLT,Nat.reduceAdd,Nat.reduceMul,Nat.reduceEqDiff],by simp only[g2,ruU,entryE,Nat.reduceLT,Nat.reduceAdd,Nat.reduceMul,Nat.reduceEqDiff],by simp only[g4,ruU,entryE,Nat.reduceLT,Nat.reduceAdd,Nat.reduceMul,Nat.reduceEqDiff],u,fr,by simp only[g6,ruU,entryE,Nat.reduceLT,Nat.reduceAdd,Nat.reduceMul,Nat.reduceEqDiff],gr⟩
   ·have hc:decide ((k:Int)<(n:Int))=true:=decide_eq_true (by omega)
    have okY:=mY.ok okX
    have aY:=aX.mod0 mY
    obtain⟨_,_,_,_,hwd⟩:=dwidth_c aY ok
    have hwY:CallS Tryd.prog 50 [.pointer (some ⟨p,0,none⟩)] (ext Y []) (.ok (.int .i64 W)) (ext Y []):=hwd Y rfl (fun _ _=>rfl)
    obtain⟨y,hy⟩:∃ y,Y.next=y:=⟨_,rfl⟩
    have hyb:Y.base≤y:=hy▸okY
    have hby:b+1≤y:=by have:=mY.next; omega
    obtain⟨rv,hrv⟩:∃ rv,rv=Value.slice (some ⟨y+0,0,some 0⟩) W W:=⟨_,rfl⟩
    obtain⟨Y2,hY2⟩:∃ Y2,ext Y [⟨55,false,csOf (List.replicate W Ce.sp)⟩,⟨56,false,[rv]⟩]=Y2:=⟨_,rfl⟩
    have mY2:Mod [] Y Y2:=hY2▸Mod.ext okY
    have nY2:Y2.next=y+2:=by rw[←hY2,ext_next,hy]; rfl
    have b1:bk Y2 (y+0)=some ⟨55,false,csOf (List.replicate W Ce.sp)⟩:=by rw[←hY2,bk_at hy (by simp)]; rfl
    have b2:bk Y2 (y+1)=some ⟨56,false,[rv]⟩:=by rw[←hY2,bk_at hy (by simp)]; rfl
    have hone:one rv=true:=by rw[hrv]; rfl
    have hlr:(List.replicate k (List.replicate W Ce.sp)).length=k:=List.length_replicate
    have vs:=gr.at_.of (G:=Y2) mY2.next (fun q hq=>mY2.get q (gr.at_.ne q hq).2 (by simp))
    rw[hlr]at vs
    have hscr:scbL Y2.next (fr++[rv])=true:=scbL_append (scbL_mono mY2.next _ gr.sc) (by rw[hrv]; simp only[scbL,scb,Bool.and_true]; exact blt_of (by omega))
    obtain⟨Z,hap,hvs,hmd,hzn,_⟩:=vs_app (P:=Tryd.prog) (H:=Y2) (st:=22) (xt:=22) (e:=56) (sz:=1) (by1:=24) (z:=.slice none 0 0) (n:=y+1) (off:=0) (cnt2:=1) (cap:=1) (s:=some 0) (x:=Y2.next) (ws:=[rv]) (b:=⟨56,false,[rv]⟩)
     uRows szCells byCells zr rfl (by kernel_rfl) vs (rk_of b2) (by simp) rfl (by simp[hone]) (by decide) (smallC (by omega)) rfl hscr
    have mZ:=hmd (mY2.ok okY)
    rw[nY2]at hap hvs hzn
    have hbz:bk Z (y+2)=some ⟨56,true,fr++[rv]⟩:=by
     obtain⟨_,_,⟨h0,_⟩|⟨_,n,e,hbn,_⟩⟩:=hvs
     ·omega
     ·cases e; exact hbn
    have gr2:=gr.push (rv:=rv) (l:=List.replicate W Ce.sp) (Y:=Y2) (Z:=Z) mY2 (by omega) ⟨y+0,false,0,false,by rw[hrv,List.length_replicate]; rfl,b1,by omega,by omega⟩ (fun q hq=>by rw[hrv]at hq; simp only[idsV,zA8]at hq; omega) hone mZ (by rw[nY2]; exact hbz) (by omega)
    rw[nY2,hlr,show List.replicate k (List.replicate W Ce.sp)++[List.replicate W Ce.sp]=List.replicate (k+1) (List.replicate W Ce.sp) from (List.replicate_succ' ..).symm]at gr2
    simp (maxDischargeDepth:=6) only[g0,g6,g46,g47,hc,ruW,putL,Nat.reduceLeDiff,xF,ruU,entryE,Nat.reduceLT,Nat.reduceAdd,Nat.reduceMul,Nat.reduceEqDiff]
    refine hwY.to ?_
    simp (maxDischargeDepth:=6) only[g0,g6,g46,g47,hy,ruW,putL,Nat.reduceLeDiff,xF,ruU,entryE,Nat.reduceLT,Nat.reduceAdd,Nat.reduceMul,Nat.reduceEqDiff]
    refine (blank39_c (ext Y []) W ok.w1 ok.w2).to ?_
    simp (maxDischargeDepth:=6) only[hy,hyb,ruW,putL,Nat.reduceLeDiff,xF,ruU,entryE,Nat.reduceLT,Nat.reduceAdd,Nat.reduceMul,Nat.reduceEqDiff]
    rw[hrv]at hY2
    rw[hY2]
    simp (maxDischargeDepth:=6) only[hap,g47,wrap_succ (show k<1000000 by omega),ruW,putL,Nat.reduceLeDiff,xF,ruU,entryE,Nat.reduceLT,Nat.reduceAdd,Nat.reduceMul,Nat.reduceEqDiff]
    refine loopC_next ⟨(k+1,.slice (some ⟨y+2,0,none⟩) (k+1) (k+1),fr++[rv]),by simp only; omega,(mY.trans mY2).step mZ okX (fun q hq=>.inr (by have:=(gr.apart q hq).1; omega)),?_,?_,?_,?_,?_,?_,by simp only; omega,gr2⟩
    ·simp only[g0,ruU,entryE,Nat.reduceLT,Nat.reduceAdd,Nat.reduceMul,Nat.reduceEqDiff]
    ·simp only[g2,ruU,entryE,Nat.reduceLT,Nat.reduceAdd,Nat.reduceMul,Nat.reduceEqDiff]
    ·simp only[g4,ruU,entryE,Nat.reduceLT,Nat.reduceAdd,Nat.reduceMul,Nat.reduceEqDiff]
    ·simp only[ruU,entryE,Nat.reduceLT,Nat.reduceAdd,Nat.reduceMul,Nat.reduceEqDiff]
    ·simp only[g46,ruU,entryE,Nat.reduceLT,Nat.reduceAdd,Nat.reduceMul,Nat.reduceEqDiff]
    ·simp only[ruU,entryE,Nat.reduceLT,Nat.reduceAdd,Nat.reduceMul,Nat.reduceEqDiff]
  ·clear g0 g2 g4 g6 g46 g47
   rintro E Y ⟨mY,g0,g2,g4,u,fr,g6,gr⟩
   have okY:=mY.ok okX
   have aY:=aX.mod0 mY
   obtain⟨y,hy⟩:∃ y,Y.next=y:=⟨_,rfl⟩
   have hyb:Y.base≤y:=hy▸okY
   have hby:b+1≤y:=by have:=mY.next; omega
   have hpY:p<y:=by omega
   have hboY:b+0<y:=by omega
   have hb0Y:b0<y:=by omega
   have kp:=aY.cell
   simp only[St.cells]at kp
   rw[ev]at kp
   have kb:bk Y (b+0)=some ⟨47,false,o.cells⟩:=(mY.bk (by omega) (by simp)).trans hXo
   have kb0:bk Y b0=some ⟨47,false,o.cells⟩:=(mY.bk (by omega) (by simp)).trans hXb
   obtain⟨om,hbm,hmy⟩:∃ om,bk Y mb=some ⟨56,om,rvs⟩∧mb<y:=by
    rcases aY.own.at_ with⟨h,_⟩|⟨m,s,c,om,e,h1,_,h2,_⟩
    ·rw[h]at i3; simp at i3; omega
    ·rw[ev]at e; cases e; exact⟨om,h1,by omega⟩
   have hmp:mb≠p:=fun e=>a.apart (zE4 _ (by rw[ev,e]; simp[idsV]))
   have hlr:rvs.length=x.grid.length:=a.own.len
   obtain⟨top,htop⟩:∃ k:Nat,o.row=k:=⟨o.row.toNat,by omega⟩
   obtain⟨bot,hbot⟩:∃ k:Nat,o.col=k:=⟨o.col.toNat,by omega⟩
   have hvone:rvs.all one=true:=zC0.2 fun rv hrv=>by
    obtain⟨i,hi⟩:=List.getElem?_of_mem hrv
    obtain⟨l,_,n,s,c,o',rfl,_⟩:=aY.own.lOf hi
    rfl
   have hvsc:scbL Y.next rvs=true:=scbL_iff.2 fun rv hrv=>by
    obtain⟨i,hi⟩:=List.getElem?_of_mem hrv
    obtain⟨l,_,n,s,c,o',rfl,_,_,h⟩:=aY.own.lOf hi
    exact blt_of h
   have hne:rvs≠[]:=fun e=>by rw[e]at hlr; simp at hlr; omega
   have PV:Part Y v rvs:=⟨some ⟨mb,0,none⟩,x.grid.length,by rw[ev,hlr],by rw[ev]; exact blt_of (show mb<Y.next by omega),.inr ⟨zE9 hlr,mb,0,none,_,rfl,.inl rfl,hbm,by omega,by simp,by simp⟩⟩
   obtain⟨uA,slA,PA,iA⟩:=PV.slice hne (x:=none) (y:=some (.int .i64 (top:Int))) (lo:=0) (hi:=top) rfl (by simp[bound]) (zB2 _) (by omega)
   obtain⟨uB,slB,PB,iB⟩:=PV.slice hne (x:=some (.int .i64 (top:Int))) (y:=some (.int .i64 ((bot+1:Nat):Int))) (lo:=top) (hi:=bot+1) (by simp[bound]) (by simp only[bound]; rw[if_pos (by omega)]; simp) (by omega) (by omega)
   obtain⟨uC,slC,PC,iC⟩:=PV.slice hne (x:=some (.int .i64 ((bot+1:Nat):Int))) (y:=none) (lo:=bot+1) (hi:=rvs.length) (by simp only[bound]; rw[if_pos (by omega)]; simp) rfl (by omega) (zA4 _)
   rw[zD6]at PA
   rw[zF6]at PC
   rw[show (rvs.take (bot+1)).drop top=part rvs top bot from rfl]at PB
   have hwb:IntKind.i64.wrap ((bot:Int)+1)=((bot+1:Nat):Int):=wrap_succ (by omega)
   rw[ev]at slA slB slC iA iB iC
   have iv:idsV (.slice (some ⟨mb,0,none⟩) x.grid.length x.grid.length)=[mb]:=rfl
   rw[iv]at iA iB iC
   have hgl:(List.replicate n (List.replicate W Ce.sp)).length=n:=List.length_replicate
   obtain⟨hu1,hu2,⟨hu0,_⟩|⟨hu0,nu,eu,kbu,hnu⟩⟩:=gr.at_
   ·omega
   rw[hgl]at eu hu1
   subst eu
   have PU:Part Y (.slice (some ⟨nu,0,none⟩) n n) fr:=⟨_,_,by rw[show fr.length=n by omega],blt_of hnu,.inr ⟨by omega,nu,0,none,_,rfl,.inl rfl,kbu,hnu,by simp,by simp⟩⟩
   have hplen:=part_len (g:=rvs) (top:=top) (bot:=bot) (by omega)
   rw[show Y=ext Y [] from rfl]
   refine w_drawB [(32,8),(32,22),(32,31),(33,32),(33,22),(37,5),(37,8),(37,14),(37,20),(37,22),(37,27),(37,31),(37,32),(37,33)] [] (by kernel_rfl) (by kernel_rfl) rfl fun ops anc hA hG=>?_
   simp only[all2_cons]at hA
   simp only[htop,hbot,Op.cells]at kb
   simp (maxDischargeDepth:=6) only[g0,g2,g4,g6,hy,hyb,hpY,hboY,kp,kb,wd_slice,hA,ruD,ruW,putL,Nat.reduceLeDiff,xF,ruU,entryE,Nat.reduceLT,Nat.reduceAdd,Nat.reduceMul,Nat.reduceEqDiff]
   have hF1:∀ q∈[mb],(ext Y []).get q≠none:=fun q hq=>by rw[zA8.1 hq]; exact bk_ne hbm
   refine genV_sl (v:=uA) [mb] rfl rfl rfl rfl (zA9 rfl) hF1 (fun G hG=>by simp only[bnds_none,bnds_some,ruU,entryE,Nat.reduceLT,Nat.reduceAdd,Nat.reduceMul,Nat.reduceEqDiff]; exact slA G (fun q hq=>hG q hq)) (by simp[Meets]) ?_
   simp (maxDischargeDepth:=6) only[g0,g2,g4,g6,hy,hyb,hpY,hboY,kp,kb,hwb,wd_slice,hA,ruD,ruW,putL,Nat.reduceLeDiff,xF,ruU,entryE,Nat.reduceLT,Nat.reduceAdd,Nat.reduceMul,Nat.reduceEqDiff]
   refine genV_sl (v:=uB) [mb] rfl rfl rfl rfl (zA9 rfl) hF1 (fun G hG=>by simp only[bnds_none,bnds_some,ruU,entryE,Nat.reduceLT,Nat.reduceAdd,Nat.reduceMul,Nat.reduceEqDiff]; exact slB G (fun q hq=>hG q hq)) (by simp[Meets]) ?_
   simp (maxDischargeDepth:=6) only[g0,g2,g4,g6,hy,hyb,hpY,hboY,kp,kb,hwb,wd_slice,hA,ruD,ruW,putL,Nat.reduceLeDiff,xF,ruU,entryE,Nat.reduceLT,Nat.reduceAdd,Nat.reduceMul,Nat.reduceEqDiff]
   have hfr1:fr.all one=true:=hu2
   have hF2:∀ q∈[mb,nu,b0],(ext Y []).get q≠none:=fun q hq=>by
    simp only[zB1,List.not_mem_nil,or_false]at hq
    rcases hq with rfl|rfl|rfl
    ·exact bk_ne hbm
    ·exact bk_ne kbu
    ·exact bk_ne kb0
   obtain⟨lb,hlb⟩:∃ lb,(part rvs top bot).length=lb:=⟨_,rfl⟩
   refine genV_extV (f:=f) (v:=.slice (some ⟨y,0,none⟩) lb lb) (M:=[⟨56,true,mid up (part rvs top bot) fr n⟩]) (ca:=[.pointer (some ⟨b0,0,none⟩)]) [mb,nu,b0] rfl (by simp only[ruU,entryE,Nat.reduceLT,Nat.reduceAdd,Nat.reduceMul,Nat.reduceEqDiff]) rfl hb (zA9 rfl) hF2 (fun G hn hG=>?_) (by simp[Meets]) ?_
   ·replace hn:G.next=Y.next:=hn
    have:=hf G uB (.slice (some ⟨nu,0,none⟩) n n) (part rvs top bot) fr (PB.of (by omega) fun q hq=>hG q (by have:=iB q hq; simp only[zA8]at this; simp[this])) (PU.of (by omega) fun q hq=>hG q (by simp only[idsV,zA8]at hq; simp[hq])) (one_sub hvone fun z hz=>zE5 (zE6 hz)) hfr1 (by rw[hn]; exact scbL_sub hvsc fun z hz=>zE5 (zE6 hz)) (by rw[hn]; exact gr.sc) ((bk_get (hG b0 (by simp))).trans kb0) (by omega) n hn' (by omega) (by omega) (by omega) (by omega)
    rw[hlb,hn,hy]at this
    simp only[ruU,entryE,Nat.reduceLT,Nat.reduceAdd,Nat.reduceMul,Nat.reduceEqDiff]
    exact this
   simp (maxDischargeDepth:=6) only[g0,g2,g4,g6,hy,hyb,hpY,hboY,kp,kb,hwb,wd_slice,hA,ruD,ruW,putL,Nat.reduceLeDiff,xF,ruU,entryE,Nat.reduceLT,Nat.reduceAdd,Nat.reduceMul,Nat.reduceEqDiff]
   refine⟨.inr (fun q hq=>by simp only[idsV,zA8]at hq; omega),?_⟩
   have hmb1:(ext Y [⟨56,true,mid up (part rvs top bot) fr n⟩]).get mb=Y.get mb:=ext_get_old (by omega)
   have hF3:∀ q∈[mb],(ext Y [⟨56,true,mid up (part rvs top bot) fr n⟩]).get q≠none:=fun q hq=>by rw[zA8.1 hq,hmb1]; exact bk_ne hbm
   refine genV_sl (v:=uC) [mb] rfl rfl rfl rfl (zA9 rfl) hF3 (fun G hG=>by simp only[bnds_none,bnds_some,ruU,entryE,Nat.reduceLT,Nat.reduceAdd,Nat.reduceMul,Nat.reduceEqDiff]; exact slC G (fun q hq=>by rw[hG q hq,zA8.1 hq,hmb1])) ?_ ?_
   ·simp only[meets_cons,meets_eq,meets_newer,meets_nil,nmem_one,nmem_nil,nmem_cons,and_true,implies_true,or_true,zA8,List.flatMap_nil,zC8]
    refine⟨.inr (by simp),.inr (by simp),.inr ⟨by simp,trivial,fun _=>⟨fun q hq=>.inl (by omega),fun q hq=>.inl (by have:=iC q hq; simp only[zA8]at this; omega)⟩⟩,?_⟩
    simp[Meets]
   obtain⟨aA,cA,eA⟩:=PA.len
   obtain⟨aC,cC,eC⟩:=PC.len
   have scA:=PA.sc
   have scC:=PC.sc
   rw[hy]at scA scC
   have iA':=iA
   have iC':=iC
   rw[eA]at scA iA'
   rw[eC]at scC iC'
   have hy01:y<y+1:=zC7 y
   simp (maxDischargeDepth:=6) only[g0,g2,g4,g6,hy,hyb,hpY,hboY,kp,kb,hwb,wd_slice,eA,eC,scA,scC,hy01,hA,ruD,ruW,putL,Nat.reduceLeDiff,xF,ruU,entryE,Nat.reduceLT,Nat.reduceAdd,Nat.reduceMul,Nat.reduceEqDiff]
   rw[←eA,←eC]
   have hmidl:(mid up (part rvs top bot) fr n).length=lb:=by rw[mid_len (by omega) (by omega),hlb]
   have hgln:(glue up rvs fr top bot n).length=x.grid.length:=by rw[glue_len (by omega) (by omega) (by omega) (by omega),hlr]
   obtain⟨Y3,hY3⟩:∃ Y3,ext Y [⟨56,true,mid up (part rvs top bot) fr n⟩,⟨22,false,[uA,.slice (some ⟨y,0,none⟩) lb lb,uC]⟩]=Y3:=⟨_,rfl⟩
   have mY3:Mod [] Y Y3:=hY3▸Mod.ext okY
   have nY3:Y3.next=y+2:=by rw[←hY3,ext_next,hy]; rfl
   have q0:bk Y3 (y+0)=some ⟨56,true,mid up (part rvs top bot) fr n⟩:=by rw[←hY3,bk_at hy (by simp)]; rfl
   have q1:bk Y3 (y+1)=some ⟨22,false,[uA,.slice (some ⟨y,0,none⟩) lb lb,uC]⟩:=by rw[←hY3,bk_at hy (by simp)]; rfl
   have qm:Y3.get mb=Y.get mb:=mY3.get mb (by omega) (by simp)
   rw[hY3]
   have hF4:∀ q∈[y+1,mb,y+0],Y3.get q≠none:=fun q hq=>by
    simp only[zB1,List.not_mem_nil,or_false]at hq
    rcases hq with rfl|rfl|rfl
    ·exact bk_ne q1
    ·rw[qm]; exact bk_ne hbm
    ·exact bk_ne q0
   have hmone:(mid up (part rvs top bot) fr n).all one=true:=zC0.2 fun z hz=>by
    rcases mid_mem hz with h|h
    ·exact zC0.1 hvone z (zE5 (zE6 h))
    ·exact zC0.1 hfr1 z h
   have hmsc:scbL Y.next (mid up (part rvs top bot) fr n)=true:=scbL_iff.2 fun z hz=>by
    rcases mid_mem hz with h|h
    ·exact scbL_iff.1 hvsc z (zE5 (zE6 h))
    ·exact scbL_iff.1 gr.sc z h
   refine genV_ext (H:=Y3) (v:=.slice (some ⟨y+2,0,none⟩) x.grid.length x.grid.length) (M:=[⟨56,true,glue up rvs fr top bot n⟩]) [y+1,mb,y+0] rfl (by kernel_rfl) (zA9 rfl) hF4 (fun G hn hG=>?_) ?_ ?_
   ·have hGn:G.next=y+2:=by rw[hn,nY3]
    have hP:∀ z∈[(uA,rvs.take top),(Value.slice (some ⟨y,0,none⟩) lb lb,mid up (part rvs top bot) fr n),(uC,rvs.drop (bot+1))],Part G z.1 z.2∧z.2.all one=true∧scbL G.next z.2=true:=fun z hz=>by
     have hle:Y.next≤G.next:=by omega
     simp only[zB1,List.not_mem_nil,or_false]at hz
     rcases hz with rfl|rfl|rfl
     ·exact⟨PA.of hle fun q hq=>by have:=iA q hq; simp only[zA8]at this; rw[hG q (by simp[this]),this,qm],one_sub hvone fun z hz=>zE5 hz,scbL_mono hle _ (scbL_sub hvsc fun z hz=>zE5 hz)⟩
     ·refine⟨⟨some ⟨y,0,none⟩,lb,by rw[hmidl],blt_of (show y<G.next by omega),.inr ⟨zE9 hmidl,y,0,none,_,rfl,.inl rfl,(bk_get (hG (y+0) (by simp))).trans q0,by omega,by simp,by simp⟩⟩,hmone,scbL_mono hle _ hmsc⟩
     ·exact⟨PC.of hle fun q hq=>by have:=iC q hq; simp only[zA8]at this; rw[hG q (by simp[this]),this,qm],one_sub hvone fun z hz=>zE6 hz,scbL_mono hle _ (scbL_sub hvsc fun z hz=>zE6 hz)⟩
    have:=concat_c G (y+1) (some 0) 3 22 false [(uA,rvs.take top),(Value.slice (some ⟨y,0,none⟩) lb lb,mid up (part rvs top bot) fr n),(uC,rvs.drop (bot+1))] x.grid.length ((bk_get (hG (y+1) (by simp))).trans q1) (by omega) hP (by simp only[zF2,List.flatMap_nil,zC8]; rw[←zG1]; exact hgln) (by omega) (by omega) (by simp)
    rw[hGn]at this
    simp only[zF2,List.flatMap_nil,zC8]at this
    rw[←zG1]at this
    simp only[ruU,entryE,Nat.reduceLT,Nat.reduceAdd,Nat.reduceMul,Nat.reduceEqDiff]
    exact this
   ·simp only[meets_cons,meets_eq,meets_newer,hA,true_or,true_and]
    simp
   have mpY3:bk Y3 p=_:=(mY3.bk (by omega) (by simp)).trans kp
   have hp3:p<y+2:=by omega
   have hlt2:y+2<y+3:=zC7 _
   simp (maxDischargeDepth:=6) only[g0,nY3,mpY3,hp3,hlt2,hA,ruD,ruW,putL,Nat.reduceLeDiff,xF,ruU,entryE,Nat.reduceLT,Nat.reduceAdd,Nat.reduceMul,Nat.reduceEqDiff]
   refine⟨⟨.inr (.inl (by omega)),.inr (.inl (by omega))⟩,⟨.inr (.inl (by omega)),.inr (.inl (by omega))⟩,⟨.inr (.inl (by omega)),.inr (.inl (by omega))⟩,by omega,⟨.inr (by omega),.inr (by omega),.inr (by omega),.inr (by omega)⟩,?_⟩
   simp (maxDischargeDepth:=6) only[Tryd.results107,ruW,putL,Nat.reduceLeDiff,xF,ruU,entryE,Nat.reduceLT,Nat.reduceAdd,Nat.reduceMul,Nat.reduceEqDiff]
   have okY3:=mY3.ok okY
   have mZ1:Mod [] Y (ext Y3 [⟨56,true,glue up rvs fr top bot n⟩]):=mY3.trans (Mod.ext okY3)
   have kz1:bk (ext Y3 [⟨56,true,glue up rvs fr top bot n⟩]) (y+2)=some ⟨56,true,glue up rvs fr top bot n⟩:=by
    rw[show y+2=y+2+0 from rfl,bk_at nY3 (by simp)]; rfl
   have nz1:(ext Y3 [⟨56,true,glue up rvs fr top bot n⟩]).next=y+3:=by rw[ext_next,nY3]; rfl
   have og:=aX.own.glue (gr:=hXn.symm▸gr) (m:=mY) (m2:=mZ1.mono (by simp)) (N:=N) (up:=up) (top:=top) (bot:=bot) (n:=n) (y:=y+2) (by have:=a.lo; omega) (by omega) (by omega) (by omega) hgl kz1 (by omega) (by omega)
   have mW:Mod [p] Y3 (ext (uw Y3 p 0 [Value.slice (some ⟨y+2,0,none⟩) x.grid.length x.grid.length]) [⟨56,true,glue up rvs fr top bot n⟩]):=by
    have m1:Mod [p] Y3 (uw Y3 p 0 [Value.slice (some ⟨y+2,0,none⟩) x.grid.length x.grid.length]):=Mod.uw (by simp)
    exact m1.trans (Mod.ext (m1.ok okY3))
   have kz:bk (ext (uw Y3 p 0 [Value.slice (some ⟨y+2,0,none⟩) x.grid.length x.grid.length]) [⟨56,true,glue up rvs fr top bot n⟩]) (y+2)=some ⟨56,true,glue up rvs fr top bot n⟩:=by
    rw[show y+2=y+2+0 from rfl,bk_at (by rw[uw_next,nY3]) (by simp)]; rfl
   have kzp:bk (ext (uw Y3 p 0 [Value.slice (some ⟨y+2,0,none⟩) x.grid.length x.grid.length]) [⟨56,true,glue up rvs fr top bot n⟩]) p=some ⟨76,false,St.cells {x with grid:=glue up x.grid (List.replicate n (List.replicate W Ce.sp)) top bot n} (.slice (some ⟨y+2,0,none⟩) x.grid.length x.grid.length)⟩:=by
    rw[bk_old (by rw[uw_next]; omega),bk_uw_eq,mpY3]; rfl
   have nz:(ext (uw Y3 p 0 [Value.slice (some ⟨y+2,0,none⟩) x.grid.length x.grid.length]) [⟨56,true,glue up rvs fr top bot n⟩]).next=y+3:=by rw[ext_next,uw_next,nY3]; rfl
   generalize ext (uw Y3 p 0 [Value.slice (some ⟨y+2,0,none⟩) x.grid.length x.grid.length]) [⟨56,true,glue up rvs fr top bot n⟩]=Z at mW kz kzp nz ⊢
   have hids:∀ q∈(glue up rvs fr top bot n).flatMap idsV,q≠p∧q<y:=fun q hq=>by
    obtain⟨rv,h4,h5⟩:=zC6.1 hq
    rcases glue_mem h4 with h6|h6
    ·have h7:=zC6.2 ⟨rv,h6,h5⟩
     have:=(aY.own.ids q h7).2.1
     exact⟨fun e=>a.apart (zE2 _ (e▸h7)),by omega⟩
    ·have h7:=gr.ids q (zC6.2 ⟨rv,h6,h5⟩)
     exact⟨by omega,by omega⟩
   rw[htop,hbot,hn',zE7,zE7,zE7,glue_roll]
   refine⟨(ModN.of (Ws:=[]) ((m0.trans mY).trans mY3) (by simp)).trans (ModN.of mW (aY.mod0 mY3).pN),rfl,.slice (some ⟨y+2,0,none⟩) x.grid.length x.grid.length,glue up rvs fr top bot n,⟨_,_,rfl⟩,kzp,?_,?_,by omega,a.lo⟩
   ·have hgg:(glue up x.grid (List.replicate n (List.replicate W Ce.sp)) top bot n).length=x.grid.length:=glue_len (by omega) (by omega) (by omega) hgl
    refine⟨og.len,.inr ⟨y+2,none,x.grid.length,true,by rw[hgg],kz,by have:=a.lo; omega,by omega,fun h=>by have:=(hids _ h).2; omega⟩,fun i rv l h4 h5=>?_,og.nd⟩
    have h6:=og.row i rv l h4 h5
    refine h6.of (by omega) fun q hq=>?_
    have h7:=hids q (zC6.2 ⟨rv,zC1 h4,hq⟩)
    rw[mW.get q (by omega) (by simpa using h7.1),ext_get_old (by omega)]
   ·intro h
    rcases zB5.1 h with h|h
    ·simp only[idsV,zA8]at h; omega
    ·exact (hids p h).1 rfl
 ·rw[if_neg hall]
  rw[ev]at hcell
  have fin:StepR 76 N p none H (.error [refusedP]) (ext H [⟨47,false,o.cells⟩]):=⟨ModN.of (Ws:=[]) m0 (by simp),rfl⟩
  have hs:d1=false∨(d1=true∧d2=false)∨(d1=true∧d2=true∧d3=false)∨(d1=true∧d2=true∧d3=true∧d4=false)∨(d1=true∧d2=true∧d3=true∧d4=true∧d5=false):=by
   cases d1<;>cases d2<;>cases d3<;>cases d4<;>cases d5<;>simp_all
  have hh:=ok.h2
  rcases hs with rfl|⟨rfl,rfl⟩|⟨rfl,rfl,rfl⟩|⟨rfl,rfl,rfl,rfl⟩|⟨rfl,rfl,rfl,rfl,rfl⟩
  ·refine w_drawP [] [(3,10),(10,17),(21,28),(26,33)] (by kernel_rfl) (by kernel_rfl) rfl (by kernel_rfl) (fun ops anc hA hG=>?_) (by simp) ⟨rfl,rfl⟩
   simp only[all2_cons]at hG
   simp (maxDischargeDepth:=6) only[dropLast_more,dropLast_one,hbn,hpl,hcell,h1,hG,ruD,ruW,putL,Nat.reduceLeDiff,xF,ruU,entryE,Nat.reduceLT,Nat.reduceAdd,Nat.reduceMul,Nat.reduceEqDiff]
   simp (maxDischargeDepth:=6) only[lastO_cons,lastO_one,isDef_call,ff_eq,true_and,ruW,putL,Nat.reduceLeDiff,xF,ruU,entryE,Nat.reduceLT,Nat.reduceAdd,Nat.reduceMul,Nat.reduceEqDiff]
   refine CallS.panics (needs_f _) ?_
   simp only[opC_error,seqC_panic,endA_panic,lv_panic]
   exact fin
  ·refine w_drawP [] [(3,10),(10,17),(21,28),(26,33)] (by kernel_rfl) (by kernel_rfl) rfl (by kernel_rfl) (fun ops anc hA hG=>?_) (by simp) ⟨rfl,rfl⟩
   simp only[all2_cons]at hG
   simp (maxDischargeDepth:=6) only[dropLast_more,dropLast_one,hbn,hpl,hcell,h1,h2,hG,ruD,ruW,putL,Nat.reduceLeDiff,xF,ruU,entryE,Nat.reduceLT,Nat.reduceAdd,Nat.reduceMul,Nat.reduceEqDiff]
   simp (maxDischargeDepth:=6) only[lastO_cons,lastO_one,isDef_call,ff_eq,true_and,ruW,putL,Nat.reduceLeDiff,xF,ruU,entryE,Nat.reduceLT,Nat.reduceAdd,Nat.reduceMul,Nat.reduceEqDiff]
   refine CallS.panics (needs_f _) ?_
   simp only[opC_error,seqC_panic,endA_panic,lv_panic]
   exact fin
  ·refine w_drawP [] [(3,10),(10,17),(21,28),(26,33)] (by kernel_rfl) (by kernel_rfl) rfl (by kernel_rfl) (fun ops anc hA hG=>?_) (by simp) ⟨rfl,rfl⟩
   simp only[all2_cons]at hG
   simp (maxDischargeDepth:=6) only[dropLast_more,dropLast_one,hbn,hpl,hcell,h1,h2,h3,hG,ruD,ruW,putL,Nat.reduceLeDiff,xF,ruU,entryE,Nat.reduceLT,Nat.reduceAdd,Nat.reduceMul,Nat.reduceEqDiff]
   simp (maxDischargeDepth:=6) only[lastO_cons,lastO_one,isDef_call,ff_eq,true_and,ruW,putL,Nat.reduceLeDiff,xF,ruU,entryE,Nat.reduceLT,Nat.reduceAdd,Nat.reduceMul,Nat.reduceEqDiff]
   refine CallS.panics (needs_f _) ?_
   simp only[opC_error,seqC_panic,endA_panic,lv_panic]
   exact fin
  ·refine w_drawP [] [(3,10),(10,17),(21,28),(26,33)] (by kernel_rfl) (by kernel_rfl) rfl (by kernel_rfl) (fun ops anc hA hG=>?_) (by simp) ⟨rfl,rfl⟩
   simp only[all2_cons]at hG
   simp (maxDischargeDepth:=6) only[dropLast_more,dropLast_one,hbn,hpl,hcell,h1,h2,h3,h4,hG,ruD,ruW,putL,Nat.reduceLeDiff,xF,ruU,entryE,Nat.reduceLT,Nat.reduceAdd,Nat.reduceMul,Nat.reduceEqDiff]
   simp (maxDischargeDepth:=6) only[lastO_cons,lastO_one,isDef_call,ff_eq,true_and,ruW,putL,Nat.reduceLeDiff,xF,ruU,entryE,Nat.reduceLT,Nat.reduceAdd,Nat.reduceMul,Nat.reduceEqDiff]
   refine CallS.panics (needs_f _) ?_
   simp only[opC_error,seqC_panic,endA_panic,lv_panic]
   exact fin
  ·have i1:=of_decide_eq_true h1
   have i2:=of_decide_eq_true h2
   have i3:=of_decide_eq_true h3
   have hw1:IntKind.i64.wrap (o.col-o.row)=o.col-o.row:=wrap_sm (by omega) (by omega)
   have hw2:IntKind.i64.wrap (o.col-o.row+1)=o.col-o.row+1:=wrap_sm (by omega) (by omega)
   refine w_drawP [] [(3,10),(10,17),(21,28),(26,33)] (by kernel_rfl) (by kernel_rfl) rfl (by kernel_rfl) (fun ops anc hA hG=>?_) (by simp) ⟨rfl,rfl⟩
   simp only[all2_cons]at hG
   simp (maxDischargeDepth:=6) only[dropLast_more,dropLast_one,hbn,hpl,hcell,h1,h2,h3,h4,h5,hw1,hw2,hG,ruD,ruW,putL,Nat.reduceLeDiff,xF,ruU,entryE,Nat.reduceLT,Nat.reduceAdd,Nat.reduceMul,Nat.reduceEqDiff]
   simp (maxDischargeDepth:=6) only[lastO_cons,lastO_one,isDef_call,ff_eq,true_and,ruW,putL,Nat.reduceLeDiff,xF,ruU,entryE,Nat.reduceLT,Nat.reduceAdd,Nat.reduceMul,Nat.reduceEqDiff]
   refine CallS.panics (needs_f _) ?_
   simp only[opC_error,seqC_panic,endA_panic,lv_panic]
   exact fin
theorem remove_c (N:Nat) (H:AHeap) (p W:Nat) (v:Value) (rvs:List Value) (x:St) (o:Op) (a:StAt 76 N H p v rvs x) (sl:Slc v) (hok:H.base≤H.next) (ok:x.Ok W) :
  CallA Tryd.prog 93 [.pointer (some ⟨p,0,none⟩),o.val] H (StepR 76 N p (x.roll W o true) H):=by
 obtain⟨b,hb⟩:∃ b,H.next=b:=⟨_,rfl⟩
 have m0:Mod [] H (ext H [⟨47,false,o.cells⟩]):=Mod.ext hok
 have aX:=a.mod0 m0
 have hld:bk (ext H [⟨47,false,o.cells⟩]) (b+0)=some ⟨47,false,o.cells⟩:=by rw[bk_at hb (by simp)]; rfl
 have key:=scrolls_c N (ext H [⟨47,false,o.cells⟩]) p W v rvs x o true 108 (b+0) (by kernel_rfl) aX sl (m0.ok hok) ok hld (by rw[ext_next,hb]; simp) (fun G u1 u2 L1 L2 P1 P2 q1 q2 s1 s2 hbk hbl k hk hk0 hk1 h2l hl=>remove1_c G u1 u2 L1 L2 (b+0) o P1 P2 q1 q2 s1 s2 hbk hbl k hk hk0 hk1 h2l hl)
 refine callE_fn mixed Tryd.func93 rfl Tryd.ntmps93 (zA9 rfl) ?_
 simp (maxDischargeDepth:=6) only[Op.val,Op.cells,hb,ruW,putL,Nat.reduceLeDiff,xF,ruU,entryE,Nat.reduceLT,Nat.reduceAdd,Nat.reduceMul,Nat.reduceEqDiff]
 refine key.mono ?_
 rintro out X ⟨mX,ho⟩
 have mX':=(ModN.of (Ws:=[]) (N:=N) m0 (by simp)).trans mX
 generalize x.roll W o true=r at ho ⊢
 cases r with
 |none =>
  obtain rfl:=ho
  simp only[opC_error,endA_panic,lv_panic]
  exact⟨mX',rfl⟩
 |some y =>
  obtain⟨rfl,v',rvs',s',a'⟩:=ho
  rw[show X=ext X [] from rfl]
  simp (maxDischargeDepth:=6) only[Tryd.results93,ruW,putL,Nat.reduceLeDiff,xF,ruU,entryE,Nat.reduceLT,Nat.reduceAdd,Nat.reduceMul,Nat.reduceEqDiff]
  exact⟨mX',rfl,v',rvs',s',a'⟩
theorem insert_c (N:Nat) (H:AHeap) (p W:Nat) (v:Value) (rvs:List Value) (x:St) (o:Op) (a:StAt 76 N H p v rvs x) (sl:Slc v) (hok:H.base≤H.next) (ok:x.Ok W) :
  CallA Tryd.prog 94 [.pointer (some ⟨p,0,none⟩),o.val] H (StepR 76 N p (x.roll W o false) H):=by
 obtain⟨b,hb⟩:∃ b,H.next=b:=⟨_,rfl⟩
 have m0:Mod [] H (ext H [⟨47,false,o.cells⟩]):=Mod.ext hok
 have aX:=a.mod0 m0
 have hld:bk (ext H [⟨47,false,o.cells⟩]) (b+0)=some ⟨47,false,o.cells⟩:=by rw[bk_at hb (by simp)]; rfl
 have key:=scrolls_c N (ext H [⟨47,false,o.cells⟩]) p W v rvs x o false 110 (b+0) (by kernel_rfl) aX sl (m0.ok hok) ok hld (by rw[ext_next,hb]; simp) (fun G u1 u2 L1 L2 P1 P2 q1 q2 s1 s2 hbk hbl k hk hk0 hk1 h2l hl=>insert1_c G u1 u2 L1 L2 (b+0) o P1 P2 q1 q2 s1 s2 hbk hbl k hk hk0 hk1 h2l hl)
 refine callE_fn mixed Tryd.func94 rfl Tryd.ntmps94 (zA9 rfl) ?_
 simp (maxDischargeDepth:=6) only[Op.val,Op.cells,hb,ruW,putL,Nat.reduceLeDiff,xF,ruU,entryE,Nat.reduceLT,Nat.reduceAdd,Nat.reduceMul,Nat.reduceEqDiff]
 refine key.mono ?_
 rintro out X ⟨mX,ho⟩
 have mX':=(ModN.of (Ws:=[]) (N:=N) m0 (by simp)).trans mX
 generalize x.roll W o false=r at ho ⊢
 cases r with
 |none =>
  obtain rfl:=ho
  simp only[opC_error,endA_panic,lv_panic]
  exact⟨mX',rfl⟩
 |some y =>
  obtain⟨rfl,v',rvs',s',a'⟩:=ho
  rw[show X=ext X [] from rfl]
  simp (maxDischargeDepth:=6) only[Tryd.results94,ruW,putL,Nat.reduceLeDiff,xF,ruU,entryE,Nat.reduceLT,Nat.reduceAdd,Nat.reduceMul,Nat.reduceEqDiff]
  exact⟨mX',rfl,v',rvs',s',a'⟩
def kindF:List FuncId:=[88,89,90,91,92,93,94,95,96]
def fnV (f:FuncId):Value:=.func (.func f) ⟨[]⟩ ⟨[]⟩
def kindsV:List Value:=kindF.map fnV
theorem kinds_c (H:AHeap):CallS Tryd.prog 69 [] H (.ok (.agg ⟨kindsV⟩)) H:=by
 obtain⟨b,hb⟩:∃ b,H.next=b:=⟨_,rfl⟩
 refine callS_fn mixed Tryd.func69 rfl Tryd.ntmps69 (zA9 rfl) fun wf hsc=>?_
 have hbd:aBuild Tryd.prog 102 [(0,.func (.func 88) #[] #[]),(1,.func (.func 89) #[] #[]),(2,.func (.func 90) #[] #[]),(3,.func (.func 91) #[] #[]),(4,.func (.func 92) #[] #[]),(5,.func (.func 93) #[] #[]),(6,.func (.func 94) #[] #[]),(7,.func (.func 95) #[] #[]),(8,.func (.func 96) #[] #[])]=some (.agg ⟨kindsV⟩):=by kernel_rfl
 have hst:∀ (M:Nat) (l:List Value),l.length=9→stB Tryd.prog 102 M 0 (.agg ⟨kindsV⟩) (some ⟨102,false,l⟩)=some ⟨102,false,kindsV⟩:=fun M l h=>by
  have hv:(Value.agg ⟨kindsV⟩).cells.toList=kindsV:=rfl
  rw[stB_ok (by rw[hv]; kernel_rfl) (by rw[hv,h]; decide) (by rw[hv]; rfl) (by rw[hv]; rfl),hv,putL_head _ _ (by rw[h]; decide),zE3 (by rw[h]; decide),zC8]
 have hcl:(Value.agg ⟨kindsV⟩).cells.toList=kindsV:=rfl
 have hps:putL ([.nilFunc,.nilFunc,.nilFunc,.nilFunc,.nilFunc,.nilFunc,.nilFunc,.nilFunc,.nilFunc]:List Value) 0 kindsV=kindsV:=rfl
 have hbb:H.base≤b:=hb▸wf.base
 have hld:ldB Tryd.prog 102 0 (some ⟨102,false,kindsV⟩)=some (.agg ⟨kindsV⟩):=by kernel_rfl
 simp (maxDischargeDepth:=6) only[hb,hbb,hbd,hst,hcl,hps,hld,Tryd.results69,ruW,putL,Nat.reduceLeDiff,xF,ruU,entryE,Nat.reduceLT,Nat.reduceAdd,Nat.reduceMul,Nat.reduceEqDiff]
 exact Fin.pure rfl
section
variable {N : Nat} {H : AHeap} {p W : Nat} {v : Value} {rvs : List Value} {x : St}
theorem nothing_c (H:AHeap) (hok:H.base≤H.next) (o:Op) (T:TypeId):CallA Tryd.prog 88 [.pointer (some ⟨p,0,none⟩),o.val] H (StepR T N p none H):=by
 refine callE_fn mixed Tryd.func88 rfl Tryd.ntmps88 (zA9 rfl) ?_
 simp (maxDischargeDepth:=6) only[Op.val,Op.cells,ruW,putL,Nat.reduceLeDiff,xF,ruU,entryE,Nat.reduceLT,Nat.reduceAdd,Nat.reduceMul,Nat.reduceEqDiff]
 refine CallS.panics (needs_f _) ?_
 simp only[opC_error,endA_panic,lv_panic]
 exact⟨ModN.of (Ws:=[]) (Mod.ext hok) (by simp),rfl⟩
theorem show_c (a:StAt 76 N H p v rvs x) (sl:Slc v) (hok:H.base≤H.next) (o:Op):CallA Tryd.prog 95 [.pointer (some ⟨p,0,none⟩),o.val] H (StepR 76 N p (some {x with shown:=true}) H):=by
 obtain⟨b,hb⟩:∃ b,H.next=b:=⟨_,rfl⟩
 have hpl:=a.lt
 rw[hb]at hpl
 have hcell:=a.cell
 simp only[St.cells]at hcell
 refine callE_fn mixed Tryd.func95 rfl Tryd.ntmps95 (zA9 rfl) ?_
 simp (maxDischargeDepth:=6) only[Op.val,Op.cells,hb,hpl,hcell,Tryd.results95,ruW,putL,Nat.reduceLeDiff,xF,ruU,entryE,Nat.reduceLT,Nat.reduceAdd,Nat.reduceMul,Nat.reduceEqDiff]
 exact a.endU sl hok rfl rfl
theorem hide_c (a:StAt 76 N H p v rvs x) (sl:Slc v) (hok:H.base≤H.next) (o:Op):CallA Tryd.prog 96 [.pointer (some ⟨p,0,none⟩),o.val] H (StepR 76 N p (some {x with shown:=false}) H):=by
 obtain⟨b,hb⟩:∃ b,H.next=b:=⟨_,rfl⟩
 have hpl:=a.lt
 rw[hb]at hpl
 have hcell:=a.cell
 simp only[St.cells]at hcell
 refine callE_fn mixed Tryd.func96 rfl Tryd.ntmps96 (zA9 rfl) ?_
 simp (maxDischargeDepth:=6) only[Op.val,Op.cells,hb,hpl,hcell,Tryd.results96,ruW,putL,Nat.reduceLeDiff,xF,ruU,entryE,Nat.reduceLT,Nat.reduceAdd,Nat.reduceMul,Nat.reduceEqDiff]
 exact a.endU sl hok rfl rfl
theorem dlook_c (a:StAt 76 N H p v rvs x) (sl:Slc v) (hok:H.base≤H.next) (o:Op):CallA Tryd.prog 90 [.pointer (some ⟨p,0,none⟩),o.val] H (StepR 76 N p (if colr o.look=true then some {x with pen:=o.look} else none) H):=by
 obtain⟨b,hb⟩:∃ b,H.next=b:=⟨_,rfl⟩
 have hpl:=a.lt
 rw[hb]at hpl
 have hcell:=a.cell
 simp only[St.cells]at hcell
 obtain⟨d,hd⟩:∃ d,colr o.look=d:=⟨_,rfl⟩
 rw[hd]
 have hcl:=coloured39_c (ext H [⟨47,false,o.cells⟩]) o.look
 rw[hd]at hcl
 refine callE_fn mixed Tryd.func90 rfl Tryd.ntmps90 (zA9 rfl) ?_
 simp (maxDischargeDepth:=6) only[Op.val,Op.cells,hb,hpl,hcell,ruW,putL,Nat.reduceLeDiff,xF,ruU,entryE,Nat.reduceLT,Nat.reduceAdd,Nat.reduceMul,Nat.reduceEqDiff]
 refine hcl.to ?_
 cases d with
 |true =>
  simp (maxDischargeDepth:=6) only[hb,ruW,putL,Nat.reduceLeDiff,xF,ruU,entryE,Nat.reduceLT,Nat.reduceAdd,Nat.reduceMul,Nat.reduceEqDiff]
  refine CallS.to (needs_t _) ?_
  simp (maxDischargeDepth:=6) only[Op.val,Op.cells,hb,hpl,hcell,Tryd.results90,if_true,ruW,putL,Nat.reduceLeDiff,xF,ruU,entryE,Nat.reduceLT,Nat.reduceAdd,Nat.reduceMul,Nat.reduceEqDiff]
  exact a.endU sl hok rfl rfl
 |false =>
  simp (maxDischargeDepth:=6) only[hb,ruW,putL,Nat.reduceLeDiff,xF,ruU,entryE,Nat.reduceLT,Nat.reduceAdd,Nat.reduceMul,Nat.reduceEqDiff]
  refine CallS.panics (needs_f _) ?_
  simp only[opC_error,seqC_panic,endA_panic,lv_panic,zC2,if_false]
  exact⟨ModN.of (Ws:=[]) (Mod.ext hok) (by simp),rfl⟩
theorem StAt.endU2 {T:TypeId} {y z:St} (a:StAt T N H p v rvs x) (sl:Slc v) (hok:H.base≤H.next) {o1 o2:Nat} {vs1 vs2:List Value} {L:List Bl} (hc1:putL (x.cells v) o1 vs1=z.cells v) (hg1:z.grid=x.grid) (hc2:putL (z.cells v) o2 vs2=y.cells v) (hg2:y.grid=z.grid) (hT:T≠102:=by decide) :
  StepR T N p (some y) H (.ok (.tuple ⟨[]⟩)) (ext (uw (uw H p o1 vs1) p o2 vs2) L):=by
 obtain⟨h1,h2⟩:=a.putU hok (L:=[]) hc1 hg1
 obtain⟨h3,h4⟩:=h1.putU (h2.ok hok) (L:=L) hc2 hg2
 exact⟨ModN.of (h2.trans h4) (a.pN hT),rfl,v,rvs,sl,h3⟩
theorem move_c (a:StAt 76 N H p v rvs x) (sl:Slc v) (hok:H.base≤H.next) (ok:x.Ok W) (o:Op):CallA Tryd.prog 89 [.pointer (some ⟨p,0,none⟩),o.val] H
  (StepR 76 N p (if (decide (0≤o.row)&&decide (o.row<x.grid.length)&&decide (0≤o.col)&&decide (o.col<W))=true then some {x with row:=o.row,col:=o.col} else none) H):=by
 obtain⟨b,hb⟩:∃ b,H.next=b:=⟨_,rfl⟩
 have hpl:=a.lt
 rw[hb]at hpl
 have hcell:=a.cell
 simp only[St.cells]at hcell
 have aX:=a.mod0 (Mod.ext (W:=[]) (L:=[⟨47,false,o.cells⟩]) hok)
 obtain⟨m,hml,hmp,⟨_,_,_,hmb⟩,hwd⟩:=dwidth_c aX ok
 have hFn:∀ n∈[p,m],(ext H [⟨47,false,o.cells⟩]).get n≠none:=fun n hn=>by
  simp only[zB1,List.not_mem_nil,or_false]at hn
  rcases hn with rfl|rfl
  ·exact bk_ne aX.cell
  ·exact bk_ne hmb
 obtain⟨m',s1,c1,_,_,_,_,ev,_⟩:=a.first ok
 subst ev
 obtain⟨d1,h1⟩:∃ d,decide (0≤o.row)=d:=⟨_,rfl⟩
 obtain⟨d2,h2⟩:∃ d,decide (o.row<x.grid.length)=d:=⟨_,rfl⟩
 obtain⟨d3,h3⟩:∃ d,decide (0≤o.col)=d:=⟨_,rfl⟩
 obtain⟨d4,h4⟩:∃ d,decide (o.col<W)=d:=⟨_,rfl⟩
 rw[h1,h2,h3,h4]
 refine callE_fn mixed Tryd.func89 rfl Tryd.ntmps89 (zA9 rfl) ?_
 simp (maxDischargeDepth:=6) only[Op.val,Op.cells,hb,ruW,putL,Nat.reduceLeDiff,xF,ruU,entryE,Nat.reduceLT,Nat.reduceAdd,Nat.reduceMul,Nat.reduceEqDiff]
 by_cases hall:(d1&&d2&&d3&&d4)=true
 ·rw[if_pos hall]
  simp only[zA5]at hall
  obtain⟨⟨⟨rfl,rfl⟩,rfl⟩,rfl⟩:=hall
  refine w_drawB [] [(3,7),(14,18),(19,23)] (by kernel_rfl) rfl (by kernel_rfl) fun ops anc hA hG=>?_
  simp only[all2_cons]at hG
  simp (maxDischargeDepth:=6) only[hb,hpl,hcell,h1,h2,h3,h4,hG,ruD,ruW,putL,Nat.reduceLeDiff,xF,ruU,entryE,Nat.reduceLT,Nat.reduceAdd,Nat.reduceMul,Nat.reduceEqDiff]
  refine genV_quiet (v:=.int .i64 W) [p,m] rfl rfl (zA9 rfl) hFn (fun G hn hg=>hwd G hn hg) (by simp[Meets]) ?_
  simp (maxDischargeDepth:=6) only[hb,hpl,hcell,h1,h2,h3,h4,hG,ruD,ruW,putL,Nat.reduceLeDiff,xF,ruU,entryE,Nat.reduceLT,Nat.reduceAdd,Nat.reduceMul,Nat.reduceEqDiff]
  refine genV_quiet (v:=.tuple ⟨[]⟩) [] rfl rfl (zA9 rfl) (by simp) (fun G hn hg=>needs_t G) (by simp[Meets]) ?_
  simp (maxDischargeDepth:=6) only[ruD,ruW,putL,Nat.reduceLeDiff,xF,ruU,entryE,Nat.reduceLT,Nat.reduceAdd,Nat.reduceMul,Nat.reduceEqDiff]
  refine w_drawB [(8,3),(11,8),(11,3),(11,5)] [] (by kernel_rfl) (by kernel_rfl) rfl fun ops anc hA hG=>?_
  simp only[all2_cons]at hA
  simp (maxDischargeDepth:=6) only[hb,hpl,hcell,hA,Tryd.results89,ruD,ruW,putL,Nat.reduceLeDiff,xF,ruU,entryE,Nat.reduceLT,Nat.reduceAdd,Nat.reduceMul,Nat.reduceEqDiff]
  exact a.endU2 sl hok (z:={x with row:=o.row}) rfl rfl rfl rfl
 ·rw[if_neg hall]
  have hs:d1=false∨(d1=true∧d2=false)∨(d1=true∧d2=true∧d3=false)∨(d1=true∧d2=true∧d3=true∧d4=false):=by
   cases d1<;>cases d2<;>cases d3<;>cases d4<;>simp_all
  have fin:StepR 76 N p none H (.error [refusedP]) (ext H [⟨47,false,o.cells⟩]):=⟨ModN.of (Ws:=[]) (Mod.ext hok) (by simp),rfl⟩
  rcases hs with rfl|⟨rfl,rfl⟩|⟨rfl,rfl,rfl⟩|⟨rfl,rfl,rfl,rfl⟩
  ·refine w_drawP [] [(3,7),(14,18),(19,23)] (by kernel_rfl) (by kernel_rfl) rfl (by kernel_rfl) (fun ops anc hA hG=>?_) (by simp) ⟨rfl,rfl⟩
   simp only[all2_cons]at hG
   simp (maxDischargeDepth:=6) only[dropLast_more,dropLast_one,hb,hpl,hcell,h1,hG,ruD,ruW,putL,Nat.reduceLeDiff,xF,ruU,entryE,Nat.reduceLT,Nat.reduceAdd,Nat.reduceMul,Nat.reduceEqDiff]
   simp (maxDischargeDepth:=6) only[lastO_cons,lastO_one,isDef_call,ff_eq,true_and,ruW,putL,Nat.reduceLeDiff,xF,ruU,entryE,Nat.reduceLT,Nat.reduceAdd,Nat.reduceMul,Nat.reduceEqDiff]
   refine CallS.panics (needs_f _) ?_
   simp only[opC_error,seqC_panic,endA_panic,lv_panic]
   exact fin
  ·refine w_drawP [] [(3,7),(14,18),(19,23)] (by kernel_rfl) (by kernel_rfl) rfl (by kernel_rfl) (fun ops anc hA hG=>?_) (by simp) ⟨rfl,rfl⟩
   simp only[all2_cons]at hG
   simp (maxDischargeDepth:=6) only[dropLast_more,dropLast_one,hb,hpl,hcell,h1,h2,hG,ruD,ruW,putL,Nat.reduceLeDiff,xF,ruU,entryE,Nat.reduceLT,Nat.reduceAdd,Nat.reduceMul,Nat.reduceEqDiff]
   simp (maxDischargeDepth:=6) only[lastO_cons,lastO_one,isDef_call,ff_eq,true_and,ruW,putL,Nat.reduceLeDiff,xF,ruU,entryE,Nat.reduceLT,Nat.reduceAdd,Nat.reduceMul,Nat.reduceEqDiff]
   refine CallS.panics (needs_f _) ?_
   simp only[opC_error,seqC_panic,endA_panic,lv_panic]
   exact fin
  ·refine w_drawP [] [(3,7),(14,18),(19,23)] (by kernel_rfl) (by kernel_rfl) rfl (by kernel_rfl) (fun ops anc hA hG=>?_) (by simp) ⟨rfl,rfl⟩
   simp only[all2_cons]at hG
   simp (maxDischargeDepth:=6) only[dropLast_more,dropLast_one,hb,hpl,hcell,h1,h2,h3,hG,ruD,ruW,putL,Nat.reduceLeDiff,xF,ruU,entryE,Nat.reduceLT,Nat.reduceAdd,Nat.reduceMul,Nat.reduceEqDiff]
   simp (maxDischargeDepth:=6) only[lastO_cons,lastO_one,isDef_call,ff_eq,true_and,ruW,putL,Nat.reduceLeDiff,xF,ruU,entryE,Nat.reduceLT,Nat.reduceAdd,Nat.reduceMul,Nat.reduceEqDiff]
   refine CallS.panics (needs_f _) ?_
   simp only[opC_error,seqC_panic,endA_panic,lv_panic]
   exact fin
  ·refine w_drawP [] [(3,7),(14,18),(19,23)] (by kernel_rfl) (by kernel_rfl) rfl (by kernel_rfl) (fun ops anc hA hG=>?_) (by simp) ⟨rfl,rfl⟩
   simp only[all2_cons]at hG
   simp (maxDischargeDepth:=6) only[dropLast_more,dropLast_one,hb,hpl,hcell,h1,h2,h3,h4,hG,ruD,ruW,putL,Nat.reduceLeDiff,xF,ruU,entryE,Nat.reduceLT,Nat.reduceAdd,Nat.reduceMul,Nat.reduceEqDiff]
   refine genV_quiet (v:=.int .i64 W) [p,m] rfl rfl (zA9 rfl) hFn (fun G hn hg=>hwd G hn hg) (by simp[Meets]) ?_
   simp (maxDischargeDepth:=6) only[dropLast_more,dropLast_one,hb,hpl,hcell,h1,h2,h3,h4,hG,ruD,ruW,putL,Nat.reduceLeDiff,xF,ruU,entryE,Nat.reduceLT,Nat.reduceAdd,Nat.reduceMul,Nat.reduceEqDiff]
   simp (maxDischargeDepth:=6) only[lastO_cons,lastO_one,isDef_call,ff_eq,true_and,ruW,putL,Nat.reduceLeDiff,xF,ruU,entryE,Nat.reduceLT,Nat.reduceAdd,Nat.reduceMul,Nat.reduceEqDiff]
   refine CallS.panics (needs_f _) ?_
   simp only[opC_error,seqC_panic,endA_panic,lv_panic]
   exact fin
end
end Go.Proofs.YtaojjfebkldmnaaDoor
namespace Go.Ax
section
variable {P : Program} {rec : Rec} {H H1 g : AHeap} {a a1 : AAct} {u u1 : FrameMode}
theorem runSeq_ok {top:Bool} {ops:Array Oper} {o:Oper} {rest:List Oper} {v:Value} (hw:wantA ops a o=some true) (ho:opF P rec a H o=some (.ok v,g)):runSeq P rec top ops (o::rest) a H=runSeq P rec top ops rest (a.put o.dst v) g:=by simp only[runSeq,hw,ho]
theorem runS_seq {x y:Code} (h:runS P rec x a u H=some (.normal,a1,u1,H1)):runS P rec (.seq x y) a u H=runS P rec y a1 u1 H1:=by simp only[runS,h]
theorem runS_reg {id:Nat} {ops:Array Oper} {e:Exit} (hn:(ops.toList.any fun o=>isRec o.op)=false) (h:rec.run none (.region id ops false) a H=some (e,a1,H1)):runS P rec (.region id ops false) a u H=some (e,a1,u,H1):=by
 simp only[runS,hn,h,zA7]
theorem runS_rec {id:Nat} {ops:Array Oper} (hn:(ops.toList.any fun o=>isRec o.op)=true):runS P rec (.region id ops false) a u H=runOpsS P ops ops.toList a u H:=by
 simp only[runS,hn]
theorem opF_store {o:Oper} {t:TypeId} {x y:Operand} {p v:Value} (ho:o.op=.store t x y) (hx:aeval P a x=some p) (hy:aeval P a y=some v) (h:aStore P H t p v=some g):opF P rec a H o=some (.ok undef,g):=by
 simp only[opF,ho,aop,xStore,hx,hy,zA1,zA3,h,ruh,zA7,doN]
end
end Go.Ax
namespace Go.Proofs.YtaojjfebkldmnaaDoor
open Go.Ax
def rg0:AAct:=⟨{RV.ofList []with n:=16},[]⟩
theorem st99 (H:AHeap) (hok:H.base≤H.next):aStore Tryd.prog (H.new (Bl.obj ⟨99,false,[]⟩)) 99 (.pointer (some ⟨H.next,0,none⟩)) (.agg #[])=some (ext H [⟨99,false,[]⟩]):=by
 have h:=store_new (P:=Tryd.prog) (H:=H) (L:=[⟨99,false,[]⟩]) (b:=H.next) (i:=0) (off:=0) (t:=99) (v:=.agg #[]) rfl hok (by decide)
 have hs:stB Tryd.prog 99 (H.next+1) 0 (.agg #[]) (some ⟨99,false,[]⟩)=some ⟨99,false,[]⟩:=by
  rw[stB_ok (v:=.agg #[]) (by kernel_rfl) (by decide) rfl rfl]
  rfl
 simp only[List.length_singleton,zF0,hs,zA7,List.set_cons_zero,zD8]at h
 exact h
theorem exec1_ret (H:AHeap) (hok:H.base≤H.next):enterD Tryd.prog (recX Tryd.prog) 68 [] .returning H=some (.ok (.tuple ⟨[]⟩),.returning,ext H [⟨99,false,[]⟩]):=by
 have hr:∃ e1,runS Tryd.prog (recX Tryd.prog) (Tryd.f68.body.getD .skip) rg0 .returning H=some (.normal,⟨e1,[]⟩,.returning,ext H [⟨99,false,[]⟩]):=by
  show ∃ e1,runS Tryd.prog (recX Tryd.prog) (.seq _ (.seq _ (.seq _ _))) rg0 .returning H=_
  apply Exists.intro
  refine (runS_seq ((runS_rec rfl).trans rfl)).trans ?_
  refine (runS_seq (runS_reg rfl (Eq.trans (show (recX Tryd.prog).run none _ _ H=runSeq Tryd.prog (exec Tryd.prog (fun _ _ _=>none) 59) true _ _ _ H from rfl) ((runSeq_ok rfl rfl).trans ((runSeq_ok rfl rfl).trans ((runSeq_ok rfl rfl).trans ((runSeq_ok rfl rfl).trans ((runSeq_ok rfl rfl).trans ((runSeq_ok rfl rfl).trans ((runSeq_ok rfl (opF_store rfl rfl rfl (st99 H hok))).trans ((runSeq_ok rfl rfl).trans rfl))))))))))).trans ?_
  refine (runS_seq (runS_reg rfl rfl)).trans ?_
  rfl
 obtain⟨e1,hr⟩:=hr
 have hb:Tryd.f68.body=some (Tryd.f68.body.getD .skip):=rfl
 simp only[enterD,Tryd.func68,zA1,zA3]
 rw[hb,zA3]
 show (runS Tryd.prog (recX Tryd.prog) (Tryd.f68.body.getD .skip) rg0 _ H).bind _=_
 rw[hr]
 rfl
theorem exec1_pan (H:AHeap) (hok:H.base≤H.next):enterD Tryd.prog (recX Tryd.prog) 68 [] (.panicking [refusedP]) H=some (.ok (.tuple ⟨[]⟩),.panicking [{refusedP with recovered:=true}],ext H [⟨99,false,[]⟩]):=by
 have hr:∃ e1,runS Tryd.prog (recX Tryd.prog) (Tryd.f68.body.getD .skip) rg0 (.panicking [refusedP]) H=some (.normal,⟨e1,[]⟩,.panicking [{refusedP with recovered:=true}],ext H [⟨99,false,[]⟩]):=by
  show ∃ e1,runS Tryd.prog (recX Tryd.prog) (.seq _ (.seq _ (.seq _ _))) rg0 (.panicking [refusedP]) H=_
  apply Exists.intro
  refine (runS_seq ((runS_rec rfl).trans rfl)).trans ?_
  refine (runS_seq (runS_reg rfl (Eq.trans (show (recX Tryd.prog).run none _ _ H=runSeq Tryd.prog (exec Tryd.prog (fun _ _ _=>none) 59) true _ _ _ H from rfl) ((runSeq_ok rfl rfl).trans ((runSeq_ok rfl rfl).trans ((runSeq_ok rfl rfl).trans ((runSeq_ok rfl rfl).trans ((runSeq_ok rfl rfl).trans ((runSeq_ok rfl rfl).trans ((runSeq_ok rfl (opF_store rfl rfl rfl (st99 H hok))).trans ((runSeq_ok rfl rfl).trans rfl))))))))))).trans ?_
  refine (runS_seq (runS_reg rfl rfl)).trans ?_
  rfl
 obtain⟨e1,hr⟩:=hr
 have hb:Tryd.f68.body=some (Tryd.f68.body.getD .skip):=rfl
 simp only[enterD,Tryd.func68,zA1,zA3]
 rw[hb,zA3]
 show (runS Tryd.prog (recX Tryd.prog) (Tryd.f68.body.getD .skip) rg0 _ H).bind _=_
 rw[hr]
 rfl
theorem settle_pan:settle (.panicking [{refusedP with recovered:=true}])=.returning:=by rfl
section
variable {Z : AHeap} {N : Nat} {E : Env} {ds : List Deferred} {ops : Array Oper} {anc : List Nat} {ty : TypeId} {pos : String} {after : Array Edge} {rest : List Oper} {i d : Nat} {fps : List Fp} {Q : AAct → AHeap → Prop} {v u : Value} {vs L : List Value} {cnt : Nat}
end
def St.move (W:Nat) (x:St) (o:Op):Option St:=if (decide (0≤o.row)&&decide (o.row<x.grid.length)&&decide (0≤o.col)&&decide (o.col<W))=true then some {x with row:=o.row,col:=o.col} else none
def St.look (x:St) (o:Op):Option St:=if colr o.look=true then some {x with pen:=o.look} else none
theorem does_eq (W:Nat) (r:List UInt8→Option (List Int)) (x:St) (o:Op):x.does W r o =
  if o.kind=1 then x.move W o else if o.kind=2 then x.look o else if o.kind=3 then x.text W (r o.text.data.toList) else if o.kind=4 then x.clear W else if o.kind=5 then x.roll W o true else if o.kind=6 then x.roll W o false
  else if o.kind=7 then some {x with shown:=true} else if o.kind=8 then some {x with shown:=false} else none:=by
 unfold St.does St.move St.look St.text St.clear St.roll
 by_cases h5:o.kind=5
 ·simp[h5]
 ·by_cases h6:o.kind=6
  ·simp[h6]
  ·simp only[h5,h6,or_self,if_false]
   by_cases h3:o.kind=3
   ·simp[h3]
    cases r o.text.data.toList<;>rfl
   ·simp only[h3,if_false]
theorem putAll_len (pen:Lk):∀ (cs:List Int) (l:List Ce) (k:Nat),(putAll pen cs l k).1.length=l.length
 |[],_,_=>rfl
 |c::cs,l,k=>by rw[putAll,putAll_len pen cs,putC_len]
theorem putAll_col (pen:Lk) (W:Nat):∀ (cs:List Int) (l:List Ce) (k:Nat),St.fits W cs (k:Int)=true→k≤W→(putAll pen cs l k).2≤W
 |[],_,_,_,h=>h
 |c::cs,l,k,hf,_=>by
  obtain⟨_,h2,h3⟩:=fits_cons hf
  rw[putAll]
  refine putAll_col pen W cs _ _ ?_ (by omega)
  rw[show ((k+cellsR c:Nat):Int)=(k:Int)+(cellsR c:Int) by omega]
  exact h3
theorem clearL_len:∀ (n:Nat) (l:List Ce) (k:Nat),(clearL l k n).length=l.length
 |0,_,_=>rfl
 |n+1,l,k=>by rw[clearL,clearL_len n,setL_len]
theorem St.Ok.row {x:St} {W:Nat} (ok:x.Ok W):(x.grid.getD x.row.toNat []).length=W:=by
 have h0:=ok.row0
 have h1:=ok.row1
 have h2:x.row.toNat<x.grid.length:=by omega
 rw[zC9,zA6 h2,Option.getD_some]
 exact ok.wid _ (List.getElem_mem _)
theorem does_ok {W:Nat} {x y:St} {o:Op} {r:List UInt8→Option (List Int)} (ok:x.Ok W) (h:x.does W r o=some y):y.Ok W:=by
 have setrow:∀ l:List Ce,l.length=W→∀ c:Int,0≤c→c≤W→St.Ok {x with grid:=x.grid.set x.row.toNat l,col:=c} W:=fun l hl c c0 c1=>by
  have:=ok.setRow (i:=x.row.toNat) hl
  exact⟨this.h1,this.h2,this.w1,this.w2,this.wid,this.row0,this.row1,c0,c1⟩
 rw[does_eq]at h
 split at h
 ·unfold St.move at h
  split at h
  ·rename_i hh
   simp only[zA5,decide_eq_true_eq]at hh
   obtain rfl:=Option.some.inj h
   exact⟨ok.h1,ok.h2,ok.w1,ok.w2,ok.wid,hh.1.1.1,hh.1.1.2,hh.1.2,by show o.col≤W; omega⟩
  ·cases h
 split at h
 ·unfold St.look at h
  split at h
  ·obtain rfl:=Option.some.inj h
   exact⟨ok.h1,ok.h2,ok.w1,ok.w2,ok.wid,ok.row0,ok.row1,ok.col0,ok.col1⟩
  ·cases h
 split at h
 ·unfold St.text at h
  split at h
  ·cases h
  ·rename_i l _
   split at h
   ·rename_i hf
    obtain rfl:=Option.some.inj h
    have c0:=ok.col0
    have c1:=ok.col1
    refine setrow _ (by rw[putAll_len]; exact ok.row) _ (by omega) ?_
    have:=putAll_col x.pen W l (x.grid.getD x.row.toNat []) x.col.toNat (by rw[show ((x.col.toNat:Nat):Int)=x.col by omega]; exact hf) (by omega)
    omega
   ·cases h
 split at h
 ·unfold St.clear at h
  split at h
  ·obtain rfl:=Option.some.inj h
   exact setrow _ (by rw[clearL_len]; exact ok.row) x.col ok.col0 ok.col1
  ·cases h
 have roll:∀ up,x.roll W o up=some y→y.Ok W:=fun up h=>by
  unfold St.roll at h
  split at h
  ·rename_i hh
   simp only[zA5,decide_eq_true_eq]at hh
   obtain rfl:=Option.some.inj h
   rw[glue_roll]
   have hl:(glue up x.grid (List.replicate o.n.toNat (List.replicate W Ce.sp)) o.row.toNat o.col.toNat o.n.toNat).length=x.grid.length:=glue_len (by omega) (by omega) (by omega) List.length_replicate
   refine⟨?_,?_,ok.w1,ok.w2,fun l hl=>?_,ok.row0,?_,ok.col0,ok.col1⟩
   ·simp only[hl]; exact ok.h1
   ·simp only[hl]; exact ok.h2
   ·rcases glue_mem hl with h|h
    ·exact ok.wid l h
    ·rw[List.eq_of_mem_replicate h,List.length_replicate]
   ·simp only[hl]; exact ok.row1
  ·cases h
 split at h
 ·exact roll true h
 split at h
 ·exact roll false h
 split at h
 ·obtain rfl:=Option.some.inj h
  exact⟨ok.h1,ok.h2,ok.w1,ok.w2,ok.wid,ok.row0,ok.row1,ok.col0,ok.col1⟩
 split at h
 ·obtain rfl:=Option.some.inj h
  exact⟨ok.h1,ok.h2,ok.w1,ok.w2,ok.wid,ok.row0,ok.row1,ok.col0,ok.col1⟩
 ·cases h
theorem all_drop {W:Nat} {r:List UInt8→Option (List Int)}:∀ (l:List Op) (k i:Nat) (x y:St) (o:Op),l[k]?=some o→x.does W r o=some y→St.all W r (l.drop k) i x=St.all W r (l.drop (k+1)) (i+1) y:=fun l k i x y o ho hd=>by
 have hk:=(zD4.1 ho).1
 rw[zG2 hk,St.all]
 rw[zA6 hk]at ho
 rw[Option.some.inj ho,hd]
theorem all_stop {W:Nat} {r:List UInt8→Option (List Int)}:∀ (l:List Op) (k i:Nat) (x:St) (o:Op),l[k]?=some o→x.does W r o=none→St.all W r (l.drop k) i x=.inr i:=fun l k i x o ho hd=>by
 have hk:=(zD4.1 ho).1
 rw[zG2 hk,St.all]
 rw[zA6 hk]at ho
 rw[Option.some.inj ho,hd]
end Go.Proofs.YtaojjfebkldmnaaDoor
namespace Go.Ax
section
variable {P : Program} {ro : Option Nat} {H : AHeap} {N : Nat} {E : Env} {ds : List Deferred} {ops : Array Oper} {rest : List Oper} {ty : TypeId} {pos : String} {after : Array Edge} {Q : Exit → AAct → AHeap → Prop}
theorem w_defer {f:FuncId} {args:List Operand} {ts:Array TypeId} (ha:args.all (opOk P N)=true):wpOps P none ops (⟨none,.defer ⟨.value (.func f),⟨args⟩,ts⟩,ty,pos,after,none⟩::rest) (mkA N E ds) H Q=wpOps P none ops rest (mkA N E (⟨.fn (.func f) #[],⟨args.map (opv E)⟩⟩::ds)) H Q:=by
 simp only[wpOps,wantA,aDefer,aevals_opv ha,aeval,zA1,zA3,deferV]
 rfl
end
end Go.Ax
namespace Go.Proofs.YtaojjfebkldmnaaDoor
open Go.Ax
def AllR (N p:Nat) (r:St ⊕ Nat) (H:AHeap) (out:Out) (X:AHeap):Prop :=
 ModN N H X∧match r with
  |.inl y=>out=.ok (.int .i64 (-1))∧∃ v rvs,Slc v∧StAt 76 N X p v rvs y
  |.inr i=>out=.ok (.int .i64 (i:Int))
theorem kindF_body:(kindF.all fun f=>hasBody Tryd.prog f)=true:=by kernel_rfl
theorem kind_c (N:Nat) (H:AHeap) (p W:Nat) (v:Value) (rvs:List Value) (x:St) (o:Op) (k f:Nat) (hk:o.kind=(k:Int)) (hf:kindF[k]?=some f) (a:StAt 76 N H p v rvs x) (sl:Slc v) (t:Tab H) (hN:2≤N) (hok:H.base≤H.next) (ok:x.Ok W) (hlen:o.text.data.toList.length≤1000) :
  CallA Tryd.prog f [.pointer (some ⟨p,0,none⟩),o.val] H (StepR 76 N p (x.does W ptsR o) H):=by
 rw[does_eq,hk]
 match k,hf with
 |0,hf=>obtain rfl:=Option.some.inj hf; exact nothing_c H hok o 76
 |1,hf=>obtain rfl:=Option.some.inj hf; rw[if_pos (by decide)]; exact move_c a sl hok ok o
 |2,hf=>obtain rfl:=Option.some.inj hf; rw[if_neg (by decide),if_pos (by decide)]; exact dlook_c a sl hok o
 |3,hf=>obtain rfl:=Option.some.inj hf; rw[if_neg (by decide),if_neg (by decide),if_pos (by decide)]; exact text_c N H p W v rvs x o a sl t hN hok ok hlen
 |4,hf=>obtain rfl:=Option.some.inj hf; rw[if_neg (by decide),if_neg (by decide),if_neg (by decide),if_pos (by decide)]; exact clear_c N H p W v rvs x o a sl hok ok
 |5,hf=>obtain rfl:=Option.some.inj hf; rw[if_neg (by decide),if_neg (by decide),if_neg (by decide),if_neg (by decide),if_pos (by decide)]; exact remove_c N H p W v rvs x o a sl hok ok
 |6,hf=>obtain rfl:=Option.some.inj hf; rw[if_neg (by decide),if_neg (by decide),if_neg (by decide),if_neg (by decide),if_neg (by decide),if_pos (by decide)]; exact insert_c N H p W v rvs x o a sl hok ok
 |7,hf=>obtain rfl:=Option.some.inj hf; rw[if_neg (by decide),if_neg (by decide),if_neg (by decide),if_neg (by decide),if_neg (by decide),if_neg (by decide),if_pos (by decide)]; exact show_c a sl hok o
 |8,hf=>obtain rfl:=Option.some.inj hf; rw[if_neg (by decide),if_neg (by decide),if_neg (by decide),if_neg (by decide),if_neg (by decide),if_neg (by decide),if_neg (by decide),if_pos (by decide)]; exact hide_c a sl hok o
 |k+9,hf=>simp[kindF]at hf
theorem leave_ret {N:Nat} {E:Env} {H:AHeap} {R:Out→AHeap→Prop} (hok:H.base≤H.next) (hR:∀ i,E 4=i→R (.ok i) (ext H [⟨99,false,[]⟩])) (h4:4<N) :
  leaveA Tryd.prog Tryd.f49 (mkA N E [⟨.fn (.func 68) #[],⟨[]⟩⟩]) [⟨.fn (.func 68) #[],⟨[]⟩⟩] .returning H R:=by
 refine⟨by kernel_rfl,_,_,_,exec1_ret H hok,?_⟩
 refine⟨[E 4],?_,?_⟩
 ·show resVal Tryd.prog _ _ [.tmp 4]=_
  rw[rs_tmp h4,rs_nil]
  rfl
 ·rw[tup_one]; exact hR _ rfl
theorem leave_pan {N:Nat} {E:Env} {H:AHeap} {R:Out→AHeap→Prop} (hok:H.base≤H.next) (hR:∀ i,E 4=i→R (.ok i) (ext H [⟨99,false,[]⟩])) (h4:4<N) :
  leaveA Tryd.prog Tryd.f49 (mkA N E [⟨.fn (.func 68) #[],⟨[]⟩⟩]) [⟨.fn (.func 68) #[],⟨[]⟩⟩] (.panicking [refusedP]) H R:=by
 refine⟨by kernel_rfl,_,_,_,exec1_pan H hok,?_⟩
 rw[settle_pan]
 refine⟨[E 4],?_,?_⟩
 ·show resVal Tryd.prog _ _ [.tmp 4]=_
  rw[rs_tmp h4,rs_nil]
  rfl
 ·rw[tup_one]; exact hR _ rfl
theorem executed_c (N:Nat) (H:AHeap) (p W:Nat) (v ov:Value) (rvs:List Value) (x:St) (l:List Op) (hl:OpsAt H ov l) (hov:l≠[]→∀ n∈idsV ov,n<N) (a:StAt 76 N H p v rvs x) (sl:Slc v) (t:Tab H) (hN:2≤N) (hNH:N≤H.next) (hok:H.base≤H.next) (ok:x.Ok W) (hlen:∀ o∈l,o.text.data.toList.length≤1000) (hll:l.length≤10000) :
  CallA Tryd.prog 49 [.pointer (some ⟨p,0,none⟩),ov] H (AllR N p (St.all W ptsR l 0 x) H):=by
 obtain⟨b,hb⟩:∃ b,H.next=b:=⟨_,rfl⟩
 have hbb:H.base≤b:=hb▸hok
 obtain⟨ao,co,eo⟩:=hl.sl
 have hst:∀ (M:Nat) (l:List Value),l.length=9→stB Tryd.prog 102 M 0 (.agg ⟨kindsV⟩) (some ⟨102,false,l⟩)=some ⟨102,false,kindsV⟩:=fun M l h=>by
  have hv:(Value.agg ⟨kindsV⟩).cells.toList=kindsV:=rfl
  rw[stB_ok (by rw[hv]; kernel_rfl) (by rw[hv,h]; decide) (by rw[hv]; rfl) (by rw[hv]; rfl),hv,putL_head _ _ (by rw[h]; decide),zE3 (by rw[h]; decide),zC8]
 have hcl:(Value.agg ⟨kindsV⟩).cells.toList=kindsV:=rfl
 have hps:putL ([.nilFunc,.nilFunc,.nilFunc,.nilFunc,.nilFunc,.nilFunc,.nilFunc,.nilFunc,.nilFunc]:List Value) 0 kindsV=kindsV:=rfl
 refine callE_fn mixed Tryd.func49 rfl Tryd.ntmps49 (zA9 rfl) ?_
 rw[eo]
 simp (maxDischargeDepth:=6) only[w_defer,ruW,putL,Nat.reduceLeDiff,xF,ruU,entryE,Nat.reduceLT,Nat.reduceAdd,Nat.reduceMul,Nat.reduceEqDiff]
 refine (kinds_c (ext H [])).to ?_
 simp (maxDischargeDepth:=6) only[hb,hbb,hst,hcl,hps,ruW,putL,Nat.reduceLeDiff,xF,ruU,entryE,Nat.reduceLT,Nat.reduceAdd,Nat.reduceMul,Nat.reduceEqDiff]
 rw[←eo]
 refine w_env fun E hE=>?_
 have g0:E 0=.pointer (some ⟨p,0,none⟩):=by rw[hE]; simp only[ruU,entryE,Nat.reduceLT,Nat.reduceAdd,Nat.reduceMul,Nat.reduceEqDiff]
 have g4:E 4=.int .i64 ((0:Nat):Int):=by rw[hE]; (simp only[ruU,entryE,Nat.reduceLT,Nat.reduceAdd,Nat.reduceMul,Nat.reduceEqDiff]<;>rfl)
 have g5:E 5=.pointer (some ⟨b+0,0,none⟩):=by rw[hE]; simp only[ruU,entryE,Nat.reduceLT,Nat.reduceAdd,Nat.reduceMul,Nat.reduceEqDiff]
 have g9:E 9=ov:=by rw[hE,eo]; simp only[ruU,entryE,Nat.reduceLT,Nat.reduceAdd,Nat.reduceMul,Nat.reduceEqDiff]
 have g10:E 10=.int .i64 (l.length:Int):=by rw[hE]; simp only[ruU,entryE,Nat.reduceLT,Nat.reduceAdd,Nat.reduceMul,Nat.reduceEqDiff]
 have g11:E 11=.int .i64 ((0:Nat):Int):=by rw[hE]; (simp only[ruU,entryE,Nat.reduceLT,Nat.reduceAdd,Nat.reduceMul,Nat.reduceEqDiff]<;>rfl)
 clear hE
 obtain⟨X,hX⟩:∃ X,ext H [⟨102,false,kindsV⟩]=X:=⟨_,rfl⟩
 have mX:Mod [] H X:=hX▸Mod.ext hok
 have kX:bk X (b+0)=some ⟨102,false,kindsV⟩:=by rw[←hX,bk_at hb (by simp)]; rfl
 have nX:X.next=b+1:=by rw[←hX,ext_next,hb]; rfl
 have okX:=mX.ok hok
 have aX:=a.mod0 mX
 rw[hX]
 rw[show X=ext X [] from rfl]
 have mXN:ModN N H X:=ModN.of (Ws:=[]) mX (by simp)
 have fin:∀ (Y:AHeap) (E:Env) (i:Nat),ModN N X Y→E 4=.int .i64 (i:Int)→St.all W ptsR l 0 x=.inr i→leaveA Tryd.prog Tryd.f49 (mkA 34 E [⟨.fn (.func 68) #[],⟨[]⟩⟩]) [⟨.fn (.func 68) #[],⟨[]⟩⟩] (.panicking [refusedP]) Y (AllR N p (St.all W ptsR l 0 x) H):=fun Y E i mY e4 hr=>by
  refine leave_pan (mY.ok okX) (fun j hj=>?_) (by decide)
  rw[e4]at hj
  subst hj
  rw[hr]
  exact⟨(mXN.trans mY).trans (ModN.of (Ws:=[]) (Mod.ext (mY.ok okX)) (by simp)),rfl⟩
 refine blockC_meet (fun E' Y=>ModN N X Y∧∃ y v rvs,St.all W ptsR l 0 x=.inl y∧Slc v∧StAt 76 N Y p v rvs y) ?_ ?_
 ·refine w_loop (fun (q:Nat × St × Value × List Value) E' Y=>ModN N X Y∧E' 0=.pointer (some ⟨p,0,none⟩)∧E' 5=.pointer (some ⟨b+0,0,none⟩)∧E' 9=ov∧E' 10=.int .i64 (l.length:Int)∧E' 11=.int .i64 (q.1:Int)∧q.1≤l.length∧St.all W ptsR (l.drop q.1) q.1 q.2.1=St.all W ptsR l 0 x∧q.2.1.Ok W∧Slc q.2.2.1∧StAt 76 N Y p q.2.2.1 q.2.2.2 q.2.1) (fun q=>l.length-q.1) (0,x,v,rvs)
   ⟨ModN.refl,g0,g5,g9,g10,g11,zB2 _,rfl,ok,sl,aX⟩ ?_
  clear g0 g4 g5 g9 g10 g11
  rintro⟨k,y,u,us⟩ E Y ⟨mY,g0,g5,g9,g10,g11,hk,hall,oky,slu,aY⟩
  simp only at g11 hk hall oky slu aY
  rw[show Y=ext Y [] from rfl]
  by_cases hkl:k=l.length
  ·have hc:decide ((k:Int)<(l.length:Int))=false:=by simp[hkl]
   simp (maxDischargeDepth:=6) only[g10,g11,hc,ruW,putL,Nat.reduceLeDiff,xF,ruU,entryE,Nat.reduceLT,Nat.reduceAdd,Nat.reduceMul,Nat.reduceEqDiff]
   rw[zE3 (by omega),St.all]at hall
   exact joinR_normal ⟨mY,y,u,us,hall.symm,slu,aY⟩
  ·have hlt:k<l.length:=by omega
   have hc:decide ((k:Int)<(l.length:Int))=true:=decide_eq_true (by omega)
   obtain⟨o,ho⟩:∃ o,l[k]?=some o:=⟨_,zA6 hlt⟩
   have hlo:=hlen o (zC1 ho)
   have okY:=mY.ok okX
   obtain⟨yn,hyn⟩:∃ n,Y.next=n:=⟨_,rfl⟩
   have hyb:Y.base≤yn:=hyn▸okY
   have hby:b+0<yn:=by have:=mY.next; omega
   have kY:bk Y (b+0)=some ⟨102,false,kindsV⟩:=mY.kinds (by omega) kX
   have tY:Tab Y:=(t.modN (mXN.trans mY) hN (by omega))
   rcases hl with⟨h,_⟩|⟨hne,no,off,so,co',eo1,oo,L,eov,hrk,hno,hle,hop⟩
   ·rw[h]at hlt; simp at hlt
   have hnoN:no<N:=hov hne no (by rw[eov]; simp[idsV])
   have hnoY:rk Y no=some ⟨eo1,oo,L⟩:=by
    obtain⟨Ws,h1,m1⟩:=mXN.trans mY
    exact (rk_get (m1.get no hno fun h=>by have:=(h1 no h).1; omega)).trans hrk
   have hnoy:no<yn:=by have:=(mXN.trans mY).next; omega
   have ia:=op_ia (len:=l.length) (cap:=co') (n:=no) (off:=off) (s:=so) (i:=(k:Int)) rfl hlt
   have ld:=op_load (e:=eo1) (o:=oo) ho hle hop
   rw[eov]at g9
   simp (maxDischargeDepth:=6) only[g0,g5,g9,g10,g11,hc,hyn,hyb,hnoy,ia,hnoY,ld,qk_old,Op.val,Op.cells,ruW,putL,Nat.reduceLeDiff,xF,ruU,entryE,Nat.reduceLT,Nat.reduceAdd,Nat.reduceMul,Nat.reduceEqDiff]
   obtain⟨d1,h1⟩:∃ d,decide (0≤o.kind)=d:=⟨_,rfl⟩
   obtain⟨d2,h2⟩:∃ d,decide (o.kind<9)=d:=⟨_,rfl⟩
   have mB:Mod [] Y (ext Y [⟨47,false,o.cells⟩]):=Mod.ext okY
   have mBN:ModN N X (ext Y [⟨47,false,o.cells⟩]):=mY.trans (ModN.of (Ws:=[]) mB (by simp))
   by_cases hv:(d1&&d2)=true
   ·simp only[zA5]at hv
    obtain⟨rfl,rfl⟩:=hv
    have q1:=of_decide_eq_true h1
    have q2:=of_decide_eq_true h2
    obtain⟨j,hj⟩:∃ j:Nat,o.kind=j:=⟨o.kind.toNat,by omega⟩
    have hj9:j<9:=by omega
    obtain⟨f,hf⟩:∃ f,kindF[j]?=some f:=⟨_,zA6 (show j<9 from hj9)⟩
    have hbf:hasBody Tryd.prog f=true:=zC0.1 kindF_body f (zC1 hf)
    simp (maxDischargeDepth:=6) only[h1,h2,hyn,hyb,ruW,putL,Nat.reduceLeDiff,xF,ruU,entryE,Nat.reduceLT,Nat.reduceAdd,Nat.reduceMul,Nat.reduceEqDiff]
    refine CallS.to (needs_t _) ?_
    have ix:aIndexAddr Tryd.prog 102 (.pointer (some ⟨b+0,0,none⟩)) (.int .i64 (j:Int))=some (.pointer (some ⟨b+0,0+j,none⟩)):=by
     have hu:Tryd.prog.underlying 102=some (.array 9 101):=by kernel_rfl
     have hz:szOf Tryd.prog 101=some 1:=by kernel_rfl
     simp only[aIndexAddr,hu,hz,zA1,zA3]
     rw[if_pos ⟨by omega,by omega⟩]
     simp[Addr.add]
     omega
    have lk:ldB Tryd.prog 101 (0+j) (some ⟨102,false,kindsV⟩)=some (.func (.func f) ⟨[]⟩ ⟨[]⟩):=by
     rw[ld_one (by kernel_rfl),zB6]
     simp only[kindsV,List.getElem?_map,hf,zA7]
     rfl
    simp (maxDischargeDepth:=6) only[g0,g5,hyn,hj,ruW,putL,Nat.reduceLeDiff,xF,ruU,entryE,Nat.reduceLT,Nat.reduceAdd,Nat.reduceMul,Nat.reduceEqDiff]
    refine w_drawP [] [] (by kernel_rfl) (by kernel_rfl) rfl rfl (fun ops anc hA hG=>?_) (by simp) ⟨rfl,rfl⟩
    simp (maxDischargeDepth:=6) only[dropLast_more,dropLast_one,g0,g5,hyn,hby,kY,ix,lk,ruD,ruW,putL,Nat.reduceLeDiff,xF,ruU,entryE,Nat.reduceLT,Nat.reduceAdd,Nat.reduceMul,Nat.reduceEqDiff]
    simp only[lastO_cons,lastO_one,isDef_call,ff_eq,true_and]
    refine w_callV (f:=f) (ca:=[]) (by simp only[ruU,entryE,Nat.reduceLT,Nat.reduceAdd,Nat.reduceMul,Nat.reduceEqDiff]) (by simp only[ruU,entryE,Nat.reduceLT,Nat.reduceAdd,Nat.reduceMul,Nat.reduceEqDiff]) (by simp only[ruU,entryE,Nat.reduceLT,Nat.reduceAdd,Nat.reduceMul,Nat.reduceEqDiff]) hbf ?_
    simp only[ruU,entryE,Nat.reduceLT,Nat.reduceAdd,Nat.reduceMul,Nat.reduceEqDiff]
    rw[zC8]
    have aB:=aY.mod0 mB
    have tB:Tab (ext Y [⟨47,false,o.cells⟩]):=tY.modN (ModN.of (N:=N) (Ws:=[]) mB (by simp)) hN (by omega)
    have key:=kind_c N (ext Y [⟨47,false,o.cells⟩]) p W u us y o j f hj hf aB slu tB hN (mB.ok okY) oky hlo
    simp only[Op.val,Op.cells,hj]at key
    refine key.mono ?_
    rintro out Z ⟨mZ,hr⟩
    replace mZ:ModN N (ext Y [⟨47,false,o.cells⟩]) Z:=by simp only[Op.cells,hj]; exact mZ
    have mZN:=mBN.trans mZ
    cases hd:y.does W ptsR o with
    |none =>
     rw[hd]at hr
     obtain rfl:=hr
     have hstop:=all_stop (W:=W) l k k y o ho hd
     rw[hstop]at hall
     simp only[opC_error,seqC_panic,blockC_panic,loopC_panic,joinR_panic,endA_panic]
     exact fin _ _ k mZN (by simp only[ruU,entryE,Nat.reduceLT,Nat.reduceAdd,Nat.reduceMul,Nat.reduceEqDiff]) hall.symm
    |some y2 =>
     rw[hd]at hr
     obtain⟨rfl,v2,us2,sl2,a2⟩:=hr
     rw[all_drop l k k y y2 o ho hd]at hall
     rw[show Z=ext Z [] from rfl]
     simp (maxDischargeDepth:=6) only[g11,wrap_succ (show k<1000000 by omega),ruW,putL,Nat.reduceLeDiff,xF,ruU,entryE,Nat.reduceLT,Nat.reduceAdd,Nat.reduceMul,Nat.reduceEqDiff]
     refine loopC_next ⟨(k+1,y2,v2,us2),by simp only; omega,mZN,?_,?_,?_,?_,?_,by simp only; omega,hall,does_ok oky hd,sl2,a2⟩
     ·simp only[g0,ruU,entryE,Nat.reduceLT,Nat.reduceAdd,Nat.reduceMul,Nat.reduceEqDiff]
     ·simp only[g5,ruU,entryE,Nat.reduceLT,Nat.reduceAdd,Nat.reduceMul,Nat.reduceEqDiff]
     ·simp only[g9,eov,ruU,entryE,Nat.reduceLT,Nat.reduceAdd,Nat.reduceMul,Nat.reduceEqDiff]
     ·simp only[g10,ruU,entryE,Nat.reduceLT,Nat.reduceAdd,Nat.reduceMul,Nat.reduceEqDiff]
     ·simp only[ruU,entryE,Nat.reduceLT,Nat.reduceAdd,Nat.reduceMul,Nat.reduceEqDiff]
   ·have hdn:y.does W ptsR o=none:=by
     rw[does_eq]
     have:o.kind<0∨9≤o.kind:=by
      cases d1 with
      |false=>have:=of_decide_eq_false h1; omega
      |true =>
       cases d2 with
       |false=>have:=of_decide_eq_false h2; omega
       |true=>exact absurd rfl hv
     rw[if_neg (by omega),if_neg (by omega),if_neg (by omega),if_neg (by omega),if_neg (by omega),if_neg (by omega),if_neg (by omega),if_neg (by omega)]
    have hstop:=all_stop (W:=W) l k k y o ho hdn
    rw[hstop]at hall
    have hs:d1=false∨(d1=true∧d2=false):=by cases d1<;>cases d2<;>simp_all
    rcases hs with rfl|⟨rfl,rfl⟩
    ·simp (maxDischargeDepth:=6) only[h1,ruW,putL,Nat.reduceLeDiff,xF,ruU,entryE,Nat.reduceLT,Nat.reduceAdd,Nat.reduceMul,Nat.reduceEqDiff]
     refine CallS.panics (needs_f _) ?_
     simp only[opC_error,seqC_panic,blockC_panic,loopC_panic,joinR_panic,endA_panic]
     exact fin _ _ k mBN (by simp only[ruU,entryE,Nat.reduceLT,Nat.reduceAdd,Nat.reduceMul,Nat.reduceEqDiff]) hall.symm
    ·simp (maxDischargeDepth:=6) only[h1,h2,hyn,hyb,ruW,putL,Nat.reduceLeDiff,xF,ruU,entryE,Nat.reduceLT,Nat.reduceAdd,Nat.reduceMul,Nat.reduceEqDiff]
     refine CallS.panics (needs_f _) ?_
     simp only[opC_error,seqC_panic,blockC_panic,loopC_panic,joinR_panic,endA_panic]
     exact fin _ _ k mBN (by simp only[ruU,entryE,Nat.reduceLT,Nat.reduceAdd,Nat.reduceMul,Nat.reduceEqDiff]) hall.symm
 ·rintro E Y ⟨mY,y,u,us,hall,slu,aY⟩
  rw[show Y=ext Y [] from rfl]
  simp (maxDischargeDepth:=6) only[ruW,putL,Nat.reduceLeDiff,xF,ruU,entryE,Nat.reduceLT,Nat.reduceAdd,Nat.reduceMul,Nat.reduceEqDiff]
  rw[hall]
  refine leave_ret (mY.ok okX) (fun i hi=>?_) (by decide)
  simp only[ruU,entryE,Nat.reduceLT,Nat.reduceAdd,Nat.reduceMul,Nat.reduceEqDiff]at hi
  subst hi
  exact⟨(mXN.trans mY).trans (ModN.of (Ws:=[]) (Mod.ext (mY.ok okX)) (by simp)),rfl,u,us,slu,aY.mod0 (Mod.ext (mY.ok okX))⟩
def wholeB:List Ce→Bool
 |[]=>true
 |c::l=>if (decide (cellsR c.rune=0)||!colr c.look)=true then false else
   if cellsR c.rune=2 then (match l with|[]=>false|d::l'=>decide (d=c.look.ce (-1))&&wholeB l') else wholeB l
theorem wholeB_cons (c : Ce) (l : List Ce) : wholeB (c :: l) = if (decide (cellsR c.rune = 0) || !colr c.look) = true then false else
   if cellsR c.rune=2 then (match l with|[]=>false|d::l'=>decide (d=c.look.ce (-1))&&wholeB l') else wholeB l:=by
 cases l<;>first|rfl|rw[wholeB]
theorem whole39_c (H:AHeap) (v:Value) (l:List Ce) (h:RowAt H v l) (hl:l.length<1000000):Pure 44 [v] H (.bool (wholeB l)):=by
 obtain⟨b,hb⟩:∃ b,H.next=b:=⟨_,rfl⟩
 obtain⟨B,hB⟩:∃ B,wholeB l=B:=⟨_,rfl⟩
 rw[hB]
 refine callS_fn mixed Tryd.func44 rfl Tryd.ntmps44 (zA9 rfl) fun wf hsc=>?_
 obtain⟨a1,c1,e1⟩:=h.sl
 rw[e1]
 simp (maxDischargeDepth:=6) only[ruW,putL,Nat.reduceLeDiff,xF,ruU,entryE,Nat.reduceLT,Nat.reduceAdd,Nat.reduceMul,Nat.reduceEqDiff]
 rw[←e1]
 refine w_env fun E hE=>?_
 have g0:E 0=v:=by rw[hE]; simp only[ruU,entryE,Nat.reduceLT,Nat.reduceAdd,Nat.reduceMul,Nat.reduceEqDiff]
 have g3:E 3=.int .i64 ((0:Nat):Int):=by rw[hE]; (simp only[ruU,entryE,Nat.reduceLT,Nat.reduceAdd,Nat.reduceMul,Nat.reduceEqDiff]<;>rfl)
 clear hE
 refine blockC_meet (fun E' H'=>H'=ext H []∧B=true) ?_ ?_
 ·refine w_loop (fun (k:Nat) E' H'=>H'=ext H []∧E' 0=v∧E' 3=.int .i64 (k:Int)∧k≤l.length∧wholeB (l.drop k)=B) (fun k=>l.length-k) 0
   ⟨rfl,g0,g3,zB2 _,hB⟩ ?_
  clear g0 g3
  rintro k E H' ⟨hH,g0,g3,hk,hi⟩
  rw[hH]
  by_cases hkl:k=l.length
  ·have hc:decide ((k:Int)<(l.length:Int))=false:=by simp[hkl]
   rw[e1]at g0
   simp (maxDischargeDepth:=6) only[g0,g3,hc,ruW,putL,Nat.reduceLeDiff,xF,ruU,entryE,Nat.reduceLT,Nat.reduceAdd,Nat.reduceMul,Nat.reduceEqDiff]
   rw[zE3 (by omega),wholeB]at hi
   exact joinR_normal ⟨rfl,hi.symm⟩
  ·have hlt:k<l.length:=by omega
   have hc:decide ((k:Int)<(l.length:Int))=true:=decide_eq_true (by omega)
   rcases h with⟨h,_⟩|⟨_,n1,o1,s1,x1,t1,p1,L1,rfl,b1,n1l,le1,tk1⟩
   ·rw[h]at hlt; simp at hlt
   obtain⟨r1,hr1⟩:∃ r,l[k]?=some r:=⟨_,zA6 hlt⟩
   have i1:=row_ia (n:=n1) (off:=o1) (s:=s1) (cap:=x1) (i:=(k:Int)) rfl hlt
   have q1:=run_load (e:=t1) (o:=p1) hr1 le1 tk1
   have q2:=look_load (e:=t1) (o:=p1) hr1 le1 tk1
   rw[hb]at n1l
   have hdr:l.drop k=r1::l.drop (k+1):=by
    rw[zG2 hlt]
    rw[zA6 hlt]at hr1
    rw[Option.some.inj hr1]
   rw[hdr,wholeB_cons]at hi
   obtain⟨m,hm⟩:∃ m,cellsR r1.rune=m:=⟨_,rfl⟩
   obtain⟨cl,hcl⟩:∃ x,colr r1.look=x:=⟨_,rfl⟩
   have hm3:=cellsR_cases r1.rune
   have hcs:=cellsOf_c (ext H []) r1.rune
   have hco:=coloured39_c (ext H []) r1.look
   rw[hm]at hcs hi hm3
   rw[hcl]at hco hi
   have c00:decide (((0:Nat):Int)=0)=true:=by decide
   have c10:decide (((1:Nat):Int)=0)=false:=by decide
   have c12:decide (((1:Nat):Int)=2)=false:=by decide
   have c20:decide (((2:Nat):Int)=0)=false:=by decide
   have c22:decide (((2:Nat):Int)=2)=true:=by decide
   simp (maxDischargeDepth:=6) only[g0,g3,hb,hc,i1,b1,n1l,q1,q2,qk_old,ruW,putL,Nat.reduceLeDiff,xF,ruU,entryE,Nat.reduceLT,Nat.reduceAdd,Nat.reduceMul,Nat.reduceEqDiff]
   refine hcs.to ?_
   rcases hm3 with rfl|rfl|rfl
   ·obtain rfl:false=B:=by simpa using hi
    simp (maxDischargeDepth:=6) only[g0,g3,hb,hc,i1,b1,n1l,q1,q2,qk_old,c00,joinR_ret,Tryd.results44,ruW,putL,Nat.reduceLeDiff,xF,ruU,entryE,Nat.reduceLT,Nat.reduceAdd,Nat.reduceMul,Nat.reduceEqDiff]
    exact Fin.pureE rfl rfl
   ·simp (maxDischargeDepth:=6) only[g0,g3,hb,hc,i1,b1,n1l,q1,q2,qk_old,c10,c12,c20,c22,ruW,putL,Nat.reduceLeDiff,xF,ruU,entryE,Nat.reduceLT,Nat.reduceAdd,Nat.reduceMul,Nat.reduceEqDiff]
    refine hco.to ?_
    cases cl with
    |false =>
     obtain rfl:false=B:=by simpa using hi
     simp (maxDischargeDepth:=6) only[g0,g3,hb,hc,i1,b1,n1l,q1,q2,qk_old,c10,zE1,joinR_ret,Tryd.results44,ruW,putL,Nat.reduceLeDiff,xF,ruU,entryE,Nat.reduceLT,Nat.reduceAdd,Nat.reduceMul,Nat.reduceEqDiff]
     exact Fin.pureE rfl rfl
    |true =>
     simp (maxDischargeDepth:=6) only[g0,g3,hb,hc,i1,b1,n1l,q1,q2,qk_old,c10,c12,c20,c22,zD3,wrap_succ (show k<1000000 by omega),ruW,putL,Nat.reduceLeDiff,xF,ruU,entryE,Nat.reduceLT,Nat.reduceAdd,Nat.reduceMul,Nat.reduceEqDiff]
     refine loopC_next ⟨k+1,by omega,rfl,?_,?_,by omega,by simpa using hi⟩
     ·simp only[g0,ruU,entryE,Nat.reduceLT,Nat.reduceAdd,Nat.reduceMul,Nat.reduceEqDiff]
     ·simp only[ruU,entryE,Nat.reduceLT,Nat.reduceAdd,Nat.reduceMul,Nat.reduceEqDiff]
   ·simp (maxDischargeDepth:=6) only[g0,g3,hb,hc,i1,b1,n1l,q1,q2,qk_old,c10,c12,c20,c22,ruW,putL,Nat.reduceLeDiff,xF,ruU,entryE,Nat.reduceLT,Nat.reduceAdd,Nat.reduceMul,Nat.reduceEqDiff]
    refine hco.to ?_
    cases cl with
    |false =>
     obtain rfl:false=B:=by simpa using hi
     simp (maxDischargeDepth:=6) only[g0,g3,hb,hc,i1,b1,n1l,q1,q2,qk_old,c20,zE1,joinR_ret,Tryd.results44,ruW,putL,Nat.reduceLeDiff,xF,ruU,entryE,Nat.reduceLT,Nat.reduceAdd,Nat.reduceMul,Nat.reduceEqDiff]
     exact Fin.pureE rfl rfl
    |true =>
     simp (maxDischargeDepth:=6) only[g0,g3,hb,hc,i1,b1,n1l,q1,q2,qk_old,c10,c12,c20,c22,zD3,wrap_succ (show k<1000000 by omega),ruW,putL,Nat.reduceLeDiff,xF,ruU,entryE,Nat.reduceLT,Nat.reduceAdd,Nat.reduceMul,Nat.reduceEqDiff]
     have hws:IntKind.i64.wrap (((k+1:Nat):Int)-1)=(k:Int):=(wrap_sm (n:=((k+1:Nat):Int)-1) (by omega) (by omega)).trans (by omega)
     by_cases hlt1:k+1<l.length
     ·have hc1:decide (((k+1:Nat):Int)=(l.length:Int))=false:=decide_eq_false (by omega)
      obtain⟨r2,hr2⟩:∃ r,l[k+1]?=some r:=⟨_,zA6 hlt1⟩
      have hdr2:l.drop (k+1)=r2::l.drop (k+1+1):=by
       rw[zG2 hlt1]
       rw[zA6 hlt1]at hr2
       rw[Option.some.inj hr2]
      rw[hdr2]at hi
      have hi':(decide (r2=r1.look.ce (-1))&&wholeB (l.drop (k+1+1)))=B:=by simpa using hi
      have i2:=row_ia (n:=n1) (off:=o1) (s:=s1) (cap:=x1) (i:=((k+1:Nat):Int)) rfl hlt1
      have q3:=row_load (e:=t1) (o:=p1) hr2 le1 tk1
      refine w_drawB [] [(4,36)] (by kernel_rfl) (by kernel_rfl) (by kernel_rfl) fun ops anc hA hG=>?_
      simp only[all2_cons]at hG
      simp (maxDischargeDepth:=6) only[g0,g3,hb,hc1,i1,i2,b1,n1l,q2,q3,qk_old,hws,hG,Lk.val,Ce.val,Ce.cells,ruD,ruW,putL,Nat.reduceLeDiff,xF,ruU,entryE,Nat.reduceLT,Nat.reduceAdd,Nat.reduceMul,Nat.reduceEqDiff]
      obtain⟨dq,hdq⟩:∃ x,decide (r2=r1.look.ce (-1))=x:=⟨_,rfl⟩
      rw[hdq]at hi'
      refine wd_eqS (ts:=[3,3,3,4,4,4]) (xs:=r2.cells) (ys:=(r1.look.ce (-1)).cells) (r:=!dq) fl55 ag55 gd55 (by rw[ce_eqL,hdq]; rfl) (by simp only[ruU,entryE,Nat.reduceLT,Nat.reduceAdd,Nat.reduceMul,Nat.reduceEqDiff]) (by simp only[ruU,entryE,Nat.reduceLT,Nat.reduceAdd,Nat.reduceMul,Nat.reduceEqDiff]) (by decide) (by simp only[ruU,entryE,Nat.reduceLT,Nat.reduceAdd,Nat.reduceMul,Nat.reduceEqDiff]; rfl) (by simp only[ruU,entryE,Nat.reduceLT,Nat.reduceAdd,Nat.reduceMul,Nat.reduceEqDiff]; rfl) (ce_fits _) (ce_fits _) ?_
      cases dq with
      |true =>
       simp (maxDischargeDepth:=6) only[g0,g3,hG,zD3,wrap_succ (show k+1<1000000 by omega),ruD,ruW,putL,Nat.reduceLeDiff,xF,ruU,entryE,Nat.reduceLT,Nat.reduceAdd,Nat.reduceMul,Nat.reduceEqDiff]
       refine loopC_next ⟨k+1+1,by omega,rfl,?_,?_,by omega,by simpa using hi'⟩
       ·simp only[g0,ruU,entryE,Nat.reduceLT,Nat.reduceAdd,Nat.reduceMul,Nat.reduceEqDiff]
       ·simp only[ruU,entryE,Nat.reduceLT,Nat.reduceAdd,Nat.reduceMul,Nat.reduceEqDiff]
      |false =>
       obtain rfl:false=B:=by simpa using hi'
       simp (maxDischargeDepth:=6) only[g0,g3,hG,zE1,joinR_ret,Tryd.results44,ruD,ruW,putL,Nat.reduceLeDiff,xF,ruU,entryE,Nat.reduceLT,Nat.reduceAdd,Nat.reduceMul,Nat.reduceEqDiff]
       exact Fin.pureE rfl rfl
     ·have hc1:decide (((k+1:Nat):Int)=(l.length:Int))=true:=decide_eq_true (by omega)
      rw[zE3 (by omega)]at hi
      obtain rfl:false=B:=by simpa using hi
      refine w_drawB [] [(4,36)] (by kernel_rfl) (by kernel_rfl) (by kernel_rfl) fun ops anc hA hG=>?_
      simp only[all2_cons]at hG
      simp (maxDischargeDepth:=6) only[g0,g3,hb,hc1,hG,joinR_ret,Tryd.results44,ruD,ruW,putL,Nat.reduceLeDiff,xF,ruU,entryE,Nat.reduceLT,Nat.reduceAdd,Nat.reduceMul,Nat.reduceEqDiff]
      exact Fin.pureE rfl rfl
 ·rintro E H' ⟨hH,rfl⟩
  rw[hH]
  simp (maxDischargeDepth:=6) only[Tryd.results44,ruW,putL,Nat.reduceLeDiff,xF,ruU,entryE,Nat.reduceLT,Nat.reduceAdd,Nat.reduceMul,Nat.reduceEqDiff]
  exact Fin.pure rfl
def okRow (W:Nat) (l:List Ce):Bool:=decide (l.length=W)&&wholeB l
theorem narrow39_c (H:AHeap) (v:Value) (l:List Ce) (W bw:Nat) (hr:RowAt H v l) (hl:l.length<1000000) (hb:bk H bw=some ⟨3,false,[.int .i64 (W:Int)]⟩):Pure 43 [v,.pointer (some ⟨bw,0,none⟩)] H (.bool (!okRow W l)):=by
 obtain⟨b,hbn⟩:∃ b,H.next=b:=⟨_,rfl⟩
 obtain⟨a,c,e⟩:=hr.sl
 obtain⟨B,hB⟩:∃ B,wholeB l=B:=⟨_,rfl⟩
 obtain⟨d,hd⟩:∃ d,decide (l.length=W)=d:=⟨_,rfl⟩
 have hd2:decide (¬(l.length:Int)=(W:Int))=!d:=by
  rw[←hd,decide_not]
  by_cases h:l.length=W
  ·rw[decide_eq_true h,decide_eq_true (by omega)]
  ·rw[decide_eq_false h,decide_eq_false (by omega)]
 have hwh:=whole39_c (ext H []) v l hr hl
 rw[okRow,hB,hd]
 rw[e,hB]at hwh
 rw[e]
 refine callS_fn mixed Tryd.func43 rfl Tryd.ntmps43 (zA9 rfl) fun wf hsc=>?_
 have hlt:bw<b:=hbn▸wf.lt hb
 cases d with
 |false =>
  simp (maxDischargeDepth:=6) only[hbn,hb,hlt,hd2,zE1,Bool.false_and,Tryd.results43,ruW,putL,Nat.reduceLeDiff,xF,ruU,entryE,Nat.reduceLT,Nat.reduceAdd,Nat.reduceMul,Nat.reduceEqDiff]
  exact Fin.pureE rfl rfl
 |true =>
  simp (maxDischargeDepth:=6) only[hbn,hb,hlt,hd2,zD3,Bool.true_and,ruW,putL,Nat.reduceLeDiff,xF,ruU,entryE,Nat.reduceLT,Nat.reduceAdd,Nat.reduceMul,Nat.reduceEqDiff]
  refine hwh.to ?_
  simp (maxDischargeDepth:=6) only[Tryd.results43,ruW,putL,Nat.reduceLeDiff,xF,ruU,entryE,Nat.reduceLT,Nat.reduceAdd,Nat.reduceMul,Nat.reduceEqDiff]
  exact Fin.pureE rfl rfl
def badAt (W:Nat):List (List Ce)→Option Nat
 |[]=>none
 |l::g=>if okRow W l=true then (badAt W g).map (·+1) else some 0
theorem badAt_drop (W:Nat):∀ (g:List (List Ce)) (k:Nat),(∀ i l,i<k→g[i]?=some l→okRow W l=true)→badAt W g=(badAt W (g.drop k)).map (·+k)
 |g,0,_=>by simp
 |[],k+1,_=>rfl
 |l::g,k+1,h=>by
  rw[badAt,if_pos (h 0 l (Nat.succ_pos _) rfl),List.drop_succ_cons,badAt_drop W g k fun i l' hi hl=>h (i+1) l' (by omega) hl]
  cases badAt W (g.drop k) with
  |none=>rfl
  |some m=>simp only[zA7]; congr 1
def okGrid (W:Nat) (g:List (List Ce)):Bool:=g.all (okRow W)
theorem badAt_ok (W:Nat):∀ (g:List (List Ce)),(badAt W g).isNone=okGrid W g
 |[]=>rfl
 |l::g=>by
  rw[badAt,okGrid,List.all_cons]
  cases h:okRow W l with
  |false=>simp
  |true=>rw[if_pos rfl,Option.isNone_map,badAt_ok W g,okGrid,Bool.true_and]
def ixV:Option Nat→Int
 |none=>-1
 |some n=>n
theorem index39_c (H:AHeap) (v:Value) (g:List (List Ce)) (W bw:Nat) (hg:GridAt H v g) (hw:∀ l∈g,l.length<1000000) (hgl:g.length<1000000) (hbw:bk H bw=some ⟨3,false,[.int .i64 (W:Int)]⟩) :
  Pure 61 [v,.func (.func 43) ⟨[]⟩ ⟨[.pointer (some ⟨bw,0,none⟩)]⟩] H (.int .i64 (ixV (badAt W g))):=by
 obtain⟨b,hb⟩:∃ b,H.next=b:=⟨_,rfl⟩
 refine callS_fn mixed Tryd.func61 rfl Tryd.ntmps61 (zA9 rfl) fun wf hsc=>?_
 obtain⟨a1,c1,e1⟩:=hg.sl
 rw[e1]
 simp (maxDischargeDepth:=6) only[ruW,putL,Nat.reduceLeDiff,xF,ruU,entryE,Nat.reduceLT,Nat.reduceAdd,Nat.reduceMul,Nat.reduceEqDiff]
 rw[←e1]
 refine w_env fun E hE=>?_
 have g0:E 0=v:=by rw[hE]; simp only[ruU,entryE,Nat.reduceLT,Nat.reduceAdd,Nat.reduceMul,Nat.reduceEqDiff]
 have g1:E 1=.func (.func 43) ⟨[]⟩ ⟨[.pointer (some ⟨bw,0,none⟩)]⟩:=by rw[hE]; simp only[ruU,entryE,Nat.reduceLT,Nat.reduceAdd,Nat.reduceMul,Nat.reduceEqDiff]
 have g7:E 7=.int .i64 (g.length:Int):=by rw[hE]; simp only[ruU,entryE,Nat.reduceLT,Nat.reduceAdd,Nat.reduceMul,Nat.reduceEqDiff]
 have g8:E 8=.int .i64 ((0:Nat):Int):=by rw[hE]; (simp only[ruU,entryE,Nat.reduceLT,Nat.reduceAdd,Nat.reduceMul,Nat.reduceEqDiff]<;>rfl)
 clear hE
 refine blockC_meet (fun E' H'=>H'=ext H []∧badAt W g=none) ?_ ?_
 ·refine w_loop (fun (k:Nat) E' H'=>H'=ext H []∧E' 0=v∧E' 1=.func (.func 43) ⟨[]⟩ ⟨[.pointer (some ⟨bw,0,none⟩)]⟩∧E' 7=.int .i64 (g.length:Int)∧E' 8=.int .i64 (k:Int)∧k≤g.length∧∀ i l,i<k→g[i]?=some l→okRow W l=true) (fun k=>g.length-k) 0
   ⟨rfl,g0,g1,g7,g8,zB2 _,fun i l hi=>by omega⟩ ?_
  clear g0 g1 g7 g8
  rintro k E H' ⟨hH,g0,g1,g7,g8,hk,hpre⟩
  rw[hH]
  have hbd:=badAt_drop W g k hpre
  by_cases hkl:k=g.length
  ·have hc:decide ((k:Int)<(g.length:Int))=false:=by simp[hkl]
   simp (maxDischargeDepth:=6) only[g0,g1,g7,g8,hc,ruW,putL,Nat.reduceLeDiff,xF,ruU,entryE,Nat.reduceLT,Nat.reduceAdd,Nat.reduceMul,Nat.reduceEqDiff]
   rw[zE3 (by omega)]at hbd
   exact joinR_normal ⟨rfl,hbd⟩
  ·have hlt:k<g.length:=by omega
   have hc:decide ((k:Int)<(g.length:Int))=true:=decide_eq_true (by omega)
   rcases hg with⟨h,_⟩|⟨_,n1,o1,s1,x1,t1,p1,L1,rfl,b1,n1l,le1,tk1⟩
   ·rw[h]at hlt; simp at hlt
   obtain⟨w1,hr1⟩:∃ r,g[k]?=some r:=⟨_,zA6 hlt⟩
   obtain⟨u1,hu1,ra1⟩:=tk1 k w1 hr1
   have i1:=grid_ia (n:=n1) (off:=o1) (s:=s1) (cap:=x1) (i:=(k:Int)) rfl hlt
   have q1:=grid_load (e:=t1) (o:=p1) hu1
   rw[hb]at n1l
   have hna:=narrow39_c (ext H []) u1 w1 W bw ra1 (hw w1 (zC1 hr1)) hbw
   obtain⟨d,hd⟩:∃ d,okRow W w1=d:=⟨_,rfl⟩
   rw[hd]at hna
   have hdr:g.drop k=w1::g.drop (k+1):=by
    rw[zG2 hlt]
    rw[zA6 hlt]at hr1
    rw[Option.some.inj hr1]
   rw[hdr,badAt,hd]at hbd
   simp (maxDischargeDepth:=6) only[g0,g1,g7,g8,hb,hc,i1,b1,n1l,q1,qk_old,ruW,putL,Nat.reduceLeDiff,xF,ruU,entryE,Nat.reduceLT,Nat.reduceAdd,Nat.reduceMul,Nat.reduceEqDiff]
   refine w_callV (f:=43) (ca:=[.pointer (some ⟨bw,0,none⟩)]) (by simp only[ruU,entryE,Nat.reduceLT,Nat.reduceAdd,Nat.reduceMul,Nat.reduceEqDiff]) (by simp only[g1,ruU,entryE,Nat.reduceLT,Nat.reduceAdd,Nat.reduceMul,Nat.reduceEqDiff]) (by simp only[ruU,entryE,Nat.reduceLT,Nat.reduceAdd,Nat.reduceMul,Nat.reduceEqDiff]) (by kernel_rfl) ?_
   simp only[ruU,entryE,Nat.reduceLT,Nat.reduceAdd,Nat.reduceMul,Nat.reduceEqDiff]
   refine (show CallS Tryd.prog 43 _ (ext H []) _ (ext H []) from hna).to ?_
   cases d with
   |true =>
    simp (maxDischargeDepth:=6) only[g0,g1,g7,g8,zD3,wrap_succ (show k<1000000 by omega),ruW,putL,Nat.reduceLeDiff,xF,ruU,entryE,Nat.reduceLT,Nat.reduceAdd,Nat.reduceMul,Nat.reduceEqDiff]
    refine loopC_next ⟨k+1,by omega,rfl,?_,?_,?_,?_,by omega,fun i l hi hl=>?_⟩
    ·simp only[g0,ruU,entryE,Nat.reduceLT,Nat.reduceAdd,Nat.reduceMul,Nat.reduceEqDiff]
    ·simp only[g1,ruU,entryE,Nat.reduceLT,Nat.reduceAdd,Nat.reduceMul,Nat.reduceEqDiff]
    ·simp only[g7,ruU,entryE,Nat.reduceLT,Nat.reduceAdd,Nat.reduceMul,Nat.reduceEqDiff]
    ·simp only[g8,ruU,entryE,Nat.reduceLT,Nat.reduceAdd,Nat.reduceMul,Nat.reduceEqDiff]
    ·rcases zC4 i k with h|h
     ·exact hpre i l h hl
     ·obtain rfl:i=k:=by omega
      rw[hr1]at hl
      cases hl
      exact hd
   |false =>
    have hbd':badAt W g=some k:=by simpa using hbd
    simp (maxDischargeDepth:=6) only[g0,g1,g7,g8,zE1,joinR_ret,Tryd.results61,ruW,putL,Nat.reduceLeDiff,xF,ruU,entryE,Nat.reduceLT,Nat.reduceAdd,Nat.reduceMul,Nat.reduceEqDiff]
    exact Fin.pureE (by rw[hbd']; rfl) rfl
 ·rintro E H' ⟨hH,hbd⟩
  rw[hH]
  simp (maxDischargeDepth:=6) only[Tryd.results61,ruW,putL,Nat.reduceLeDiff,xF,ruU,entryE,Nat.reduceLT,Nat.reduceAdd,Nat.reduceMul,Nat.reduceEqDiff]
  exact Fin.pureE (by rw[hbd]; rfl) rfl
theorem contains39_c (H:AHeap) (v:Value) (g:List (List Ce)) (W bw:Nat) (hg:GridAt H v g) (hw:∀ l∈g,l.length<1000000) (hgl:g.length<1000000) (hbw:bk H bw=some ⟨3,false,[.int .i64 (W:Int)]⟩) :
  Pure 42 [v,.func (.func 43) ⟨[]⟩ ⟨[.pointer (some ⟨bw,0,none⟩)]⟩] H (.bool (!okGrid W g)):=by
 have hi:=index39_c (ext H []) v g W bw hg hw hgl hbw
 have hok:=badAt_ok W g
 obtain⟨r,hr⟩:∃ r,badAt W g=r:=⟨_,rfl⟩
 rw[hr]at hi hok
 rw[←hok]
 refine callS_fn mixed Tryd.func42 rfl Tryd.ntmps42 (zA9 rfl) fun wf hsc=>?_
 simp (maxDischargeDepth:=6) only[ruW,putL,Nat.reduceLeDiff,xF,ruU,entryE,Nat.reduceLT,Nat.reduceAdd,Nat.reduceMul,Nat.reduceEqDiff]
 refine hi.to ?_
 have hd:decide ((0:Int)≤ixV r)=!r.isNone:=by
  cases r with
  |none=>rfl
  |some n=>exact decide_eq_true (Int.natCast_nonneg n)
 simp (maxDischargeDepth:=6) only[hd,Tryd.results42,ruW,putL,Nat.reduceLeDiff,xF,ruU,entryE,Nat.reduceLT,Nat.reduceAdd,Nat.reduceMul,Nat.reduceEqDiff]
 exact Fin.pure rfl
def widG (g:List (List Ce)):Nat:=(g.getD 0 []).length
def chkR (g:List (List Ce)) (r c:Int):Int :=
 cond (decide ((g.length:Int)<1)||decide (200<(g.length:Int))) 3
  (cond (decide ((widG g:Int)<1)||decide (1000<(widG g:Int))||(!(decide (0≤r)&&decide (r<(g.length:Int))&&decide (0≤c)&&decide (c<(widG g:Int)))&&!(decide (r=-1)&&decide (c=0)))) 3
   (cond (okGrid (widG g) g) 0 5))
theorem check39_c (H:AHeap) (v:Value) (g:List (List Ce)) (r c:Int) (hg:GridAt H v g) (hw:∀ l∈g,l.length<1000000) (hgl:g.length<1000000) :
  Pure 16 [.agg ⟨[v,.int .i64 r,.int .i64 c]⟩] H (.int .i64 (chkR g r c)):=by
 obtain⟨b,hb⟩:∃ b,H.next=b:=⟨_,rfl⟩
 obtain⟨h,hh⟩:∃ h,g.length=h:=⟨_,rfl⟩
 obtain⟨W,hW⟩:∃ W,widG g=W:=⟨_,rfl⟩
 obtain⟨dh1,k1⟩:∃ d,decide ((h:Int)<1)=d:=⟨_,rfl⟩
 obtain⟨dh2,k2⟩:∃ d,decide ((200:Int)<(h:Int))=d:=⟨_,rfl⟩
 obtain⟨dW1,k3⟩:∃ d,decide ((W:Int)<1)=d:=⟨_,rfl⟩
 obtain⟨dW2,k4⟩:∃ d,decide ((1000:Int)<(W:Int))=d:=⟨_,rfl⟩
 obtain⟨d1,h1⟩:∃ d,decide ((0:Int)≤r)=d:=⟨_,rfl⟩
 obtain⟨d2,h2⟩:∃ d,decide (r<(h:Int))=d:=⟨_,rfl⟩
 obtain⟨d3,h3⟩:∃ d,decide ((0:Int)≤c)=d:=⟨_,rfl⟩
 obtain⟨d4,h4⟩:∃ d,decide (c<(W:Int))=d:=⟨_,rfl⟩
 obtain⟨d5,h5⟩:∃ d,decide (r=-1)=d:=⟨_,rfl⟩
 obtain⟨d6,h6⟩:∃ d,decide (c=0)=d:=⟨_,rfl⟩
 obtain⟨B,hB⟩:∃ B,okGrid W g=B:=⟨_,rfl⟩
 have h5':decide (¬r=-1)=!d5:=by rw[decide_not,h5]
 have h6':decide (¬c=0)=!d6:=by rw[decide_not,h6]
 rw[chkR,hh,hW,k1,k2,k3,k4,h1,h2,h3,h4,h5,h6,hB]
 refine callS_fn mixed Tryd.func16 rfl Tryd.ntmps16 (zA9 rfl) fun wf hsc=>?_
 have hbase:H.base≤b:=hb▸wf.base
 have hg':=hg
 obtain⟨a0,c0,e0⟩:=hg.sl
 have hscv:scb b v=true:=by
  simp only[scbL,scb,scbA,zA5,hb]at hsc
  exact hsc.1.1
 rw[e0,hh]at hscv
 cases dh1 with
 |true =>
  rw[e0,hh]
  simp (maxDischargeDepth:=6) only[hb,hbase,hscv,k1,Tryd.results16,ruW,putL,Nat.reduceLeDiff,xF,ruU,entryE,Nat.reduceLT,Nat.reduceAdd,Nat.reduceMul,Nat.reduceEqDiff]
  exact Fin.pureE rfl rfl
 |false =>
  cases dh2 with
  |true =>
   rw[e0,hh]
   simp (maxDischargeDepth:=6) only[hb,hbase,hscv,k1,k2,Tryd.results16,ruW,putL,Nat.reduceLeDiff,xF,ruU,entryE,Nat.reduceLT,Nat.reduceAdd,Nat.reduceMul,Nat.reduceEqDiff]
   exact Fin.pureE rfl rfl
  |false =>
   have hpos:0<g.length:=by have:=of_decide_eq_false k1; omega
   rcases hg with⟨h',_⟩|⟨_,n1,o1,s1,x1,t1,p1,L1,rfl,b1,n1l,le1,tk1⟩
   ·rw[h']at hpos; simp at hpos
   obtain⟨r0,hr0⟩:∃ q,g[0]?=some q:=⟨_,zA6 hpos⟩
   obtain⟨u0,hu0,ra0⟩:=tk1 0 r0 hr0
   obtain⟨a0',k0,e0'⟩:=ra0.sl
   have hl0:r0.length=W:=by rw[←hW,widG,zC9,hr0]; rfl
   rw[hl0]at e0'
   rw[e0']at hu0
   have i1:=grid_ia (n:=n1) (off:=o1) (s:=s1) (cap:=x1) (i:=((0:Nat):Int)) rfl hpos
   rw[show ((0:Nat):Int)=0 from rfl]at i1
   have q1:=grid_load (e:=t1) (o:=p1) hu0
   rw[zD8]at q1 i1
   rw[hh]at i1 hg' ⊢
   have hlt:=n1l
   rw[hb]at hlt
   have hB1:∀ A:Bl,bk (ext H [A,⟨3,false,[.int .i64 (W:Int)]⟩]) (b+1)=some ⟨3,false,[.int .i64 (W:Int)]⟩:=fun A=>by rw[bk_at hb (by simp)]; rfl
   have hct:=contains39_c (ext H [⟨24,false,[.slice (some ⟨n1,o1,s1⟩) h x1,.int .i64 r,.int .i64 c]⟩,⟨3,false,[.int .i64 (W:Int)]⟩]) _ g W (b+1) hg'.ext hw hgl (hB1 _)
   rw[hB]at hct
   have hs:(d1=true∧d2=true∧d3=true∧d4=true)∨d1=false∨(d1=true∧d2=false)∨(d1=true∧d2=true∧d3=false)∨(d1=true∧d2=true∧d3=true∧d4=false):=by
    cases d1<;>cases d2<;>cases d3<;>cases d4<;>simp
   have hws:dW1=true∨(dW1=false∧dW2=true)∨(dW1=false∧dW2=false):=by cases dW1<;>cases dW2<;>simp
   have hns:d5=false∨(d5=true∧d6=false)∨(d5=true∧d6=true):=by cases d5<;>cases d6<;>simp
   rcases hws with rfl|⟨rfl,rfl⟩|⟨rfl,rfl⟩
   ·rcases hs with⟨rfl,rfl,rfl,rfl⟩|rfl|⟨rfl,rfl⟩|⟨rfl,rfl,rfl⟩|⟨rfl,rfl,rfl,rfl⟩
    all_goals (simp (maxDischargeDepth:=6) only[hb,hbase,hlt,b1,i1,q1,qk_old,k1,k2,k3,k4,h1,h2,h3,h4,Tryd.results16,ruW,putL,Nat.reduceLeDiff,xF,ruU,entryE,Nat.reduceLT,Nat.reduceAdd,Nat.reduceMul,Nat.reduceEqDiff]; exact Fin.pureE rfl rfl)
   ·rcases hs with⟨rfl,rfl,rfl,rfl⟩|rfl|⟨rfl,rfl⟩|⟨rfl,rfl,rfl⟩|⟨rfl,rfl,rfl,rfl⟩
    all_goals (simp (maxDischargeDepth:=6) only[hb,hbase,hlt,b1,i1,q1,qk_old,k1,k2,k3,k4,h1,h2,h3,h4,Tryd.results16,ruW,putL,Nat.reduceLeDiff,xF,ruU,entryE,Nat.reduceLT,Nat.reduceAdd,Nat.reduceMul,Nat.reduceEqDiff]; exact Fin.pureE rfl rfl)
   ·rcases hs with⟨rfl,rfl,rfl,rfl⟩|hs
    ·simp (maxDischargeDepth:=6) only[hb,hbase,hlt,b1,i1,q1,qk_old,k1,k2,k3,k4,h1,h2,h3,h4,h5',h6',zD3,zE1,ruW,putL,Nat.reduceLeDiff,xF,ruU,entryE,Nat.reduceLT,Nat.reduceAdd,Nat.reduceMul,Nat.reduceEqDiff]
     refine hct.to ?_
     cases B with
     |true=>simp (maxDischargeDepth:=6) only[zD3,Tryd.results16,ruW,putL,Nat.reduceLeDiff,xF,ruU,entryE,Nat.reduceLT,Nat.reduceAdd,Nat.reduceMul,Nat.reduceEqDiff]; exact Fin.pureE rfl rfl
     |false=>simp (maxDischargeDepth:=6) only[zE1,Tryd.results16,ruW,putL,Nat.reduceLeDiff,xF,ruU,entryE,Nat.reduceLT,Nat.reduceAdd,Nat.reduceMul,Nat.reduceEqDiff]; exact Fin.pureE rfl rfl
    rcases hs with rfl|⟨rfl,rfl⟩|⟨rfl,rfl,rfl⟩|⟨rfl,rfl,rfl,rfl⟩
    all_goals rcases hns with rfl|⟨rfl,rfl⟩|⟨rfl,rfl⟩
    all_goals simp (maxDischargeDepth:=6) only[hb,hbase,hlt,b1,i1,q1,qk_old,k1,k2,k3,k4,h1,h2,h3,h4,h5',h6',zD3,zE1,Tryd.results16,ruW,putL,Nat.reduceLeDiff,xF,ruU,entryE,Nat.reduceLT,Nat.reduceAdd,Nat.reduceMul,Nat.reduceEqDiff]
    all_goals first
     |exact Fin.pureE rfl rfl
     | (refine hct.to ?_
        cases B with
        |true=>simp (maxDischargeDepth:=6) only[zD3,Tryd.results16,ruW,putL,Nat.reduceLeDiff,xF,ruU,entryE,Nat.reduceLT,Nat.reduceAdd,Nat.reduceMul,Nat.reduceEqDiff]; exact Fin.pureE rfl rfl
        |false=>simp (maxDischargeDepth:=6) only[zE1,Tryd.results16,ruW,putL,Nat.reduceLeDiff,xF,ruU,entryE,Nat.reduceLT,Nat.reduceAdd,Nat.reduceMul,Nat.reduceEqDiff]; exact Fin.pureE rfl rfl)
theorem cloneRow_c (H:AHeap) (v:Value) (l:List Ce) (hr:RowAt H v l) (hne:l≠[]) (hok:H.base≤H.next) (hlen:l.length≤10000) :
  CallA Tryd.prog 67 [v] H (fun out X=>∃ u,out=.ok u∧OwnRow H.next X u l∧Mod [] H X):=by
 obtain⟨b,hb⟩:∃ b,H.next=b:=⟨_,rfl⟩
 have hbase:H.base≤b:=hb▸hok
 have hk:bk (ext H [⟨55,false,[]⟩]) (b+0)=some ⟨55,false,[]⟩:=by rw[bk_at hb (by simp)]; rfl
 obtain⟨u,G,hap,hu,hm,hid⟩:=row_copy (G:=ext H [⟨55,false,[]⟩]) hk (by rw[ext_next,hb]; simp) ((Mod.ext (W:=[]) hok).ok hok) hr.ext hlen
 rcases hr with⟨h,_⟩|⟨_,n,off,s,c,e,o,L,rfl,hbn,hnl,hle,ht⟩
 ·exact absurd h hne
 rw[hb]at hnl
 refine callE_fn mixed Tryd.func67 rfl Tryd.ntmps67 (zA9 rfl) ?_
 simp (maxDischargeDepth:=6) only[hb,hbase,hnl,hap,Tryd.results67,ruW,putL,Nat.reduceLeDiff,xF,ruU,entryE,Nat.reduceLT,Nat.reduceAdd,Nat.reduceMul,Nat.reduceEqDiff]
 refine⟨u,rfl,?_,?_⟩
 ·obtain⟨m,s',c',o',e',h1,h2,h3⟩:=hu
  exact⟨m,s',c',o',e',h1,by omega,h3⟩
 ·exact (Mod.ext (W:=[]) hok).step hm hok (fun m hm=>by simp only[zA8]at hm; exact .inr (by omega))
theorem clone39_c (H:AHeap) (v:Value) (g:List (List Ce)) (r c:Int) (hg:GridAt H v g) (hok:H.base≤H.next) (hs:scb H.next v=true) (hne:∀ l∈g,l≠[]) (hw:∀ l∈g,l.length≤10000) (hgl:g.length≤10000) :
  CallA Tryd.prog 48 [.agg ⟨[v,.int .i64 r,.int .i64 c]⟩] H (fun out X=>∃ u rvs,out=.ok (.agg ⟨[u,.int .i64 r,.int .i64 c]⟩)∧Grow H.next X u rvs g∧Mod [] H X):=by
 obtain⟨b,hb⟩:∃ b,H.next=b:=⟨_,rfl⟩
 have hbase:H.base≤b:=hb▸hok
 obtain⟨a0,c0,e0⟩:=hg.sl
 rw[hb]at hs
 have hs':=hs
 rw[e0]at hs
 refine callE_fn mixed Tryd.func48 rfl Tryd.ntmps48 (zA9 rfl) ?_
 rw[e0]
 simp (maxDischargeDepth:=6) only[hb,hbase,hs,ruW,putL,Nat.reduceLeDiff,xF,ruU,entryE,Nat.reduceLT,Nat.reduceAdd,Nat.reduceMul,Nat.reduceEqDiff]
 rw[←e0]
 refine w_env fun E hE=>?_
 have g1:E 1=.pointer (some ⟨b+0,0,none⟩):=by rw[hE]; simp only[ruU,entryE,Nat.reduceLT,Nat.reduceAdd,Nat.reduceMul,Nat.reduceEqDiff]
 have g2:E 2=.pointer (some ⟨b+1,0,none⟩):=by rw[hE]; simp only[ruU,entryE,Nat.reduceLT,Nat.reduceAdd,Nat.reduceMul,Nat.reduceEqDiff]
 have g9:E 9=v:=by rw[hE,e0]; simp only[ruU,entryE,Nat.reduceLT,Nat.reduceAdd,Nat.reduceMul,Nat.reduceEqDiff]
 have g10:E 10=.int .i64 (g.length:Int):=by rw[hE]; simp only[ruU,entryE,Nat.reduceLT,Nat.reduceAdd,Nat.reduceMul,Nat.reduceEqDiff]
 have g11:E 11=.int .i64 ((0:Nat):Int):=by rw[hE]; (simp only[ruU,entryE,Nat.reduceLT,Nat.reduceAdd,Nat.reduceMul,Nat.reduceEqDiff]<;>rfl)
 clear hE
 generalize hX0:ext H _=X0
 have m0:Mod [] H X0:=hX0▸Mod.ext hok
 have n0:X0.next=b+2:=by rw[←hX0,ext_next,hb]; rfl
 have k0:bk X0 (b+0)=some ⟨24,false,[.slice none 0 0,.int .i64 r,.int .i64 c]⟩:=by rw[←hX0,bk_at hb (by simp)]; rfl
 have k1:bk X0 (b+1)=some ⟨24,false,[.slice none 0 0,.int .i64 0,.int .i64 0]⟩:=by rw[←hX0,bk_at hb (by simp)]; rfl
 clear hX0
 refine blockC_meet (fun E' X=>∃ u rvs,Mod [] H X∧b+2≤X.next∧bk X (b+1)=some ⟨24,false,[.slice none 0 0,.int .i64 0,.int .i64 0]⟩∧bk X (b+0)=some ⟨24,false,[u,.int .i64 r,.int .i64 c]⟩∧Grow (b+2) X u rvs g∧E' 1=.pointer (some ⟨b+0,0,none⟩)∧E' 2=.pointer (some ⟨b+1,0,none⟩)) ?_ ?_
 ·refine w_loop (fun (k:Nat × Value × List Value) E' X=>Mod [] H X∧b+2≤X.next∧bk X (b+1)=some ⟨24,false,[.slice none 0 0,.int .i64 0,.int .i64 0]⟩∧bk X (b+0)=some ⟨24,false,[k.2.1,.int .i64 r,.int .i64 c]⟩∧Grow (b+2) X k.2.1 k.2.2 (g.take k.1)∧k.1≤g.length∧E' 1=.pointer (some ⟨b+0,0,none⟩)∧E' 2=.pointer (some ⟨b+1,0,none⟩)∧E' 9=v∧E' 10=.int .i64 (g.length:Int)∧E' 11=.int .i64 (k.1:Int)) (fun k=>g.length-k.1) (0,.slice none 0 0,[])
   ⟨m0,by omega,k1,k0,Grow.nil,zB2 _,g1,g2,g9,g10,g11⟩ ?_
  clear g1 g2 g9 g10 g11 k0 k1 n0 m0
  rintro⟨k,u,rvs⟩ E X ⟨mX,xl,k1,k0,gr,hk,g1,g2,g9,g10,g11⟩
  simp only at k0 k1 gr hk g11
  obtain⟨x,hx⟩:∃ x,X.next=x:=⟨_,rfl⟩
  have okX:=mX.ok hok
  have hxb:X.base≤x:=hx▸okX
  rw[hx]at xl
  have l0:b+0<x:=by omega
  rw[show X=ext X [] from rfl]
  by_cases hkl:k=g.length
  ·have hc:decide ((k:Int)<(g.length:Int))=false:=by simp[hkl]
   simp (maxDischargeDepth:=6) only[g1,g2,g10,g11,hc,ruW,putL,Nat.reduceLeDiff,xF,ruU,entryE,Nat.reduceLT,Nat.reduceAdd,Nat.reduceMul,Nat.reduceEqDiff]
   rw[hkl,zF6]at gr
   exact joinR_normal ⟨u,rvs,mX,by rw[ext_next,hx]; simpa using xl,k1,k0,gr,by simp only[g1,ruU,entryE,Nat.reduceLT,Nat.reduceAdd,Nat.reduceMul,Nat.reduceEqDiff],by simp only[g2,ruU,entryE,Nat.reduceLT,Nat.reduceAdd,Nat.reduceMul,Nat.reduceEqDiff]⟩
  ·have hlt:k<g.length:=by omega
   have hc:decide ((k:Int)<(g.length:Int))=true:=decide_eq_true (by omega)
   obtain⟨w1,hr1⟩:∃ r,g[k]?=some r:=⟨_,zA6 hlt⟩
   rcases hg with⟨h,_⟩|⟨_,n1,o1,s1,x1,t1,p1,L1,ev,b1,n1l,le1,tk1⟩
   ·rw[h]at hlt; simp at hlt
   subst ev
   obtain⟨u1,hu1,ra1⟩:=tk1 k w1 hr1
   have hw1:w1≠[]:=hne w1 (zC1 hr1)
   have i1:=grid_ia (n:=n1) (off:=o1) (s:=s1) (cap:=x1) (i:=(k:Int)) rfl hlt
   have q1:=grid_load (e:=t1) (o:=p1) hu1
   have b1X:rk X n1=some ⟨t1,p1,L1⟩:=(rk_get (mX.get n1 n1l (by simp))).trans b1
   have raX:RowAt X u1 w1:=ra1.of mX.next fun m hm=>mX.get m (ra1.ne hw1 m hm).2 (by simp)
   have n1x:n1<x:=by have:=mX.next; omega
   obtain⟨au,eu⟩:=gr.at_.len
   simp (maxDischargeDepth:=6) only[g1,g2,g9,g10,g11,hx,n1x,i1,b1X,q1,qk_old,hc,ruW,putL,Nat.reduceLeDiff,xF,ruU,entryE,Nat.reduceLT,Nat.reduceAdd,Nat.reduceMul,Nat.reduceEqDiff]
   refine w_drawB [(4,3),(5,1),(5,3),(5,4),(7,1),(7,3),(7,4),(7,5)] [] (by kernel_rfl) (by kernel_rfl) rfl fun ops anc hA hG=>?_
   simp only[all2_cons]at hA
   simp (maxDischargeDepth:=6) only[g1,g2,g9,g10,g11,hx,hxb,l0,k0,hA,ruD,ruW,putL,Nat.reduceLeDiff,xF,ruU,entryE,Nat.reduceLT,Nat.reduceAdd,Nat.reduceMul,Nat.reduceEqDiff]
   have hFu:∀ n∈idsV u1,X.get n≠none∧n<X.next:=raX.ne hw1
   have hrn:=restrict_next X (idsV u1)
   have ra2:RowAt (X.restrict (idsV u1)) u1 w1:=raX.of (by rw[hrn.1]; exact zA4 _) fun n hn=>by rw[restrict_get,if_pos hn]
   obtain⟨_,gg,hcc,rv,rfl,hrv,mg⟩:=cloneRow_c (X.restrict (idsV u1)) u1 w1 ra2 hw1 (by rw[hrn.1,hrn.2.1]; exact zA4 _) (hw w1 (zC1 hr1))
   rw[hrn.1]at hrv
   refine genV_mod (H:=ext X []) (W:=[]) (idsV u1) okX (by simp only[ruU,entryE,Nat.reduceLT,Nat.reduceAdd,Nat.reduceMul,Nat.reduceEqDiff]) (by kernel_rfl) (fun n hn=>(hFu n hn).1) (fun n hn=>(hFu n hn).2) (fun _ h=>by simp at h) (v:=rv) (g:=gg) (by simp only[ruU,entryE,Nat.reduceLT,Nat.reduceAdd,Nat.reduceMul,Nat.reduceEqDiff]; exact hcc) mg (by simp[all2_cons,all2_nil]) ?_
   intro Z D mZ hFZ hNZ hnZ hDZ
   have hD0:D=[]:=List.eq_nil_iff_forall_not_mem.2 (fun q hq=>by simpa using hDZ q hq)
   subst hD0
   replace mZ:Mod [] X Z:=mZ
   replace hNZ:∀ m,X.next≤m→m<gg.next→Z.get m=gg.get m:=hNZ
   have okZ:=mZ.ok okX
   have hZx:=mZ.next
   have hrvZ:OwnRow x Z rv w1:=by
    obtain⟨n,s,cc,o,e,h1,h2,h3⟩:=hrv
    exact⟨n,s,cc,o,e,(bk_get (hNZ n h2 h3)).trans h1,by omega,by rw[hnZ]; exact h3⟩
   have hidr:∀ n∈idsV rv,x≤n∧n<Z.next∧Z.get n≠none:=hrvZ.rng
   obtain⟨nr,sr,cr,orr,rfl,hb3,hlo3,hlt3⟩:=id hrvZ
   obtain⟨z,hz⟩:∃ z,Z.next=z:=⟨_,rfl⟩
   have hzb:Z.base≤z:=hz▸okZ
   have hlt3':=hlt3
   rw[hz]at hlt3'
   rw[show Z=ext Z [] from rfl]
   simp (maxDischargeDepth:=6) only[g1,g2,g9,g10,g11,hz,hzb,hlt3',hA,ruD,ruW,putL,Nat.reduceLeDiff,xF,ruU,entryE,Nat.reduceLT,Nat.reduceAdd,Nat.reduceMul,Nat.reduceEqDiff]
   obtain⟨rvV,hrvV⟩:∃ q,q=Value.slice (some ⟨nr,0,spOf sr⟩) w1.length (w1.length+cr):=⟨_,rfl⟩
   have hone1:one rvV=true:=by rw[hrvV]; rfl
   rw[←hrvV]at hrvZ hidr ⊢
   rw[wd_app (by simp only[ruU,entryE,Nat.reduceLT,Nat.reduceAdd,Nat.reduceMul,Nat.reduceEqDiff])]
   generalize hY2:ext Z _=Y2
   have mY2:Mod [] Z Y2:=hY2▸Mod.ext okZ
   have hY2n:Y2.next=z+1:=by rw[←hY2,ext_next,hz]; rfl
   have hk2:bk Y2 (z+0)=some ⟨56,false,[rvV]⟩:=by rw[←hY2,bk_at hz (by simp)]; rfl
   have okY2:=mY2.ok okZ
   have mXY2:Mod [] X Y2:=mZ.trans mY2
   have hF2:∀ n∈(z+0)::idsV u,Y2.get n≠none∧n<Y2.next:=fun n hn=>by
    rcases zB1.1 hn with rfl|hn
    ·exact⟨bk_ne hk2,by omega⟩
    ·have:=gr.at_.ne n hn
     exact⟨by rw[mXY2.get n this.2 (by simp)]; exact this.1,zD2 this.2 mXY2.next⟩
   have hrn2:=restrict_next Y2 ((z+0)::idsV u)
   have hgtk:(g.take k).length=k:=by rw[zD9]; omega
   have vsY:=gr.at_.of (G:=Y2.restrict ((z+0)::idsV u)) (by rw[hrn2.1]; exact mXY2.next) (fun n hn=>by rw[restrict_get,if_pos (by simp[hn]),mXY2.get n (gr.at_.ne n hn).2 (by simp)])
   have hrvY2:OwnRow (b+2) Y2 rvV w1:=by
    obtain⟨n,s,c',o,e,h1,h2,h3⟩:=hrvZ.of mY2.next (fun n hn=>mY2.get n (hidr n hn).2.1 (by simp))
    exact⟨n,s,c',o,e,h1,by omega,h3⟩
   have hscr:scbL Y2.next (rvs++[rvV])=true:=scbL_append (scbL_mono mXY2.next _ gr.sc) (by rw[hrvV]; simp only[scbL,scb,Bool.and_true]; exact blt_of (by omega))
   obtain⟨G2,hap2,hvs2,hmd2,hgn2,_⟩:=vs_app (P:=Tryd.prog) (H:=Y2.restrict ((z+0)::idsV u)) (st:=22) (xt:=22) (e:=56) (sz:=1) (by1:=24) (z:=.slice none 0 0) (n:=z+0) (off:=0) (cnt2:=1) (cap:=1) (s:=some 0) (x:=Y2.next) (ws:=[rvV]) (b:=⟨56,false,[rvV]⟩)
    (by kernel_rfl) (by kernel_rfl) (by kernel_rfl) (by kernel_rfl) rfl (by kernel_rfl) vsY (rk_of ((bk_get (by rw[restrict_get,if_pos (by simp)])).trans hk2)) (by simp) rfl (by simp[hone1]) (by decide) (by simp only[small,zA5,Nat.ble_eq]; omega) hrn2.1 (by rw[hrn2.1]; exact hscr)
   refine genV_modO (H:=Y2) (W:=idsV u) ((z+0)::idsV u) okY2 (fun n hn=>(hF2 n hn).1) (fun n hn=>(hF2 n hn).2) (fun n hn=>by simp[hn]) (app_op (v:=_) (G:=G2) (by simp only[ruU,entryE,Nat.reduceLT,Nat.reduceAdd,Nat.reduceMul,Nat.reduceEqDiff]) (by simp only[ruU,entryE,Nat.reduceLT,Nat.reduceAdd,Nat.reduceMul,Nat.reduceEqDiff]; exact hap2)) (hmd2 (by rw[hrn2.1,hrn2.2.1]; exact zA4 _)) (by simp only[all2_cons,all2_nil,hA,true_or,and_true]) ?_
   intro Z3 D3 mZ3 hFZ3 hNZ3 hnZ3 hDZ3
   rw[hgn2]at hnZ3 hNZ3
   have hb4:bk Z3 Y2.next=some ⟨56,true,rvs++[rvV]⟩:=by
    obtain⟨_,_,⟨h0,_⟩|⟨_,n,e,hbn,_⟩⟩:=hvs2
    ·omega
    ·cases e
     exact (bk_get (hNZ3 _ (zA4 _) (by omega))).trans hbn
   have gr3:=gr.push mXY2 (by omega) hrvY2 (fun n hn=>by rw[hx]; exact (hidr n hn).1) hone1 mZ3 hb4 (by omega)
   have nbu:∀ j,j<b+2→j∉idsV u:=fun j hj h=>by have:=(gr.apart j h).1; omega
   have keep:∀ j,j<b+2→bk Z3 j=bk X j:=fun j hj=>(mZ3.bk (by omega) (nbu j hj)).trans (mXY2.bk (by omega) (by simp))
   have k0':=(keep (b+0) (by omega)).trans k0
   have k1':=(keep (b+1) (by omega)).trans k1
   obtain⟨z3,hz3⟩:∃ z3,Z3.next=z3:=⟨_,rfl⟩
   have l3:b+0<z3:=by omega
   have l4:Y2.next<z3:=by omega
   rw[hgtk]at gr3 ⊢
   rw[show Z3=ext Z3 [] from rfl]
   simp (maxDischargeDepth:=6) only[g1,g2,g9,g10,g11,hz3,k0',l3,l4,hA,wrap_succ (show k<1000000 by omega),ruD,ruW,putL,Nat.reduceLeDiff,xF,ruU,entryE,Nat.reduceLT,Nat.reduceAdd,Nat.reduceMul,Nat.reduceEqDiff]
   refine⟨⟨fun _=>.inr (.inl (by omega)),.inr (.inl (by omega)),fun _=>.inr (.inl (by omega))⟩,?_⟩
   generalize hU:uw Z3 (b+0) 0 _=U
   have mU:Mod [b+0] Z3 U:=hU▸Mod.uw (by simp)
   have hU2:bk U (b+0)=some ⟨24,false,[.slice (some ⟨Y2.next,0,none⟩) (k+1) (k+1),.int .i64 r,.int .i64 c]⟩:=by rw[←hU,bk_uw_eq,k0']; rfl
   have mXU:Mod ((b+0)::idsV u) X U:=((mXY2.mono (by simp)).trans (mZ3.mono (fun n hn=>zB3 _ hn))).trans (mU.mono (by simp))
   have hUn:=mU.next
   refine loopC_next ⟨(k+1,.slice (some ⟨Y2.next,0,none⟩) (k+1) (k+1),rvs++[rvV]),by simp only; omega,mX.step mXU hok (fun n hn=>?_),by rw[ext_next]; simp only[zC3]; omega,?_,hU2,?_,by simp only; omega,?_,?_,?_,?_,?_⟩
   ·rcases zB1.1 hn with rfl|hn
    ·exact .inr (by omega)
    ·have:=(gr.apart n hn).1; exact .inr (by omega)
   ·exact (mU.bk (by omega) (by simp)).trans k1'
   ·simp only
    rw[show g.take (k+1)=g.take k++[w1] from by rw[List.take_add_one,hr1]; rfl]
    refine gr3.of mU.next fun n hn hm=>mU.get n hn ?_
    simp only[zA8]
    rintro rfl
    rcases zB5.1 hm with hm|hm
    ·have:=(gr3.apart _ hm).1; omega
    ·have:=(gr3.ids _ hm).1; omega
   ·simp only[g1,ruU,entryE,Nat.reduceLT,Nat.reduceAdd,Nat.reduceMul,Nat.reduceEqDiff]
   ·simp only[g2,ruU,entryE,Nat.reduceLT,Nat.reduceAdd,Nat.reduceMul,Nat.reduceEqDiff]
   ·simp only[g9,ruU,entryE,Nat.reduceLT,Nat.reduceAdd,Nat.reduceMul,Nat.reduceEqDiff]
   ·simp only[g10,ruU,entryE,Nat.reduceLT,Nat.reduceAdd,Nat.reduceMul,Nat.reduceEqDiff]
   ·simp only[ruU,entryE,Nat.reduceLT,Nat.reduceAdd,Nat.reduceMul,Nat.reduceEqDiff]
 ·clear g1 g2 g9 g10 g11 k0 k1 n0 m0
  rintro E X ⟨u,rvs,mX,xl,k1,k0,gr,g1,g2⟩
  obtain⟨au,eu⟩:=gr.at_.len
  obtain⟨x,hx⟩:∃ x,X.next=x:=⟨_,rfl⟩
  rw[hx]at xl
  have l1:b+1<x:=by omega
  have l0:b+0<x:=by omega
  have hsu:scb x (.slice au g.length g.length)=true:=by
   rw[←eu]
   obtain⟨_,_,⟨_,rfl⟩|⟨_,n,rfl,_,h⟩⟩:=gr.at_
   ·rfl
   ·exact blt_of (by rw[←hx]; exact h)
  rw[eu]at k0
  rw[show X=ext X [] from rfl]
  simp (maxDischargeDepth:=6) only[g1,g2,hx,k0,k1,l0,l1,hsu,Tryd.results48,ruW,putL,Nat.reduceLeDiff,xF,ruU,entryE,Nat.reduceLT,Nat.reduceAdd,Nat.reduceMul,Nat.reduceEqDiff]
  generalize hU:uw X (b+1) 0 _=U
  have mU:Mod [b+1] X U:=hU▸Mod.uw (by simp)
  refine⟨u,rvs,by rw[eu],?_,mX.step mU hok (fun n hn=>by simp only[zA8]at hn; exact .inr (by omega))⟩
  have gU:=gr.of (Y:=U) mU.next fun n hn hm=>mU.get n hn (by
   simp only[zA8]
   rintro rfl
   rcases zB5.1 hm with hm|hm
   ·have:=(gr.apart _ hm).1; omega
   ·have:=(gr.ids _ hm).1; omega)
  exact⟨gU.at_,fun i rv l h1 h2=>by
   obtain⟨n,s,c',o,e,h3,h4,h5⟩:=gU.row i rv l h1 h2
   exact⟨n,s,c',o,e,h3,by omega,h5⟩,gU.nd,fun n hn=>⟨by have:=(gU.apart n hn).1; omega,(gU.apart n hn).2⟩,gU.sc⟩
def GridSc (H:AHeap) (v:Value):Prop:=∀ n off s len c b,v=.slice (some ⟨n,off,s⟩) len c→rk H n=some b→scbL H.next b.l=true
theorem GridAt.foot {H:AHeap} {v:Value} {g:List (List Ce)} (h:GridAt H v g) (hne:g≠[]):∃ F:List Nat,(∀ n∈F,H.get n≠none∧n<H.next)∧∀ G:AHeap,H.next≤G.next→(∀ n∈F,G.get n=H.get n)→GridAt G v g∧(GridSc H v→GridSc G v):=by
 rcases h with⟨h,_⟩|⟨_,n,off,s,c,e,o,L,rfl,hb,hlt,hle,ht⟩
 ·exact absurd h hne
 refine⟨n::(List.range g.length).flatMap fun k=>rowF (g.getD k []) (L.getD (off+k) (.slice none 0 0)),fun m hm=>?_,fun G hn hg=>⟨.inr ⟨hne,n,off,s,c,e,o,L,rfl,(rk_get (hg n (by simp))).trans hb,by omega,hle,fun k row hk=>?_⟩,fun hs n' off' s' len' c' b' e' hb'=>?_⟩⟩
 ·rcases zB1.1 hm with rfl|hm
  ·exact⟨rk_ne hb,hlt⟩
  ·obtain⟨k,hk,hm⟩:=zC6.1 hm
   have hk:=zF3.1 hk
   obtain⟨row,hrow⟩:∃ row,g[k]?=some row:=⟨_,zA6 hk⟩
   obtain⟨rv,hrv,hr⟩:=ht k row hrow
   rw[zC9,hrow,zC9,hrv]at hm
   simp only[Option.getD_some]at hm
   unfold rowF at hm
   split at hm
   ·cases hm
   ·rename_i hl; exact hr.ne hl m hm
 ·obtain⟨rv,hrv,hr⟩:=ht k row hk
  refine⟨rv,hrv,hr.ofF hn fun m hm=>hg m (zB3 _ (zC6.2 ⟨k,zF3.2 (zD4.1 hk).1,?_⟩))⟩
  rw[zC9,hk,zC9,hrv]
  exact hm
 ·cases e'
  rw[rk_get (hg n (by simp))]at hb'
  exact scbL_mono hn _ (hs n off s _ _ b' rfl hb')
theorem OpsAt.mod0 {H G:AHeap} {v:Value} {l:List Op} (h:OpsAt H v l) (m:Mod [] H G):OpsAt G v l:=by
 rcases h with⟨rfl,a,c,rfl⟩|⟨hl,n,off,s,c,e,o,L,rfl,hb,hlt,hle,ht⟩
 ·exact .inl ⟨rfl,a,c,rfl⟩
 ·exact .inr ⟨hl,n,off,s,c,e,o,L,rfl,(rk_get (m.get n hlt (by simp))).trans hb,m.lt hlt,hle,ht⟩
theorem OpsAt.old {H:AHeap} {v:Value} {l:List Op} (h:OpsAt H v l) (hl:l≠[]):∀ n∈idsV v,n<H.next:=by
 rcases h with⟨rfl,_⟩|⟨_,n,off,s,c,e,o,L,rfl,hb,hlt,_⟩
 ·exact absurd rfl hl
 ·intro m hm; simp only[idsV,zA8]at hm; omega
def St.start (g:List (List Ce)) (r c:Int):St:=⟨g,r,c,⟨0,0,false,false,false⟩,max r 0,c,decide (0≤r)⟩
def St.atR (y:St):Int:=if y.shown=true then y.row else -1
def St.atC (W:Nat) (y:St):Int:=if y.shown=true then min y.col ((W:Int)-1) else 0
theorem chk_ok {g:List (List Ce)} {r c:Int} (h:chkR g r c=0):(St.start g r c).Ok (widG g)∧(∀ l∈g,l≠[])∧g≠[]:=by
 unfold chkR at h
 cases h1:(decide ((g.length:Int)<1)||decide (200<(g.length:Int))) with
 |true=>rw[h1,cond_true]at h; omega
 |false =>
  rw[h1,cond_false]at h
  simp only[Bool.or_eq_false_iff,decide_eq_false_iff_not]at h1
  obtain⟨W,hW⟩:∃ W,widG g=W:=⟨_,rfl⟩
  rw[hW]at h ⊢
  cases h2:(decide ((W:Int)<1)||decide (1000<(W:Int))||(!(decide (0≤r)&&decide (r<(g.length:Int))&&decide (0≤c)&&decide (c<(W:Int)))&&!(decide (r=-1)&&decide (c=0)))) with
  |true=>rw[h2,cond_true]at h; omega
  |false =>
   rw[h2,cond_false]at h
   cases h3:okGrid W g with
   |false=>rw[h3,cond_false]at h; omega
   |true =>
    have hw:∀ l∈g,l.length=W:=fun l hl=>by
     have:=zC0.1 h3 l hl
     unfold okRow at this
     simp only[zA5,decide_eq_true_eq]at this
     exact this.1
    simp only[Bool.or_eq_false_iff,decide_eq_false_iff_not]at h2
    obtain⟨⟨w1,w2⟩,hp⟩:=h2
    have hpos:(0≤r∧r<(g.length:Int)∧0≤c∧c<(W:Int))∨(r=-1∧c=0):=by
     by_cases q:(r=-1∧c=0)
     ·exact .inr q
     ·left
      have:(decide (r=-1)&&decide (c=0))=false:=by
       by_cases q1:r=-1<;>by_cases q2:c=0<;>simp_all
      rw[this]at hp
      simp only[zE1,Bool.and_true,Bool.not_eq_false',zA5,decide_eq_true_eq]at hp
      exact⟨hp.1.1.1,hp.1.1.2,hp.1.2,hp.2⟩
    refine⟨⟨by show 1≤g.length; omega,by show g.length≤200; omega,by omega,by omega,hw,by show 0≤max r 0; omega,by show max r 0<g.length; omega,by show 0≤c; omega,by show c≤W; omega⟩,fun l hl e=>?_,fun e=>?_⟩
    ·have:=hw l hl; rw[e]at this; simp at this; omega
    ·rw[e]at h1; simp at h1
theorem all_ok {W:Nat} {r:List UInt8→Option (List Int)}:∀ (l:List Op) (i:Nat) (x y:St),x.Ok W→St.all W r l i x=.inl y→y.Ok W
 |[],_,x,y,ok,h=>by rw[St.all]at h; cases h; exact ok
 |o::l,i,x,y,ok,h=>by
  rw[St.all]at h
  cases hd:x.does W r o with
  |none=>rw[hd]at h; cases h
  |some z=>rw[hd]at h; exact all_ok l (i+1) z y (does_ok ok hd) h
def AppR (H:AHeap) (g:List (List Ce)) (r c:Int) (l:List Op) (out:Out) (X:AHeap):Prop :=
 Mod [] H X∧if chkR g r c=0 then (match St.all (widG g) ptsR l 0 (St.start g r c) with
  |.inr i=>out=.ok (.tuple #[.agg #[.slice none 0 0,.int .i64 0,.int .i64 0],.int .i64 5,.int .i64 (i:Int)])
  |.inl y=>∃ u rvs N,out=.ok (.tuple #[.agg #[u,.int .i64 y.atR,.int .i64 (y.atC (widG g))],.int .i64 0,.int .i64 0])∧H.next≤N∧OwnG N X u rvs y.grid)
 else out=.ok (.tuple #[.agg #[.slice none 0 0,.int .i64 0,.int .i64 0],.int .i64 (chkR g r c),.int .i64 0])
theorem apply_c (H:AHeap) (v ov:Value) (g:List (List Ce)) (r c:Int) (l:List Op) (hg:GridAt H v g) (hl:OpsAt H ov l) (t:Tab H) (h2:2≤H.next) (hok:H.base≤H.next) (hs:scb H.next v=true) (hw:∀ l∈g,l.length≤10000) (hgl:g.length≤10000)
  (hlen:∀ o∈l,o.text.data.toList.length≤1000) (hll:l.length≤10000) :
  CallA Tryd.prog 22 [.agg ⟨[v,.int .i64 r,.int .i64 c]⟩,ov] H (AppR H g r c l):=by
 obtain⟨b,hb⟩:∃ b,H.next=b:=⟨_,rfl⟩
 have hbb:H.base≤b:=hb▸hok
 obtain⟨a0,c0,e0⟩:=hg.sl
 rw[hb]at hs
 have hs':=hs
 rw[e0]at hs
 obtain⟨k,hk⟩:∃ k,chkR g r c=k:=⟨_,rfl⟩
 refine callE_fn mixed Tryd.func22 rfl Tryd.ntmps22 (zA9 rfl) ?_
 rw[e0]
 simp (maxDischargeDepth:=6) only[hb,hbb,hs,ruW,putL,Nat.reduceLeDiff,xF,ruU,entryE,Nat.reduceLT,Nat.reduceAdd,Nat.reduceMul,Nat.reduceEqDiff]
 rw[←e0]
 obtain⟨X,hX⟩:∃ X,ext H [⟨24,false,[v,.int .i64 r,.int .i64 c]⟩,⟨24,false,[.slice none 0 0,.int .i64 0,.int .i64 0]⟩]=X:=⟨_,rfl⟩
 have mX:Mod [] H X:=hX▸Mod.ext hok
 have nX:X.next=b+2:=by rw[←hX,ext_next,hb]; rfl
 have k0:bk X (b+0)=some ⟨24,false,[v,.int .i64 r,.int .i64 c]⟩:=by rw[←hX,bk_at hb (by simp)]; rfl
 have k1:bk X (b+1)=some ⟨24,false,[.slice none 0 0,.int .i64 0,.int .i64 0]⟩:=by rw[←hX,bk_at hb (by simp)]; rfl
 have okX:=mX.ok hok
 have gX:GridAt X v g:=hX▸hg.ext
 rw[hX]
 have hck:=check39_c X v g r c gX (fun l hl=>by have:=hw l hl; omega) (by omega)
 rw[hk]at hck
 rw[show X=ext X [] from rfl]
 refine hck.to ?_
 rw[show X=ext X [] from rfl]
 have l0:b+0<b+2:=by omega
 have l1:b+1<b+2:=by omega
 by_cases hk0:k=0
 ·have hd:decide (¬k=0)=false:=by simp[hk0]
  rw[hk0]at hk
  obtain⟨ok,hne,hgne⟩:=chk_ok hk
  obtain⟨W,hW⟩:∃ W,widG g=W:=⟨_,rfl⟩
  rw[hW]at ok
  obtain⟨F,hF,hFG⟩:=gX.foot hgne
  have hrn:=restrict_next X F
  obtain⟨gR,_⟩:=hFG (X.restrict F) (by rw[hrn.1]; exact zA4 _) (fun n hn=>by rw[restrict_get,if_pos hn])
  obtain⟨_,gg,hcc,u,rvs,rfl,gr,mg⟩:=clone39_c (X.restrict F) v g r c gR (by rw[hrn.1,hrn.2.1]; exact zA4 _) (by rw[hrn.1,nX]; exact scb_mono (by omega) _ hs') hne hw hgl
  rw[hrn.1]at gr
  simp (maxDischargeDepth:=6) only[hd,ruW,putL,Nat.reduceLeDiff,xF,ruU,entryE,Nat.reduceLT,Nat.reduceAdd,Nat.reduceMul,Nat.reduceEqDiff]
  refine w_drawB [(10,1),(11,10),(11,1),(12,11),(12,1)] [] (by kernel_rfl) (by kernel_rfl) rfl fun ops anc hA hG=>?_
  simp only[all2_cons]at hA
  simp (maxDischargeDepth:=6) only[nX,k0,l0,hA,ruD,ruW,putL,Nat.reduceLeDiff,xF,ruU,entryE,Nat.reduceLT,Nat.reduceAdd,Nat.reduceMul,Nat.reduceEqDiff]
  refine genV_mod (H:=ext X []) (W:=[]) F okX (by simp only[ruU,entryE,Nat.reduceLT,Nat.reduceAdd,Nat.reduceMul,Nat.reduceEqDiff]) (by kernel_rfl) (fun n hn=>(hF n hn).1) (fun n hn=>(hF n hn).2) (fun _ h=>by simp at h) (v:=.agg ⟨[u,.int .i64 r,.int .i64 c]⟩) (g:=gg) (by simp only[ruU,entryE,Nat.reduceLT,Nat.reduceAdd,Nat.reduceMul,Nat.reduceEqDiff]; exact hcc) mg (by simp only[all2_cons,all2_nil,hA,true_or,and_true]; simp) ?_
  intro Z D mZ hFZ hNZ hnZ hDZ
  have hD0:D=[]:=List.eq_nil_iff_forall_not_mem.2 (fun q hq=>by simpa using hDZ q hq)
  subst hD0
  replace mZ:Mod [] X Z:=mZ
  replace hNZ:∀ m,X.next≤m→m<gg.next→Z.get m=gg.get m:=hNZ
  have grZ:Grow (b+2) Z u rvs g:=by
   have:=gr.of (Y:=Z) (by omega) (fun n hn hm=>hNZ n (by
    rcases zB5.1 hm with hm|hm
    ·exact (gr.apart n hm).1
    ·exact (gr.ids n hm).1) hn)
   rw[nX]at this
   exact this
  obtain⟨au,eu⟩:=grZ.at_.len
  have hsu:=grZ.at_.sc
  have slu:Slc u:=by
   obtain⟨_,_,⟨h0,_⟩|⟨_,n,e,_⟩⟩:=grZ.at_
   ·exact absurd (List.length_eq_zero_iff.1 h0) hgne
   ·exact⟨n,_,e⟩
  have okZ:=mZ.ok okX
  obtain⟨zn,hzn⟩:∃ z,Z.next=z:=⟨_,rfl⟩
  have hzb:Z.base≤zn:=hzn▸okZ
  have hz2:b+2≤zn:=by have:=mZ.next; omega
  have kz0:bk Z (b+0)=_:=(mZ.bk (by omega) (by simp)).trans k0
  have kz1:bk Z (b+1)=_:=(mZ.bk (by omega) (by simp)).trans k1
  have hg2:gg.next=zn:=by omega
  have l0z:b+0<zn:=by omega
  rw[hzn]at hsu
  rw[eu]at hsu
  rw[show Z=ext Z [] from rfl,eu]
  simp (maxDischargeDepth:=6) only[hzn,hzb,kz0,l0z,hg2,hsu,nX,hA,ruD,ruW,putL,Nat.reduceLeDiff,xF,ruU,entryE,Nat.reduceLT,Nat.reduceAdd,Nat.reduceMul,Nat.reduceEqDiff]
  rw[←eu]
  obtain⟨Y1,hY1⟩:∃ Y1,ext Z [⟨76,false,(St.start g r c).cells u⟩]=Y1:=⟨_,rfl⟩
  have mY1:Mod [] Z Y1:=hY1▸Mod.ext okZ
  have nY1:Y1.next=zn+1:=by rw[←hY1,ext_next,hzn]; rfl
  have kp:bk Y1 (zn+0)=some ⟨76,false,(St.start g r c).cells u⟩:=by rw[←hY1,bk_at hzn (by simp)]; rfl
  have mHZ:Mod [] H Z:=mX.trans mZ
  have mHY:Mod [] H Y1:=mHZ.trans mY1
  have aY1:StAt 76 (b+2) Y1 (zn+0) u rvs (St.start g r c):=by
   have own:=grZ.own
   refine⟨kp,own.of mY1.next fun n h1 h2 h3=>mY1.get n h2 (by simp),fun h=>?_,by omega,by omega⟩
   rcases zB5.1 h with h|h
   ·have:=(own.idv _ h).2.1; omega
   ·have:=(own.ids _ h).2.1; omega
  have tY1:Tab Y1:=t.of (mHY.get 0 (by omega) (by simp)) (mHY.get 1 (by omega) (by simp))
  have key:=executed_c (b+2) Y1 (zn+0) W u ov rvs (St.start g r c) l (hl.mod0 mHY) (fun h n hn=>by have:=hl.old h n hn; omega) aY1 slu tY1 (by omega) (by omega) (mY1.ok okZ) ok hlen hll
  simp only[St.start,St.cells]at hY1
  rw[hY1]
  refine key.mono ?_
  rintro out Y ⟨mY,hr⟩
  have keep:∀ n,n<b+2→bk Y n=bk Y1 n:=fun n hn=>by
   obtain⟨Ws,h1,m1⟩:=mY
   exact m1.bk (by omega) fun h=>by have:=(h1 n h).1; omega
  have ky1:=(keep (b+1) (by omega)).trans ((mY1.bk (by omega) (by simp)).trans kz1)
  have mHYf:Mod [] H Y:=mY.mod mHY hok (by omega)
  have okY:=mY.ok (mY1.ok okZ)
  obtain⟨yn,hyn⟩:∃ n,Y.next=n:=⟨_,rfl⟩
  have hyb:Y.base≤yn:=hyn▸okY
  have hzy:zn+1≤yn:=by have:=mY.next; omega
  have l1y:b+1<yn:=by omega
  rw[show Y=ext Y [] from rfl]
  cases hall:St.all W ptsR l 0 (St.start g r c) with
  |inr i =>
   rw[hall]at hr
   obtain rfl:=hr
   have hdi:decide ((0:Int)≤(i:Int))=true:=decide_eq_true (by omega)
   simp (maxDischargeDepth:=6) only[hyn,ky1,l1y,hdi,Tryd.results22,ruW,putL,Nat.reduceLeDiff,xF,ruU,entryE,Nat.reduceLT,Nat.reduceAdd,Nat.reduceMul,Nat.reduceEqDiff]
   have mU:Mod [b+1] Y (uw Y (b+1) 0 [.slice none 0 0,.int .i64 0,.int .i64 0]):=Mod.uw (by simp)
   refine⟨mHYf.step mU hok (fun n hn=>.inr (by simp only[zA8]at hn; omega)),?_⟩
   rw[if_pos hk,hW,hall]
  |inl y =>
   rw[hall]at hr
   obtain⟨rfl,u2,rvs2,sl2,a2⟩:=hr
   have hdi:decide ((0:Int)≤-1)=false:=by decide
   have kpy:=a2.cell
   simp only[St.cells]at kpy
   have lpy:zn+0<yn:=by omega
   have oky:=all_ok l 0 _ y ok hall
   simp (maxDischargeDepth:=6) only[hyn,lpy,kpy,hdi,ruW,putL,Nat.reduceLeDiff,xF,ruU,entryE,Nat.reduceLT,Nat.reduceAdd,Nat.reduceMul,Nat.reduceEqDiff]
   obtain⟨a3,m3⟩:=a2.putU (y:={y with sr:=-1}) okY (off:=1) (vs:=[.int .i64 (-1)]) (L:=[]) rfl rfl
   obtain⟨a4,m4⟩:=a3.putU (y:={y with sr:=-1,sc:=0}) (m3.ok okY) (off:=2) (vs:=[.int .i64 0]) (L:=[]) rfl rfl
   have ok4:=m4.ok (m3.ok okY)
   have m34:Mod [zn+0] Y (ext (uw (uw Y (zn+0) 1 [.int .i64 (-1)]) (zn+0) 2 [.int .i64 0]) []):=m3.trans m4
   generalize hY4:ext (uw (uw Y (zn+0) 1 [.int .i64 (-1)]) (zn+0) 2 [.int .i64 0]) []=Y4 at a4 ok4 m34 ⊢
   replace a4:StAt 76 (b+2) Y4 (zn+0) u2 rvs2 {y with sr:=-1,sc:=0}:=hY4▸a4
   replace ok4:Y4.base≤Y4.next:=hY4▸ok4
   rw[show Y4=ext Y4 [] from rfl]
   refine condC_meet (fun E' Z2=>Mod [zn+0] Y Z2∧E' 4=.pointer (some ⟨b+1,0,none⟩)∧E' 8=.pointer (some ⟨zn+0,0,none⟩)∧StAt 76 (b+2) Z2 (zn+0) u2 rvs2 {y with sr:=y.atR,sc:=y.atC W}) ?_ ?_
   ·have oky4:St.Ok {y with sr:=-1,sc:=0} W:=⟨oky.h1,oky.h2,oky.w1,oky.w2,oky.wid,oky.row0,oky.row1,oky.col0,oky.col1⟩
    obtain⟨m,hml,hmp,⟨_,_,_,hmb⟩,hwd⟩:=dwidth_c a4 oky4
    have hFn:∀ n∈[zn+0,m],(ext Y4 []).get n≠none:=fun n hn=>by
     simp only[zB1,List.not_mem_nil,or_false]at hn
     rcases hn with rfl|rfl
     ·exact bk_ne a4.cell
     ·exact bk_ne hmb
    have n4:Y4.next=yn:=by rw[←hY4,ext_next,uw_next,uw_next,hyn]; rfl
    have k4:=a4.cell
    simp only[St.cells]at k4
    cases hsh:y.shown with
    |false =>
     have e1:y.atR=-1:=by simp[St.atR,hsh]
     have e2:y.atC W=0:=by simp[St.atC,hsh]
     rw[e1,e2]
     simp (maxDischargeDepth:=6) only[ruW,putL,Nat.reduceLeDiff,xF,ruU,entryE,Nat.reduceLT,Nat.reduceAdd,Nat.reduceMul,Nat.reduceEqDiff]
     rw[hsh]at a4
     exact joinR_normal ⟨m34,by simp only[ruU,entryE,Nat.reduceLT,Nat.reduceAdd,Nat.reduceMul,Nat.reduceEqDiff],by simp only[ruU,entryE,Nat.reduceLT,Nat.reduceAdd,Nat.reduceMul,Nat.reduceEqDiff],a4⟩
    |true =>
     have e1:y.atR=y.row:=by simp[St.atR,hsh]
     have e2:y.atC W=min y.col ((W:Int)-1):=by simp[St.atC,hsh]
     have hw1:IntKind.i64.wrap ((W:Int)-1)=(W:Int)-1:=wrap_sm (by have:=oky.w1; omega) (by have:=oky.w2; omega)
     rw[e1,e2]
     simp (maxDischargeDepth:=6) only[ruW,putL,Nat.reduceLeDiff,xF,ruU,entryE,Nat.reduceLT,Nat.reduceAdd,Nat.reduceMul,Nat.reduceEqDiff]
     refine w_drawB [(17,5),(17,9),(17,11),(21,17),(21,5),(21,9),(21,11)] [] (by kernel_rfl) (by kernel_rfl) rfl fun ops anc hA hG=>?_
     simp only[all2_cons]at hA
     simp (maxDischargeDepth:=6) only[n4,lpy,k4,hA,ruD,ruW,putL,Nat.reduceLeDiff,xF,ruU,entryE,Nat.reduceLT,Nat.reduceAdd,Nat.reduceMul,Nat.reduceEqDiff]
     refine genV_quiet (v:=.int .i64 W) [zn+0,m] rfl (by kernel_rfl) (zA9 rfl) hFn (fun G hn hg=>hwd G hn hg) (by simp[Meets]) ?_
     simp (maxDischargeDepth:=6) only[n4,lpy,k4,hw1,hA,ruD,ruW,putL,Nat.reduceLeDiff,xF,ruU,entryE,Nat.reduceLT,Nat.reduceAdd,Nat.reduceMul,Nat.reduceEqDiff]
     obtain⟨a5,m5⟩:=a4.putU (y:={y with sr:=y.row,sc:=0}) ok4 (off:=1) (vs:=[.int .i64 y.row]) (L:=[]) rfl rfl
     obtain⟨a6,m6⟩:=a5.putU (y:={y with sr:=y.row,sc:=min y.col ((W:Int)-1)}) (m5.ok ok4) (off:=2) (vs:=[.int .i64 (min y.col ((W:Int)-1))]) (L:=[]) rfl rfl
     rw[hsh]at a6
     exact joinR_normal ⟨m34.trans (m5.trans m6),by simp only[ruU,entryE,Nat.reduceLT,Nat.reduceAdd,Nat.reduceMul,Nat.reduceEqDiff],by simp only[ruU,entryE,Nat.reduceLT,Nat.reduceAdd,Nat.reduceMul,Nat.reduceEqDiff],a6⟩
   ·rintro E Z2 ⟨m2,e4,e8,a7⟩
    have okZ2:=m2.ok okY
    obtain⟨z2,hz2n⟩:∃ n,Z2.next=n:=⟨_,rfl⟩
    have hyz2:yn≤z2:=by have:=m2.next; omega
    have k7:=a7.cell
    simp only[St.cells]at k7
    have l7:zn+0<z2:=by omega
    have l8:b+1<z2:=by omega
    have k8:=(m2.bk (n:=b+1) (by omega) (by simp only[zA8]; omega)).trans ky1
    obtain⟨nu,hu,eu2⟩:=sl2
    have hnu:nu<z2:=by
     have:=(a7.own.idv nu (by rw[eu2]; simp[idsV])).2.1
     omega
    have hsu2:scb z2 u2=true:=by rw[eu2]; exact blt_of hnu
    rw[show Z2=ext Z2 [] from rfl]
    rw[eu2]at k7 hsu2
    simp (maxDischargeDepth:=6) only[e4,e8,hz2n,l7,l8,k7,k8,hsu2,Tryd.results22,ruW,putL,Nat.reduceLeDiff,xF,ruU,entryE,Nat.reduceLT,Nat.reduceAdd,Nat.reduceMul,Nat.reduceEqDiff]
    rw[←eu2]
    have mU:Mod [b+1] Z2 (uw Z2 (b+1) 0 [u2,.int .i64 y.atR,.int .i64 (y.atC W)]):=Mod.uw (by simp)
    have mHZ2:Mod [] H Z2:=mHYf.step m2 hok (fun n hn=>.inr (by simp only[zA8]at hn; omega))
    refine⟨mHZ2.step mU hok (fun n hn=>.inr (by simp only[zA8]at hn; omega)),?_⟩
    rw[if_pos hk,hW,hall]
    refine⟨u2,rvs2,b+2,rfl,by omega,a7.own.of mU.next fun n h1 h2 h3=>mU.get n h2 (by simp only[zA8]; omega)⟩
 ·have hd:decide (¬k=0)=true:=by simp[hk0]
  simp (maxDischargeDepth:=6) only[hd,nX,k0,k1,l0,l1,Tryd.results22,ruW,putL,Nat.reduceLeDiff,xF,ruU,entryE,Nat.reduceLT,Nat.reduceAdd,Nat.reduceMul,Nat.reduceEqDiff]
  have mU:Mod [b+1] X (uw X (b+1) 0 [.slice none 0 0,.int .i64 0,.int .i64 0]):=Mod.uw (by simp)
  refine⟨mX.step mU hok (fun n hn=>.inr (by simp only[zA8]at hn; omega)),?_⟩
  rw[if_neg (by rw[hk]; exact hk0),hk]
def largeR (g:List (List Ce)):Bool:=(g.take 13).any (fun l=>decide (60<l.length))||decide (12<g.length)
theorem largeR_false {g:List (List Ce)} (h:largeR g=false):g.length≤12∧∀ l∈g,l.length≤60:=by
 rw[largeR,Bool.or_eq_false_iff]at h
 have h2:=of_decide_eq_false h.2
 refine⟨by omega,fun l hl=>?_⟩
 have h1:=h.1
 rw[zF1 (by omega),List.any_eq_false]at h1
 have:=h1 l hl
 simpa using this
theorem large_c (H:AHeap) (v:Value) (g:List (List Ce)) (r c:Int) (hg:GridAt H v g):Pure 10 [.agg ⟨[v,.int .i64 r,.int .i64 c]⟩] H (.bool (largeR g)):=by
 obtain⟨b,hb⟩:∃ b,H.next=b:=⟨_,rfl⟩
 refine callS_fn mixed Tryd.func10 rfl Tryd.ntmps10 (zA9 rfl) fun wf hsc=>?_
 have hbase:H.base≤b:=hb▸wf.base
 have hg':=hg
 obtain⟨a0,c0,e0⟩:=hg.sl
 have hscv:scb b v=true:=by
  simp only[scbL,scb,scbA,zA5,hb]at hsc
  exact hsc.1.1
 obtain⟨B,hB⟩:∃ B,largeR g=B:=⟨_,rfl⟩
 rw[hB]
 obtain⟨X,hX⟩:∃ X,X=ext H [⟨24,false,[v,.int .i64 r,.int .i64 c]⟩]:=⟨_,rfl⟩
 rw[e0]at hscv hX ⊢
 simp (maxDischargeDepth:=6) only[hb,hbase,hscv,ruW,putL,Nat.reduceLeDiff,xF,ruU,entryE,Nat.reduceLT,Nat.reduceAdd,Nat.reduceMul,Nat.reduceEqDiff]
 refine w_env fun E hE=>?_
 have g1:E 1=.pointer (some ⟨b+0,0,none⟩):=by rw[hE]; simp only[ruU,entryE,Nat.reduceLT,Nat.reduceAdd,Nat.reduceMul,Nat.reduceEqDiff]
 have g3:E 3=.int .i64 ((0:Nat):Int):=by rw[hE]; (simp only[ruU,entryE,Nat.reduceLT,Nat.reduceAdd,Nat.reduceMul,Nat.reduceEqDiff]<;>rfl)
 clear hE
 refine blockC_meet (fun E' H'=>H'=X∧E' 1=.pointer (some ⟨b+0,0,none⟩)∧B=decide (12<g.length)) ?_ ?_
 ·refine w_loop (fun (k:Nat) E' H'=>H'=X∧E' 1=.pointer (some ⟨b+0,0,none⟩)∧E' 3=.int .i64 (k:Int)∧k≤g.length∧k≤13∧∀ i l,i<k→g[i]?=some l→l.length≤60) (fun k=>g.length-k) 0
   ⟨hX.symm,g1,g3,zB2 _,by omega,fun i l hi=>by omega⟩ ?_
  clear g1 g3
  rintro k E H' ⟨hH,g1,g3,hk,hk13,hpre⟩
  rw[hH,hX]
  have fin:(∀ i l,i<13→g[i]?=some l→l.length≤60)→B=decide (12<g.length):=fun hall=>by
   rw[←hB,largeR]
   have:(g.take 13).any (fun l=>decide (60<l.length))=false:=by
    rw[List.any_eq_false]
    intro l hl
    obtain⟨i,hi⟩:=List.getElem?_of_mem hl
    have hi13:i<13:=by
     have:=(zD4.1 hi).1
     rw[zD9]at this
     omega
    rw[List.getElem?_take,if_pos hi13]at hi
    have:=hall i l hi13 hi
    simp; omega
   rw[this,Bool.false_or]
  by_cases hkl:k=g.length
  ·have hc:decide ((k:Int)<(g.length:Int))=false:=by simp[hkl]
   simp (maxDischargeDepth:=6) only[g1,g3,hb,hbase,hc,ruW,putL,Nat.reduceLeDiff,xF,ruU,entryE,Nat.reduceLT,Nat.reduceAdd,Nat.reduceMul,Nat.reduceEqDiff]
   refine joinR_normal ⟨rfl,by simp only[g1,ruU,entryE,Nat.reduceLT,Nat.reduceAdd,Nat.reduceMul,Nat.reduceEqDiff],fin fun i l hi hl=>hpre i l (by have:=(zD4.1 hl).1; omega) hl⟩
  ·have hlk:k<g.length:=by omega
   have hc:decide ((k:Int)<(g.length:Int))=true:=decide_eq_true (by omega)
   by_cases hk3:k=13
   ·have hc2:decide ((k:Int)<13)=false:=by simp[hk3]
    simp (maxDischargeDepth:=6) only[g1,g3,hb,hbase,hc,hc2,ruW,putL,Nat.reduceLeDiff,xF,ruU,entryE,Nat.reduceLT,Nat.reduceAdd,Nat.reduceMul,Nat.reduceEqDiff]
    refine joinR_normal ⟨rfl,by simp only[g1,ruU,entryE,Nat.reduceLT,Nat.reduceAdd,Nat.reduceMul,Nat.reduceEqDiff],fin fun i l hi hl=>hpre i l (by omega) hl⟩
   ·have hc2:decide ((k:Int)<13)=true:=decide_eq_true (by omega)
    rcases hg with⟨h',_⟩|⟨_,n1,o1,s1,x1,t1,p1,L1,ev,b1,n1l,le1,tk1⟩
    ·rw[h']at hlk; simp at hlk
    rw[ev]at e0
    cases e0
    obtain⟨w1,hr1⟩:∃ r,g[k]?=some r:=⟨_,zA6 hlk⟩
    obtain⟨u1,hu1,ra1⟩:=tk1 k w1 hr1
    obtain⟨a1,c1,e1⟩:=ra1.sl
    rw[e1]at hu1
    have i1:=grid_ia (n:=n1) (off:=o1) (s:=s1) (cap:=c0) (i:=(k:Int)) rfl hlk
    have q1:=grid_load (e:=t1) (o:=p1) hu1
    rw[hb]at n1l
    obtain⟨d,hd⟩:∃ d,decide ((60:Int)<(w1.length:Int))=d:=⟨_,rfl⟩
    cases d with
    |true =>
     obtain rfl:true=B:=by
      rw[←hB,largeR,List.any_eq_true.2 ⟨w1,?_,?_⟩,Bool.true_or]
      ·refine zC1 (i:=k) ?_
       rw[List.getElem?_take,if_pos (by omega),hr1]
      ·have:=of_decide_eq_true hd
       exact decide_eq_true (by omega)
     simp (maxDischargeDepth:=6) only[g1,g3,hb,hbase,hc,hc2,i1,b1,n1l,q1,qk_old,hd,joinR_ret,Tryd.results10,ruW,putL,Nat.reduceLeDiff,xF,ruU,entryE,Nat.reduceLT,Nat.reduceAdd,Nat.reduceMul,Nat.reduceEqDiff]
     exact Fin.pureE rfl rfl
    |false =>
     simp (maxDischargeDepth:=6) only[g1,g3,hb,hbase,hc,hc2,i1,b1,n1l,q1,qk_old,hd,wrap_succ (show k<1000000 by omega),ruW,putL,Nat.reduceLeDiff,xF,ruU,entryE,Nat.reduceLT,Nat.reduceAdd,Nat.reduceMul,Nat.reduceEqDiff]
     refine loopC_next ⟨k+1,by omega,rfl,?_,?_,by omega,by omega,fun i l hi hl=>?_⟩
     ·simp only[g1,ruU,entryE,Nat.reduceLT,Nat.reduceAdd,Nat.reduceMul,Nat.reduceEqDiff]
     ·simp only[ruU,entryE,Nat.reduceLT,Nat.reduceAdd,Nat.reduceMul,Nat.reduceEqDiff]
     ·rcases zC4 i k with h'|h'
      ·exact hpre i l h' hl
      ·obtain rfl:i=k:=by omega
       rw[hr1]at hl
       cases hl
       have:=of_decide_eq_false hd
       omega
 ·rintro E H' ⟨hH,g1,hBe⟩
  rw[hH,hX]
  have hd:decide ((12:Int)<(g.length:Int))=B:=by rw[hBe]; exact decide_eq_decide.2 (by omega)
  simp (maxDischargeDepth:=6) only[g1,hb,hbase,hd,Tryd.results10,ruW,putL,Nat.reduceLeDiff,xF,ruU,entryE,Nat.reduceLT,Nat.reduceAdd,Nat.reduceMul,Nat.reduceEqDiff]
  exact Fin.pureE rfl rfl
def lenR (l:List UInt8):Int:=match ptsR l with
 |none=>0
 |some r=>r.length
theorem opsOf_len (l:List Op):(opsOf l).length=l.length*10:=flat_len _ _ op_len l
theorem RowAt.mod0 {H G:AHeap} {v:Value} {l:List Ce} (h:RowAt H v l) (m:Mod [] H G):RowAt G v l:=by
 by_cases hl:l=[]
 ·obtain⟨a,c,e⟩:=h.sl
  subst hl
  exact .inl ⟨rfl,a,c,e⟩
 ·exact h.of m.next fun n hn=>m.get n (h.ne hl n hn).2 (by simp)
theorem GridAt.mod0 {H G:AHeap} {v:Value} {g:List (List Ce)} (h:GridAt H v g) (m:Mod [] H G):GridAt G v g:=by
 rcases h with h|⟨hg,n,off,s,c,e,o,L,rfl,hb,hlt,hle,hr⟩
 ·exact .inl h
 ·refine .inr ⟨hg,n,off,s,c,e,o,L,rfl,(rk_get (m.get n hlt (by simp))).trans hb,m.lt hlt,hle,fun k row hk=>?_⟩
  obtain⟨rv,h1,h2⟩:=hr k row hk
  exact⟨rv,h1,h2.mod0 m⟩
theorem ops_one (l:List Op):(opsOf l).all one=true:=by
 induction l with
 |nil=>rfl
 |cons x l ih=>rw[opsOf,zF2,List.all_append,zA5]; exact⟨rfl,ih⟩
theorem ops_sc (N:Nat) (l:List Op):scbL N (opsOf l)=true:=by
 induction l with
 |nil=>rfl
 |cons x l ih=>rw[opsOf,zF2]; exact scbL_append rfl ih
def appV (g:List (List Ce)) (r c:Int) (l:List Op):List (List Ce) × Int × Int × Int × Int :=
 if chkR g r c=0 then (match St.all (widG g) ptsR l 0 (St.start g r c) with
  |.inr i=>([],0,0,5,(i:Int))
  |.inl y=>(y.grid,y.atR,y.atC (widG g),0,0))
 else ([],0,0,chkR g r c,0)
theorem OwnG.none {N:Nat} {X:AHeap}:OwnG N X (.slice none 0 0) [] []:=⟨rfl,.inl ⟨rfl,rfl⟩,fun i rv l h=>by simp at h,by simp⟩
theorem AppR.val {H X:AHeap} {g:List (List Ce)} {r c:Int} {l:List Op} {out:Out} (h:AppR H g r c l out X):Mod [] H X∧∃ u rvs N,out=.ok (.tuple #[.agg #[u,.int .i64 (appV g r c l).2.1,.int .i64 (appV g r c l).2.2.1],.int .i64 (appV g r c l).2.2.2.1,.int .i64 (appV g r c l).2.2.2.2])∧H.next≤N∧OwnG N X u rvs (appV g r c l).1:=by
 obtain⟨m,h⟩:=h
 refine⟨m,?_⟩
 unfold appV
 split at h
 ·rename_i hc
  rw[if_pos hc]
  split at h
  ·rename_i i hi
   try rw[hi]
   exact⟨_,[],H.next,h,zA4 _,OwnG.none⟩
  ·rename_i y hy
   try rw[hy]
   exact h
 ·rename_i hc
  rw[if_neg hc]
  exact⟨_,[],H.next,h,zA4 _,OwnG.none⟩
theorem o_und:Tryd.prog.underlying 28=some (.slice 47):=by kernel_rfl
theorem o_sz:szOf Tryd.prog 47=some 10:=by kernel_rfl
theorem o_by:bytesOf Tryd.prog 47=some 72:=by kernel_rfl
theorem o_zero:zeroOf Tryd.prog 47=some (.agg #[.int .i64 0,.int .i64 0,.int .i64 0,.int .i64 0,.int .i64 0,.int .i64 0,.bool false,.bool false,.bool false,.string ⟨#[]⟩]):=by kernel_rfl
theorem o_int:intTy Tryd.prog 28=some false:=by kernel_rfl
theorem o_small {n:Nat} (h:n≤100000):small n 72=true:=by simp only[small,zA5,Nat.ble_eq]; omega
theorem opsOf_append (l m:List Op):opsOf (l++m)=opsOf l++opsOf m:=by simp[opsOf]
def OpsV (H:AHeap) (m:Nat) (v:Value) (l:List Op):Prop :=
 (l=[]∧v=.slice (some ⟨m,0,some 0⟩) 0 0∧bk H m=some ⟨47,false,[]⟩∧m<H.next)∨(l≠[]∧VsAt H 47 10 v (opsOf l) l.length)
theorem opsV_app {H:AHeap} {m:Nat} {v u:Value} {l l2:List Op} (h:OpsV H m v l) (hp:OpsAt H u l2) (hok:H.base≤H.next) (hl:l.length+l2.length≤100000) :
  ∃ v' G,aBuiltin Tryd.prog H .append ⟨[28,28]⟩ [v,u]=some (v',G)∧OpsV G m v' (l++l2)∧Mod (idsV v) H G∧∀ n∈idsV v',n∈idsV v∨H.next≤n:=by
 by_cases h2:l2=[]
 ·subst h2
  obtain⟨a,c,rfl⟩:=hp.sl
  rw[zC8]
  have hle:Go.Ax.lenV (.slice a ([]:List Op).length c)=some 0:=rfl
  have hfi:firstC H 10 0 (.slice a ([]:List Op).length c)=some []:=by
   cases a with
   |none=>rfl
   |some a=>simp only[firstC,if_true]
  have core:∀ (n k:Nat) (s:Option Nat) (b:Bl),v=.slice (some ⟨n,0,s⟩) k k→s.getD 0=0→bk H n=some b→n<H.next→k*10≤b.l.length→k≤100000→OpsV H m v l →
    ∃ v' G,aBuiltin Tryd.prog H .append ⟨[28,28]⟩ [v,.slice a ([]:List Op).length c]=some (v',G)∧OpsV G m v' l∧Mod (idsV v) H G∧∀ n∈idsV v',n∈idsV v∨H.next≤n:=fun n k s b e hs hb hlt hkb hk hv=>by
   subst e
   have hw:=write_old (H:=H) (L:=[]) (n:=n) (off:=0+k*10) (vs:=[]) hlt hb (by simp only[zC3]; omega) rfl rfl
   have ha:=app_in (P:=Tryd.prog) (H:=H) (st:=28) (xt:=28) (m:=n) (off:=0) (k:=k) (cap:=k) (sp:=s) o_und o_sz o_by o_zero rfl o_int hle hfi rfl (by omega) (o_small (by omega))
   rw[show aWrite H n (0+k*10) []=aWrite (ext H []) n (0+k*10) [] from rfl,hw,zA7]at ha
   refine⟨_,_,ha,?_,Mod.uw (by simp[idsV]),fun q hq=>.inl hq⟩
   have hbu:bk (uw H n (0+k*10) []) n=some b:=by
    rw[bk_uw_eq,hb]
    simp[putB,putL_nl]
   rcases hv with⟨rfl,e,hbm,hm⟩|⟨h0,q1,q2,⟨q3,_⟩|⟨q3,n',e,hbm,hm⟩⟩
   ·simp only[Value.slice.injEq,Option.some.injEq,Addr.mk.injEq,true_and]at e
    obtain⟨⟨rfl,rfl⟩,rfl,_⟩:=e
    rw[hbm]at hb
    cases hb
    exact .inl ⟨rfl,rfl,hbu,by rw[ext_next,uw_next]; simpa using hm⟩
   ·exact absurd (zD0 q3) h0
   ·simp only[Value.slice.injEq,Option.some.injEq,Addr.mk.injEq,true_and]at e
    obtain⟨⟨rfl,rfl⟩,rfl,_⟩:=e
    rw[hbm]at hb
    cases hb
    exact .inr ⟨h0,q1,q2,.inr ⟨q3,n,rfl,hbu,by rw[ext_next,uw_next]; simpa using hm⟩⟩
  rcases id h with⟨rfl,e,hb,hm⟩|⟨h0,h1,h2,⟨h3,_⟩|⟨h3,n,e,hb,hn⟩⟩
  ·exact core m 0 (some 0) _ e rfl hb hm (by simp) (by omega) h
  ·exact absurd (zD0 h3) h0
  ·exact core n l.length none _ e rfl hb hn (by simp only; rw[opsOf_len]; exact zA4 _) (by omega) h
 ·rcases hp with⟨e,_⟩|⟨_,n,off,s,c,e,o,L,rfl,hb,hnl,hle,ht⟩
  ·exact absurd e h2
  have hpos:0<l2.length:=List.length_pos_iff.2 h2
  rcases h with⟨rfl,rfl,hm,hlt⟩|⟨h0,h⟩
  ·have happ:=app_exactP (P:=Tryd.prog) (H:=H) (st:=28) (xt:=28) (e:=47) (sz:=10) (by1:=72) (m:=m) (k:=0) (n:=n) (off:=off) (cnt:=l2.length) (cap:=c) (s:=s) (b:=⟨e,o,L⟩) (bm:=⟨47,false,[]⟩)
    o_und o_sz o_by o_zero rfl o_int hm (by simp) rfl hb hle (by rw[ht]; exact ops_one l2) hpos (o_small (by omega))
   have hn:=new_ext (H:=H) (L:=[]) (e:=47) (l:=opsOf l2) (o:=true) (ops_sc _ _)
   simp only[ht,zE8,List.take_zero,zB8]at happ
   rw[show H=ext H [] from rfl,hn,zA7]at happ
   simp only[zB6]at happ
   refine⟨_,_,happ,.inr ⟨by simpa using h2,by rw[zB8,opsOf_len],by rw[zB8]; exact ops_one l2,.inr ⟨by simpa using hpos,H.next+0,rfl,?_,by rw[ext_next]; simp⟩⟩,Mod.ext hok,fun q hq=>by simp only[idsV,zA8]at hq; exact .inr (by rw[hq]; exact zA4 _)⟩
   rw[zB8,zB8,bk_at rfl (by simp)]; rfl
  ·obtain⟨G,ga,gb,gc,gd,ge⟩:=vs_app (P:=Tryd.prog) (H:=H) (st:=28) (xt:=28) (e:=47) (sz:=10) (by1:=72) (n:=n) (off:=off) (cnt2:=l2.length) (cap:=c) (s:=s) (x:=H.next) (ws:=opsOf l2) (b:=⟨e,o,L⟩)
    o_und o_sz o_by o_zero rfl o_int h hb hle ht (ops_one l2) hpos (o_small (by omega)) rfl (scbL_append (ops_sc _ _) (ops_sc _ _))
   refine⟨_,G,ga,.inr ⟨by simp[h2],?_⟩,gc hok,fun q hq=>.inr (by simp only[idsV,zA8]at hq; omega)⟩
   rw[opsOf_append,zB7]
   exact gb
section
variable {Z : AHeap} {N : Nat} {E : Env} {ds : List Deferred} {ops : Array Oper} {anc : List Nat} {ty : TypeId} {pos : String} {after : Array Edge} {rest : List Oper} {i d m : Nat} {fps : List Fp} {Q : AAct → AHeap → Prop} {v u : Value} {l l2 : List Op}
end
theorem eqCells_c (H:AHeap) (v1 v2:Value) (l1 l2:List Ce) (h1:RowAt H v1 l1) (h2:RowAt H v2 l2) (hl:l1.length<1000000):Pure 38 [v1,v2] H (.bool (decide (l1=l2))):=by
 obtain⟨b,hb⟩:∃ b,H.next=b:=⟨_,rfl⟩
 refine callS_fn mixed Tryd.func38 rfl Tryd.ntmps38 (zA9 rfl) fun wf hsc=>?_
 obtain⟨a1,c1,e1⟩:=h1.sl
 obtain⟨a2,c2,e2⟩:=h2.sl
 by_cases hlen:l1.length=l2.length
 case neg =>
  have hd:decide (¬(l1.length:Int)=(l2.length:Int))=true:=decide_eq_true (by omega)
  rw[e1,e2]
  simp (maxDischargeDepth:=6) only[hd,Tryd.results38,ruW,putL,Nat.reduceLeDiff,xF,ruU,entryE,Nat.reduceLT,Nat.reduceAdd,Nat.reduceMul,Nat.reduceEqDiff]
  rw[decide_eq_false (fun e=>hlen (by rw[e]))]
  exact Fin.pureE rfl rfl
 have hd:decide (¬(l1.length:Int)=(l2.length:Int))=false:=decide_eq_false (by omega)
 rw[e1,e2]
 simp (maxDischargeDepth:=6) only[hd,ruW,putL,Nat.reduceLeDiff,xF,ruU,entryE,Nat.reduceLT,Nat.reduceAdd,Nat.reduceMul,Nat.reduceEqDiff]
 rw[←e1,←e2]
 refine w_env fun E hE=>?_
 have g0:E 0=v1:=by rw[hE]; simp only[ruU,entryE,Nat.reduceLT,Nat.reduceAdd,Nat.reduceMul,Nat.reduceEqDiff]
 have g1:E 1=v2:=by rw[hE]; simp only[ruU,entryE,Nat.reduceLT,Nat.reduceAdd,Nat.reduceMul,Nat.reduceEqDiff]
 have g12:E 12=.int .i64 (l1.length:Int):=by rw[hE]; simp only[ruU,entryE,Nat.reduceLT,Nat.reduceAdd,Nat.reduceMul,Nat.reduceEqDiff]
 have g13:E 13=.int .i64 ((0:Nat):Int):=by rw[hE]; (simp only[ruU,entryE,Nat.reduceLT,Nat.reduceAdd,Nat.reduceMul,Nat.reduceEqDiff]<;>rfl)
 clear hE
 refine blockC_meet (fun E' H'=>H'=ext H []∧l1=l2) ?_ ?_
 ·refine w_loop (fun (k:Nat) E' H'=>H'=ext H []∧E' 0=v1∧E' 1=v2∧E' 12=.int .i64 (l1.length:Int)∧E' 13=.int .i64 (k:Int)∧k≤l1.length∧l1.take k=l2.take k) (fun k=>l1.length-k) 0
   ⟨rfl,g0,g1,g12,g13,zB2 _,rfl⟩ ?_
  clear g0 g1 g12 g13
  rintro k E H' ⟨hH,g0,g1,g12,g13,hk,hpre⟩
  rw[hH]
  by_cases hkl:k=l1.length
  ·have hc:decide ((k:Int)<(l1.length:Int))=false:=by simp[hkl]
   simp (maxDischargeDepth:=6) only[g0,g1,g12,g13,hc,ruW,putL,Nat.reduceLeDiff,xF,ruU,entryE,Nat.reduceLT,Nat.reduceAdd,Nat.reduceMul,Nat.reduceEqDiff]
   refine joinR_normal ⟨rfl,?_⟩
   rw[hkl,zF6,hlen,zF6]at hpre
   exact hpre
  ·have hlt:k<l1.length:=by omega
   have hc:decide ((k:Int)<(l1.length:Int))=true:=decide_eq_true (by omega)
   rcases h1 with⟨h,_⟩|⟨_,n1,o1,s1,c1,t1,p1,L1,rfl,b1,n1l,le1,tk1⟩
   ·rw[h]at hlt; simp at hlt
   rcases h2 with⟨h,_⟩|⟨_,n2,o2,s2,c2,t2,p2,L2,rfl,b2,n2l,le2,tk2⟩
   ·rw[h]at hlen; simp at hlen; simp[hlen]at hlt
   obtain⟨r1,hr1⟩:∃ r,l1[k]?=some r:=⟨_,zA6 hlt⟩
   obtain⟨r2,hr2⟩:∃ r,l2[k]?=some r:=⟨_,zA6 (by omega)⟩
   have i1:=row_ia (n:=n1) (off:=o1) (s:=s1) (cap:=c1) (i:=(k:Int)) rfl hlt
   have i2:=row_ia (n:=n2) (off:=o2) (s:=s2) (cap:=c2) (i:=(k:Int)) (len:=l2.length) rfl (by omega)
   have q1:=row_load (e:=t1) (o:=p1) hr1 le1 tk1
   have q2:=row_load (e:=t2) (o:=p2) hr2 le2 tk2
   rw[hb]at n1l n2l
   simp (maxDischargeDepth:=6) only[g0,g1,g12,g13,hc,ruW,putL,Nat.reduceLeDiff,xF,ruU,entryE,Nat.reduceLT,Nat.reduceAdd,Nat.reduceMul,Nat.reduceEqDiff]
   refine w_drawB [] [] (by kernel_rfl) rfl rfl fun ops anc hA hG=>?_
   simp (maxDischargeDepth:=6) only[g0,g1,g12,g13,hb,i1,i2,b1,b2,n1l,n2l,q1,q2,qk_old,Ce.val,ruD,ruW,putL,Nat.reduceLeDiff,xF,ruU,entryE,Nat.reduceLT,Nat.reduceAdd,Nat.reduceMul,Nat.reduceEqDiff]
   refine wd_eqS (ts:=[3,3,3,4,4,4]) (xs:=r1.cells) (ys:=r2.cells) (r:=!decide (r1=r2)) fl55 ag55 gd55 (by rw[ce_eqL]; rfl) (by simp only[ruU,entryE,Nat.reduceLT,Nat.reduceAdd,Nat.reduceMul,Nat.reduceEqDiff]) (by simp only[ruU,entryE,Nat.reduceLT,Nat.reduceAdd,Nat.reduceMul,Nat.reduceEqDiff]) (by decide) (by simp only[ruU,entryE,Nat.reduceLT,Nat.reduceAdd,Nat.reduceMul,Nat.reduceEqDiff]; rfl) (by simp only[ruU,entryE,Nat.reduceLT,Nat.reduceAdd,Nat.reduceMul,Nat.reduceEqDiff]; rfl) (ce_fits _) (ce_fits _) ?_
   by_cases hr:r1=r2
   ·have hs:decide (r1=r2)=true:=decide_eq_true hr
    simp (maxDischargeDepth:=6) only[g0,g1,g12,g13,hs,zD3,wrap_succ (show k<1000000 by omega),ruD,ruW,putL,Nat.reduceLeDiff,xF,ruU,entryE,Nat.reduceLT,Nat.reduceAdd,Nat.reduceMul,Nat.reduceEqDiff]
    refine loopC_next ⟨k+1,by omega,rfl,?_,?_,?_,?_,by omega,?_⟩<;>try simp only[g0,g1,g12,g13,ruU,entryE,Nat.reduceLT,Nat.reduceAdd,Nat.reduceMul,Nat.reduceEqDiff]
    rw[List.take_add_one,List.take_add_one,hr1,hr2,hpre,hr]
   ·have hs:decide (r1=r2)=false:=decide_eq_false hr
    have hne:decide (l1=l2)=false:=decide_eq_false (fun e=>hr (by rw[e]at hr1; rw[hr1]at hr2; exact Option.some.inj hr2))
    simp (maxDischargeDepth:=6) only[g0,g1,g12,g13,hs,zE1,joinR_ret,Tryd.results38,ruD,ruW,putL,Nat.reduceLeDiff,xF,ruU,entryE,Nat.reduceLT,Nat.reduceAdd,Nat.reduceMul,Nat.reduceEqDiff]
    rw[hne]
    exact Fin.pureE rfl rfl
 ·rintro E H' ⟨hH,he⟩
  rw[hH,he]
  simp (maxDischargeDepth:=6) only[Tryd.results38,decide_true,ruW,putL,Nat.reduceLeDiff,xF,ruU,entryE,Nat.reduceLT,Nat.reduceAdd,Nat.reduceMul,Nat.reduceEqDiff]
  exact Fin.pureE rfl rfl
theorem eqRows_c (H:AHeap) (v1 v2:Value) (g1 g2:List (List Ce)) (h1:GridAt H v1 g1) (h2:GridAt H v2 g2) (hw:∀ l∈g1,l.length<1000000) (hl:g1.length<1000000):Pure 77 [v1,v2,.func (.func 38) ⟨[]⟩ ⟨[]⟩] H (.bool (decide (g1=g2))):=by
 obtain⟨b,hb⟩:∃ b,H.next=b:=⟨_,rfl⟩
 refine callS_fn mixed Tryd.func77 rfl Tryd.ntmps77 (zA9 rfl) fun wf hsc=>?_
 obtain⟨a1,c1,e1⟩:=h1.sl
 obtain⟨a2,c2,e2⟩:=h2.sl
 by_cases hlen:g1.length=g2.length
 case neg =>
  have hd:decide (¬(g1.length:Int)=(g2.length:Int))=true:=decide_eq_true (by omega)
  rw[e1,e2]
  simp (maxDischargeDepth:=6) only[hd,Tryd.results77,ruW,putL,Nat.reduceLeDiff,xF,ruU,entryE,Nat.reduceLT,Nat.reduceAdd,Nat.reduceMul,Nat.reduceEqDiff]
  rw[decide_eq_false (fun e=>hlen (by rw[e]))]
  exact Fin.pureE rfl rfl
 have hd:decide (¬(g1.length:Int)=(g2.length:Int))=false:=decide_eq_false (by omega)
 rw[e1,e2]
 simp (maxDischargeDepth:=6) only[hd,ruW,putL,Nat.reduceLeDiff,xF,ruU,entryE,Nat.reduceLT,Nat.reduceAdd,Nat.reduceMul,Nat.reduceEqDiff]
 rw[←e1,←e2]
 refine w_env fun E hE=>?_
 have g1':E 1=v2:=by rw[hE]; simp only[ruU,entryE,Nat.reduceLT,Nat.reduceAdd,Nat.reduceMul,Nat.reduceEqDiff]
 have g2':E 2=.func (.func 38) ⟨[]⟩ ⟨[]⟩:=by rw[hE]; simp only[ruU,entryE,Nat.reduceLT,Nat.reduceAdd,Nat.reduceMul,Nat.reduceEqDiff]
 have g15:E 15=v1:=by rw[hE]; simp only[ruU,entryE,Nat.reduceLT,Nat.reduceAdd,Nat.reduceMul,Nat.reduceEqDiff]
 have g16:E 16=.int .i64 (g1.length:Int):=by rw[hE]; simp only[ruU,entryE,Nat.reduceLT,Nat.reduceAdd,Nat.reduceMul,Nat.reduceEqDiff]
 have g17:E 17=.int .i64 ((0:Nat):Int):=by rw[hE]; (simp only[ruU,entryE,Nat.reduceLT,Nat.reduceAdd,Nat.reduceMul,Nat.reduceEqDiff]<;>rfl)
 clear hE
 refine blockC_meet (fun E' H'=>H'=ext H []∧g1=g2) ?_ ?_
 ·refine w_loop (fun (k:Nat) E' H'=>H'=ext H []∧E' 1=v2∧E' 2=.func (.func 38) ⟨[]⟩ ⟨[]⟩∧E' 15=v1∧E' 16=.int .i64 (g1.length:Int)∧E' 17=.int .i64 (k:Int)∧k≤g1.length∧g1.take k=g2.take k) (fun k=>g1.length-k) 0
   ⟨rfl,g1',g2',g15,g16,g17,zB2 _,rfl⟩ ?_
  clear g1' g2' g15 g16 g17
  rintro k E H' ⟨hH,q1,q2,q15,q16,q17,hk,hpre⟩
  rw[hH]
  by_cases hkl:k=g1.length
  ·have hc:decide ((k:Int)<(g1.length:Int))=false:=by simp[hkl]
   simp (maxDischargeDepth:=6) only[q1,q2,q15,q16,q17,hc,ruW,putL,Nat.reduceLeDiff,xF,ruU,entryE,Nat.reduceLT,Nat.reduceAdd,Nat.reduceMul,Nat.reduceEqDiff]
   refine joinR_normal ⟨rfl,?_⟩
   rw[hkl,zF6,hlen,zF6]at hpre
   exact hpre
  ·have hlt:k<g1.length:=by omega
   have hc:decide ((k:Int)<(g1.length:Int))=true:=decide_eq_true (by omega)
   rcases h1 with⟨h,_⟩|⟨_,n1,o1,s1,x1,t1,p1,L1,rfl,b1,n1l,le1,tk1⟩
   ·rw[h]at hlt; simp at hlt
   rcases h2 with⟨h,_⟩|⟨_,n2,o2,s2,x2,t2,p2,L2,rfl,b2,n2l,le2,tk2⟩
   ·rw[h]at hlen; simp at hlen; simp[hlen]at hlt
   obtain⟨w1,hr1⟩:∃ r,g1[k]?=some r:=⟨_,zA6 hlt⟩
   obtain⟨w2,hr2⟩:∃ r,g2[k]?=some r:=⟨_,zA6 (by omega)⟩
   obtain⟨u1,hu1,ra1⟩:=tk1 k w1 hr1
   obtain⟨u2,hu2,ra2⟩:=tk2 k w2 hr2
   have i1:=grid_ia (n:=n1) (off:=o1) (s:=s1) (cap:=x1) (i:=(k:Int)) rfl hlt
   have i2:=grid_ia (n:=n2) (off:=o2) (s:=s2) (cap:=x2) (i:=(k:Int)) (len:=g2.length) rfl (by omega)
   have y1:=grid_load (e:=t1) (o:=p1) hu1
   have y2:=grid_load (e:=t2) (o:=p2) hu2
   rw[hb]at n1l n2l
   simp (maxDischargeDepth:=6) only[q1,q2,q15,q16,q17,hb,hc,i1,i2,b1,b2,n1l,n2l,y1,y2,qk_old,ruW,putL,Nat.reduceLeDiff,xF,ruU,entryE,Nat.reduceLT,Nat.reduceAdd,Nat.reduceMul,Nat.reduceEqDiff]
   refine w_callV (f:=38) (ca:=[]) (by simp only[ruU,entryE,Nat.reduceLT,Nat.reduceAdd,Nat.reduceMul,Nat.reduceEqDiff]) (by simp only[q2,ruU,entryE,Nat.reduceLT,Nat.reduceAdd,Nat.reduceMul,Nat.reduceEqDiff]) (by simp only[ruU,entryE,Nat.reduceLT,Nat.reduceAdd,Nat.reduceMul,Nat.reduceEqDiff]) (by kernel_rfl) ?_
   simp only[ruU,entryE,Nat.reduceLT,Nat.reduceAdd,Nat.reduceMul,Nat.reduceEqDiff]
   refine (show CallS Tryd.prog 38 _ (ext H []) _ (ext H []) from eqCells_c (ext H []) u1 u2 w1 w2 ra1.ext ra2.ext (hw w1 (zC1 hr1))).to ?_
   by_cases hr:w1=w2
   ·have hs:decide (w1=w2)=true:=decide_eq_true hr
    simp (maxDischargeDepth:=6) only[q1,q2,q15,q16,q17,hs,zD3,wrap_succ (show k<1000000 by omega),ruW,putL,Nat.reduceLeDiff,xF,ruU,entryE,Nat.reduceLT,Nat.reduceAdd,Nat.reduceMul,Nat.reduceEqDiff]
    refine loopC_next ⟨k+1,by omega,rfl,?_,?_,?_,?_,?_,by omega,?_⟩<;>try simp only[q1,q2,q15,q16,q17,ruU,entryE,Nat.reduceLT,Nat.reduceAdd,Nat.reduceMul,Nat.reduceEqDiff]
    rw[List.take_add_one,List.take_add_one,hr1,hr2,hpre,hr]
   ·have hs:decide (w1=w2)=false:=decide_eq_false hr
    have hne:decide (g1=g2)=false:=decide_eq_false (fun e=>hr (by rw[e]at hr1; rw[hr1]at hr2; exact Option.some.inj hr2))
    simp (maxDischargeDepth:=6) only[q1,q2,q15,q16,q17,hs,zE1,joinR_ret,Tryd.results77,ruW,putL,Nat.reduceLeDiff,xF,ruU,entryE,Nat.reduceLT,Nat.reduceAdd,Nat.reduceMul,Nat.reduceEqDiff]
    rw[hne]
    exact Fin.pureE rfl rfl
 ·rintro E H' ⟨hH,he⟩
  rw[hH,he]
  simp (maxDischargeDepth:=6) only[Tryd.results77,decide_true,ruW,putL,Nat.reduceLeDiff,xF,ruU,entryE,Nat.reduceLT,Nat.reduceAdd,Nat.reduceMul,Nat.reduceEqDiff]
  exact Fin.pureE rfl rfl
theorem same54_c (H:AHeap) (v1 v2:Value) (g1 g2:List (List Ce)) (h1:GridAt H v1 g1) (h2:GridAt H v2 g2) (hw:∀ l∈g1,l.length<1000000) (hl:g1.length<1000000):Pure 54 [v1,v2] H (.bool (decide (g1=g2))):=by
 refine callS_fn mixed Tryd.func54 rfl Tryd.ntmps54 (zA9 rfl) fun wf hsc=>?_
 simp (maxDischargeDepth:=6) only[ruW,putL,Nat.reduceLeDiff,xF,ruU,entryE,Nat.reduceLT,Nat.reduceAdd,Nat.reduceMul,Nat.reduceEqDiff]
 refine (eqRows_c (ext H []) v1 v2 g1 g2 h1 h2 hw hl).to ?_
 simp (maxDischargeDepth:=6) only[Tryd.results54,ruW,putL,Nat.reduceLeDiff,xF,ruU,entryE,Nat.reduceLT,Nat.reduceAdd,Nat.reduceMul,Nat.reduceEqDiff]
 exact Fin.pureE rfl rfl
end Go.Proofs.YtaojjfebkldmnaaDoor
