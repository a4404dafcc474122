/- Parts of the proof, one behind the other. -/
import Derived.Test.YtaojjfebkldmnaaDoorM3
import Derived.Test.YtaojjfebkldmnaaDoorM5
import Derived.Test.YtaojjfebkldmnaaDoorM4
import Derived.Test.YtaojjfebkldmnaaDoorRows
import Derived.Shelf.Unicode.ValidAny
import Derived.Lib.ValidLaws
import Derived.Lib.TrimUEq
import Derived.Test.YtaojjfebkldmnaaDoorProg
import Derived.KernelRfl
set_option linter.all false
set_option maxRecDepth 10000
set_option maxHeartbeats 16000000
open And renaming intro → zA0
open Option renaming bind_eq_bind → zA1, bind_eq_some_iff → zA2, bind_some → zA3, map_some → zA7, map_eq_some_iff → zB1
open Bool renaming and_eq_true → zA4, false_eq_true → zC2, not_true → zC8, and_self → zD1, not_false → zD6
open Nat renaming le_refl → zA5, le_of_ble_eq_true → zA9, zero_le → zB0, zero_add → zC1, lt_or_ge → zC4, lt_succ_self → zC6, add_zero → zC7, lt_of_lt_of_le → zC9, le_of_eq → zD2, le_trans → zD9, zero_mul → zE1, sub_self → zE9, eq_of_beq_eq_true → zF4
open List renaming getElem?_eq_getElem → zA6, mem_singleton → zA8, mem_cons → zB2, mem_cons_of_mem → zB3, mem_append → zB4, length_cons → zB5, length_append → zB6, map_cons → zB7, nil_append → zB8, mem_of_getElem? → zB9, all_eq_true → zC0, length_nil → zC3, eq_nil_of_length_eq_zero → zC5, append_nil → zD0, drop_zero → zD3, mem_append_left → zD4, mem_append_right → zD5, mem_cons_self → zD7, length_drop → zD8, getElem?_eq_none → zE0, getElem?_eq_some_iff → zE2, mem_flatMap → zE3, mem_of_mem_take → zE4, mem_of_mem_drop → zE5, take_of_length_le → zE6, drop_eq_nil_of_le → zE7, getD_eq_getElem?_getD → zE8, drop_eq_getElem_cons → zF0, mem_range → zF1, map_nil → zF2, cons_append → zF3, getElem?_cons_zero → zF5, length_take → zF6, take_length → zF7, flatMap_cons → zF8, getElem?_cons_succ → zF9

namespace Go.Proofs.YtaojjfebkldmnaaDoor
open Go.Ax
abbrev Ce.zero:Ce:=⟨0,0,0,false,false,false⟩
theorem zeros_cs (n:Nat):zerosL Ce.zero.cells n=csOf (List.replicate n Ce.zero):=by
 induction n with
 |zero=>rfl
 |succ n ih=>rw[zerosL,ih,List.replicate_succ,csOf_cons]
theorem mkCells {X:AHeap} {w:Nat} (h:w≤1000):aMakeSlice Tryd.prog X 56 (.int .i64 (w:Int)) (.int .i64 (w:Int))=(aNew X 55 (csOf (List.replicate w Ce.zero)) false).map fun g=>(.slice (some ⟨X.next,0,some 0⟩) w w,g):=by
 rw[mk_slice (e:=55) (sz:=6) (by1:=32) (z:=Ce.zero.val) (by kernel_rfl) (by kernel_rfl) (by kernel_rfl) (by kernel_rfl) rfl (by simp only[small,zA4,Nat.ble_eq]; omega)]
 rw[show Ce.zero.val.cells.toList=Ce.zero.cells from rfl,zeros_cs]
theorem wrap_u64 {n:Nat} (h:n<100000):IntKind.u64.wrap (n:Int)=n:=by
 simp only[IntKind.wrap,IntKind.signed,IntKind.bits]
 simp
 omega
theorem csOf_take (l:List Ce) (k:Nat):(csOf l).take (k*6)=csOf (l.take k):=by
 induction l generalizing k with
 |nil=>simp[csOf]
 |cons c l ih =>
  cases k with
  |zero=>simp[csOf]
  |succ k=>rw[csOf_cons,List.take_succ_cons,csOf_cons,show (k+1)*6=c.cells.length+k*6 by simp[Ce.cells]; omega,List.take_append,zE6 (by omega),Nat.add_sub_cancel_left,ih]
theorem csOf_drop (l:List Ce) (k:Nat):(csOf l).drop (k*6)=csOf (l.drop k):=by
 induction l generalizing k with
 |nil=>simp[csOf]
 |cons c l ih =>
  cases k with
  |zero=>simp[csOf]
  |succ k=>rw[csOf_cons,List.drop_succ_cons,show (k+1)*6=c.cells.length+k*6 by simp[Ce.cells]; omega,List.drop_append,zE7 (by omega),zB8,Nat.add_sub_cancel_left,ih]
theorem csOf_put (pre new old:List Ce) (h:new.length≤old.length):putL (csOf (pre++old)) (pre.length*6) (csOf new)=csOf (pre++(new++old.drop new.length)):=by
 have e:pre.length*6=(csOf pre).length:=(csOf_length pre).symm
 rw[csOf_append,e,putL_at _ _ _ (by rw[csOf_length,csOf_length]; omega),csOf_length,csOf_drop,csOf_append,csOf_append]
theorem cp56 {G:AHeap} {q off dl dc n off2 sl sc:Nat} {s2:Option Nat} {b bq:Bl} (hq:bk G q=some bq) (hlt:q<G.next) (hb:bk G n=some b) {l:List Ce} (hle:off2+Nat.min sl dl*6≤b.l.length) (hl:(b.l.drop off2).take (Nat.min sl dl*6)=csOf l) (hw:off+Nat.min sl dl*6≤bq.l.length) (hll:l.length=Nat.min sl dl) :
  aBuiltin Tryd.prog G .copy ⟨[56,56]⟩ [.slice (some ⟨q,off,some 0⟩) dl dc,.slice (some ⟨n,off2,s2⟩) sl sc]=some (goInt (Nat.min sl dl),uw G q off (csOf l)):=by
 rw[cp_slice (e:=55) (sz:=6) (by kernel_rfl) (by kernel_rfl) rfl hb hle,hl]
 have:=write_old (H:=G) (L:=[]) (vs:=csOf l) hlt hq (by rw[csOf_length,hll]; exact hw) (csOf_one l) (csOf_sc l _)
 rw[ext_nil,ext_nil]at this
 rw[this]
 rfl
theorem repeat_c (w:Nat) (h1:1≤w) (hw:w≤1000) (c:Ce) (n:Nat) (s:Option Nat) (H:AHeap) (hn:bk H n=some ⟨55,false,c.cells⟩) :
  CallS Tryd.prog 66 [.slice (some ⟨n,0,s⟩) 1 1,.int .i64 (w:Int)] H (.ok (.slice (some ⟨H.next,0,some 0⟩) w w)) (ext H [⟨55,false,csOf (List.replicate w c)⟩]):=by
 refine callS_one (fun wf hsc=>?_) (fun _ _=>csOf_sc _ _)
 obtain⟨b,hb⟩:∃ b,H.next=b:=⟨_,rfl⟩
 have hbase:H.base≤b:=hb▸wf.base
 have hnb:n<b:=hb▸wf.lt hn
 have hneg:decide ((w:Int)<0)=false:=decide_eq_false (by omega)
 have hcv:∀ (X:AHeap) (k:IntKind) (m:Int),aConvert Tryd.prog X 3 118 (.int k m)=some (.int .u64 (IntKind.u64.wrap m),X):=fun X k m=>cv_int (u:=.int .i64) (by kernel_rfl) (by kernel_rfl)
 have hcv2:∀ (X:AHeap) (k:IntKind) (m:Int),aConvert Tryd.prog X 118 3 (.int k m)=some (.int .i64 (IntKind.i64.wrap m),X):=fun X k m=>cv_int (u:=.int .u64) (by kernel_rfl) (by kernel_rfl)
 have u1:IntKind.u64.wrap ((1:Nat):Int)=1:=by decide
 have huw:IntKind.u64.wrap (w:Int)=w:=wrap_u64 (by omega)
 have iw:IntKind.i64.wrap (w:Int)=w:=wrap_sm (by omega) (by omega)
 have z1:decide ((0:Int)>0)=false:=by decide
 have z2:decide ((w:Int)>9223372036854775807)=false:=decide_eq_false (by omega)
 refine callE_fn mixed Tryd.func66 rfl Tryd.ntmps66 (zA9 rfl) ?_
 simp (maxDischargeDepth:=6) only[hneg,w_convert,hcv,u1,huw,ruW,putL,Nat.reduceLeDiff,xF,ruU,entryE,Nat.reduceLT,Nat.reduceAdd,Nat.reduceMul,Nat.reduceEqDiff]
 refine (mul_c (ext H []) w (by omega)).to ?_
 simp (maxDischargeDepth:=6) only[w_convert,hcv2,iw,z1,z2,mkCells (show w≤1000 by omega),csOf_sc,hb,ruW,putL,Nat.reduceLeDiff,xF,ruU,entryE,Nat.reduceLT,Nat.reduceAdd,Nat.reduceMul,Nat.reduceEqDiff]
 generalize hG:ext H [_]=G
 have mG:Mod [] H G:=hG▸Mod.ext wf.base
 have hGn:G.next=b+1:=by rw[←hG,ext_next,hb]; rfl
 have hq:bk G (b+0)=some ⟨55,false,csOf (List.replicate w Ce.zero)⟩:=by rw[←hG,bk_at hb (by simp)]; rfl
 have hnG:=(mG.bk (hb▸hnb) (by simp)).trans hn
 have m1:Nat.min 1 w=1:=Nat.min_eq_left h1
 have hcp:=cp56 (G:=G) (q:=b+0) (off:=0) (dl:=w) (dc:=w) (n:=n) (off2:=0) (sl:=1) (sc:=1) (s2:=s) (l:=[c]) hq (by omega) hnG (by rw[m1]; simp[Ce.cells]) (by rw[m1]; rfl) (by rw[m1,csOf_length,List.length_replicate]; omega) (by rw[m1]; rfl)
 rw[m1]at hcp
 simp (maxDischargeDepth:=6) only[hcp,ruW,putL,Nat.reduceLeDiff,xF,ruU,entryE,Nat.reduceLT,Nat.reduceAdd,Nat.reduceMul,Nat.reduceEqDiff]
 generalize hK:uw G (b+0) 0 _=K
 have mK:Mod [b+0] G K:=hK▸Mod.uw (by simp)
 have okK:=mK.ok (mG.ok wf.base)
 have hKn:K.next=b+1:=by rw[←hK,uw_next,hGn]
 have hKq:bk K (b+0)=some ⟨55,false,csOf (List.replicate 1 c++List.replicate (w-1) Ce.zero)⟩:=by
  rw[←hK,bk_uw_eq,hq]
  have:=csOf_put [] [c] (List.replicate w Ce.zero) (by simp; omega)
  simp only[zB8,zC3,zE1,zB5,List.drop_replicate]at this
  show some (Bl.mk 55 false (putL (csOf (List.replicate w Ce.zero)) 0 (csOf [c])))=_
  rw[this]
  rfl
 have mHK:Mod [] H K:=mG.step mK wf.base (fun k hk=>.inr (by simp only[zA8]at hk; omega))
 refine w_env fun E hE=>?_
 have g7:E 7=.slice (some ⟨b+0,0,some 0⟩) w w:=by rw[hE]; simp only[ruU,entryE,Nat.reduceLT,Nat.reduceAdd,Nat.reduceMul,Nat.reduceEqDiff]
 have g8:E 8=.int .i64 ((1:Nat):Int):=by rw[hE]; (simp only[ruU,entryE,Nat.reduceLT,Nat.reduceAdd,Nat.reduceMul,Nat.reduceEqDiff]<;>rfl)
 clear hE
 refine blockC_meet (fun E' H'=>Mod [] H H'∧bk H' (b+0)=some ⟨55,false,csOf (List.replicate w c)⟩∧E' 7=.slice (some ⟨b+0,0,some 0⟩) w w) ?_ ?_
 ·refine w_loop (fun (m:Nat) E' H'=>Mod [] H H'∧b+0<H'.next∧1≤m∧m≤w∧bk H' (b+0)=some ⟨55,false,csOf (List.replicate m c++List.replicate (w-m) Ce.zero)⟩∧E' 7=.slice (some ⟨b+0,0,some 0⟩) w w∧E' 8=.int .i64 (m:Int)) (fun m=>w-m) 1
   ⟨mHK,by omega,zA5 _,h1,hKq,g7,g8⟩ ?_
  clear g7 g8
  rintro m E X ⟨mX,lX,hm1,hmw,hqX,g7,g8⟩
  rw[show X=ext X [] from rfl]
  by_cases hme:m=w
  ·have hc:decide ((m:Int)<(w:Int))=false:=by simp[hme]
   simp (maxDischargeDepth:=6) only[g7,g8,hc,ruW,putL,Nat.reduceLeDiff,xF,ruU,entryE,Nat.reduceLT,Nat.reduceAdd,Nat.reduceMul,Nat.reduceEqDiff]
   refine joinR_normal ⟨mX,?_,?_⟩
   ·rw[ext_nil,hqX,hme,zE9]; simp
   ·simp only[g7,ruU,entryE,Nat.reduceLT,Nat.reduceAdd,Nat.reduceMul,Nat.reduceEqDiff]
  ·have hlt:m<w:=by omega
   have hc:decide ((m:Int)<(w:Int))=true:=decide_eq_true (by omega)
   have okX:=mX.ok wf.base
   simp (maxDischargeDepth:=6) only[g7,g8,hc,ruW,putL,Nat.reduceLeDiff,xF,ruU,entryE,Nat.reduceLT,Nat.reduceAdd,Nat.reduceMul,Nat.reduceEqDiff]
   refine w_drawB [(7,3),(7,6),(9,7)] [] (by kernel_rfl) (by kernel_rfl) rfl fun ops anc hA hG2=>?_
   simp only[all2_cons]at hA
   simp (maxDischargeDepth:=6) only[g7,g8,ruD,ruW,putL,Nat.reduceLeDiff,xF,ruU,entryE,Nat.reduceLT,Nat.reduceAdd,Nat.reduceMul,Nat.reduceEqDiff]
   have hbm:bound 0 (some (.int .i64 (m:Int)))=some m:=by simp[bound]
   have hbm2:bound w (some (.int .i64 (m:Int)))=some m:=by simp[bound]
   rw[wd_slice]
   refine genV_val (v:=.slice (some ⟨b+0,0+m*6,some 0⟩) (w-m) (w-m)) rfl (by decide) (fun G=>slice_aop (by simp (maxDischargeDepth:=6) only[ruU,entryE,Nat.reduceLT,Nat.reduceAdd,Nat.reduceMul,Nat.reduceEqDiff]) (by simp (maxDischargeDepth:=6) only[ruU,entryE,Nat.reduceLT,Nat.reduceAdd,Nat.reduceMul,Nat.reduceEqDiff,bndsOk_some]) rfl rfl ?_) (by simp (maxDischargeDepth:=6) only[ruD,ruW,putL,Nat.reduceLeDiff,xF,ruU,entryE,Nat.reduceLT,Nat.reduceAdd,Nat.reduceMul,Nat.reduceEqDiff]) ?_
   ·simp only[g7,g8,bnds_some,bnds_none,ruU,entryE,Nat.reduceLT,Nat.reduceAdd,Nat.reduceMul,Nat.reduceEqDiff]
    exact sl_exact (e:=55) (sz:=6) (by kernel_rfl) (by kernel_rfl) hbm rfl (zA5 _) hmw hlt
   simp (maxDischargeDepth:=6) only[g7,g8,ruD,ruW,putL,Nat.reduceLeDiff,xF,ruU,entryE,Nat.reduceLT,Nat.reduceAdd,Nat.reduceMul,Nat.reduceEqDiff]
   rw[wd_slice]
   refine genV_val (v:=.slice (some ⟨b+0,0+0*6,some 0⟩) (m-0) (w-0)) rfl (by decide) (fun G=>slice_aop (by simp (maxDischargeDepth:=6) only[ruU,entryE,Nat.reduceLT,Nat.reduceAdd,Nat.reduceMul,Nat.reduceEqDiff]) rfl (by simp (maxDischargeDepth:=6) only[ruU,entryE,Nat.reduceLT,Nat.reduceAdd,Nat.reduceMul,Nat.reduceEqDiff,bndsOk_some]) rfl ?_) (by simp (maxDischargeDepth:=6) only[ruD,ruW,putL,Nat.reduceLeDiff,xF,ruU,entryE,Nat.reduceLT,Nat.reduceAdd,Nat.reduceMul,Nat.reduceEqDiff]) ?_
   ·simp only[g7,g8,bnds_some,bnds_none,ruU,entryE,Nat.reduceLT,Nat.reduceAdd,Nat.reduceMul,Nat.reduceEqDiff]
    exact sl_exact (e:=55) (sz:=6) (by kernel_rfl) (by kernel_rfl) rfl hbm2 hmw (zB0 _) (by omega)
   simp (maxDischargeDepth:=6) only[g7,g8,ruD,ruW,putL,Nat.reduceLeDiff,xF,ruU,entryE,Nat.reduceLT,Nat.reduceAdd,Nat.reduceMul,Nat.reduceEqDiff]
   rw[wd_copy (by simp only[ruU,entryE,Nat.reduceLT,Nat.reduceAdd,Nat.reduceMul,Nat.reduceEqDiff])]
   have hrn:=restrict_next X [b+0]
   have hqR:bk (X.restrict [b+0]) (b+0)=some ⟨55,false,csOf (List.replicate m c++List.replicate (w-m) Ce.zero)⟩:=(bk_get (by rw[restrict_get,if_pos (by simp)])).trans hqX
   obtain⟨j,hj⟩:∃ j,Nat.min m (w-m)=j:=⟨_,rfl⟩
   have hjm:j≤m∧j≤w-m∧0<j:=by rw[←hj]; exact⟨Nat.min_le_left _ _,Nat.min_le_right _ _,Nat.lt_min.2 ⟨by omega,by omega⟩⟩
   have hcl:(csOf (List.replicate m c++List.replicate (w-m) Ce.zero)).length=w*6:=by rw[csOf_length]; simp; omega
   have hcp2:=cp56 (G:=X.restrict [b+0]) (q:=b+0) (off:=0+m*6) (dl:=w-m) (dc:=w-m) (n:=b+0) (off2:=0+0*6) (sl:=m-0) (sc:=w-0) (s2:=some 0) (l:=List.replicate j c) hqR (by rw[hrn.1]; exact lX) hqR
    (by rw[Nat.sub_zero,hj,hcl]; omega) (by rw[Nat.sub_zero,hj,zE1,zC1,zD3,csOf_take,List.take_append,List.take_replicate,List.length_replicate,show j-m=0 by omega,Nat.min_eq_left hjm.1]; simp) (by rw[Nat.sub_zero,hj,hcl]; omega) (by rw[Nat.sub_zero,hj,List.length_replicate])
   rw[Nat.sub_zero,hj]at hcp2
   refine genV_modO (W:=[b+0]) [b+0] okX (fun k hk=>by simp only[zA8]at hk; subst hk; exact bk_ne hqX) (fun k hk=>by simp only[zA8]at hk; subst hk; exact lX) (fun _ h=>h)
    (builtin_op (v:=goInt j) (by simp only[ruU,entryE,Nat.reduceLT,Nat.reduceAdd,Nat.reduceMul,Nat.reduceEqDiff]) (by simp only[ruU,entryE,Nat.reduceLT,Nat.reduceAdd,Nat.reduceMul,Nat.reduceEqDiff]; rw[Nat.sub_zero]; exact hcp2)) (Mod.uw (by simp)) (by simp only[all2_cons,all2_nil,hA,true_or,and_true]) ?_
   intro H1 D mH1 hF1 _ _ _
   have hw8:IntKind.i64.wrap ((m:Int)+(j:Int))=((m+j:Nat):Int):=by
    have:=wrap_sm (n:=(m:Int)+(j:Int)) (by omega) (by omega)
    rw[show IntKind.i64.wrap ((m:Int)+(j:Int))=_ from this]; omega
   rw[show H1=ext H1 [] from rfl]
   simp (maxDischargeDepth:=6) only[g7,g8,goInt,hA,hw8,implies_true,ruD,ruW,putL,Nat.reduceLeDiff,xF,ruU,entryE,Nat.reduceLT,Nat.reduceAdd,Nat.reduceMul,Nat.reduceEqDiff]
   have hq1:bk H1 (b+0)=some ⟨55,false,csOf (List.replicate (m+j) c++List.replicate (w-(m+j)) Ce.zero)⟩:=by
    rw[bk_get (hF1 (b+0) (by simp)),bk_uw_eq,show bk ((ext X []).restrict [b+0]) (b+0)=_ from hqR]
    have:=csOf_put (List.replicate m c) (List.replicate j c) (List.replicate (w-m) Ce.zero) (by simp; omega)
    rw[List.length_replicate,List.length_replicate,List.drop_replicate]at this
    show some (Bl.mk 55 false (putL (csOf _) (0+m*6) (csOf (List.replicate j c))))=_
    rw[zC1,this,←List.append_assoc,List.replicate_append_replicate,show w-m-j=w-(m+j) by omega]
   refine loopC_next ⟨m+j,by omega,(mX.step mH1 wf.base (fun k hk=>.inr (by simp only[zA8]at hk; omega))),mH1.lt lX,by omega,by omega,hq1,?_,?_⟩<;>simp only[g7,g8,ruU,entryE,Nat.reduceLT,Nat.reduceAdd,Nat.reduceMul,Nat.reduceEqDiff]
 ·clear g7 g8
  rintro E X ⟨mX,hqX,g7⟩
  rw[show X=ext X [] from rfl]
  simp (maxDischargeDepth:=6) only[g7,Tryd.results66,ruW,putL,Nat.reduceLeDiff,xF,ruU,entryE,Nat.reduceLT,Nat.reduceAdd,Nat.reduceMul,Nat.reduceEqDiff]
  exact⟨b+0,rfl,by omega,hqX,mX⟩
def bt (l:List UInt8) (i:Nat):Int:=((l.getD i 0).toNat:Int)
theorem bt_lt (l:List UInt8) (i:Nat):0≤bt l i∧bt l i<256:=by
 have:=(l.getD i 0).toNat_lt
 unfold bt
 omega
def tl (l:List UInt8) (i:Nat):Bool:=decide (i<l.length)&&decide (128≤bt l i)&&decide (bt l i<192)
theorem tl_lt {l:List UInt8} {i:Nat} (h:tl l i=true):i<l.length∧128≤bt l i∧bt l i<192:=by
 simp only[tl,zA4,decide_eq_true_eq]at h
 exact⟨h.1.1,h.1.2,h.2⟩
theorem u9:Tryd.prog.underlying 9=some .string:=by kernel_rfl
theorem size_len (s:ByteArray):s.size=s.data.toList.length:=Array.length_toList.symm
def ptR (l:List UInt8):Int × Int :=
 cond (decide (bt l 0<128)) (bt l 0,1) <|
 cond (decide (194≤bt l 0)&&decide (bt l 0<224)&&tl l 1) ((bt l 0-192)*64+bt l 1-128,2) <|
 cond (decide (224≤bt l 0)&&decide (bt l 0<240)&&tl l 1&&tl l 2)
  (cond (decide (2048≤((bt l 0-224)*64+bt l 1-128)*64+bt l 2-128)&&isR (((bt l 0-224)*64+bt l 1-128)*64+bt l 2-128)) (((bt l 0-224)*64+bt l 1-128)*64+bt l 2-128,3) (0,0)) <|
 cond (decide (240≤bt l 0)&&decide (bt l 0<245)&&tl l 1&&tl l 2&&tl l 3)
  (cond (decide (65536≤(((bt l 0-240)*64+bt l 1-128)*64+bt l 2-128)*64+bt l 3-128)&&isR ((((bt l 0-240)*64+bt l 1-128)*64+bt l 2-128)*64+bt l 3-128)) ((((bt l 0-240)*64+bt l 1-128)*64+bt l 2-128)*64+bt l 3-128,4) (0,0))
 (0,0)
theorem ptR_len (l:List UInt8) (h0:0<l.length):0≤(ptR l).2∧(ptR l).2.toNat≤l.length∧-1<(ptR l).1+1∧(ptR l).1<2000000000:=by
 have r0:=bt_lt l 0
 have r1:=bt_lt l 1
 have r2:=bt_lt l 2
 have r3:=bt_lt l 3
 unfold ptR
 cases e0:decide (bt l 0<128) with
 |true=>simp only[cond_true]; omega
 |false =>
  rw[cond_false]
  cases e1:(decide (194≤bt l 0)&&decide (bt l 0<224)&&tl l 1) with
  |true =>
   simp only[zA4,decide_eq_true_eq]at e1
   have:=tl_lt e1.2
   simp only[cond_true]
   omega
  |false =>
   rw[cond_false]
   cases e2:(decide (224≤bt l 0)&&decide (bt l 0<240)&&tl l 1&&tl l 2) with
   |true =>
    simp only[zA4,decide_eq_true_eq]at e2
    have t1:=tl_lt e2.1.2
    have t2:=tl_lt e2.2
    rw[cond_true]
    cases (decide (2048≤((bt l 0-224)*64+bt l 1-128)*64+bt l 2-128)&&isR (((bt l 0-224)*64+bt l 1-128)*64+bt l 2-128)) with
    |true=>simp only[cond_true]; omega
    |false=>simp only[cond_false]; omega
   |false =>
    rw[cond_false]
    cases e3:(decide (240≤bt l 0)&&decide (bt l 0<245)&&tl l 1&&tl l 2&&tl l 3) with
    |true =>
     simp only[zA4,decide_eq_true_eq]at e3
     have t1:=tl_lt e3.1.1.2
     have t2:=tl_lt e3.1.2
     have t3:=tl_lt e3.2
     rw[cond_true]
     cases (decide (65536≤(((bt l 0-240)*64+bt l 1-128)*64+bt l 2-128)*64+bt l 3-128)&&isR ((((bt l 0-240)*64+bt l 1-128)*64+bt l 2-128)*64+bt l 3-128)) with
     |true=>simp only[cond_true]; omega
     |false=>simp only[cond_false]; omega
    |false=>simp only[cond_false]; omega
def ptsF:Nat→List UInt8→Option (List Int)
 |0,l=>if l=[] then some [] else none
 |n+1,l=>if l=[] then some [] else if (ptR l).2=0 then none else (ptsF n (l.drop (ptR l).2.toNat)).map ((ptR l).1::·)
theorem ptsF_fuel:∀ (n m:Nat) (l:List UInt8),l.length≤n→l.length≤m→ptsF n l=ptsF m l
 |0,m,l,hn,_=>by
  have:l=[]:=zC5 (by omega)
  subst this
  cases m<;>rfl
 |n+1,0,l,_,hm=>by
  have:l=[]:=zC5 (by omega)
  subst this
  rfl
 |n+1,m+1,l,hn,hm=>by
  simp only[ptsF]
  by_cases h:l=[]
  ·rw[if_pos h,if_pos h]
  ·rw[if_neg h,if_neg h]
   by_cases h2:(ptR l).2=0
   ·rw[if_pos h2,if_pos h2]
   ·rw[if_neg h2,if_neg h2]
    have hp:0<l.length:=List.length_pos_iff.2 h
    have:=ptR_len l hp
    rw[ptsF_fuel n m _ (by rw[zD8]; omega) (by rw[zD8]; omega)]
def ptsR (l:List UInt8):Option (List Int):=ptsF l.length l
theorem ptsR_nil:ptsR []=some []:=rfl
theorem ptsR_step (l:List UInt8) (h:0<l.length):ptsR l=if (ptR l).2=0 then none else (ptsR (l.drop (ptR l).2.toNat)).map ((ptR l).1::·):=by
 unfold ptsR
 obtain⟨n,hn⟩:∃ n,l.length=n+1:=⟨l.length-1,by omega⟩
 rw[hn,ptsF,if_neg (fun e=>by rw[e]at h; simp at h)]
 by_cases h2:(ptR l).2=0
 ·rw[if_pos h2,if_pos h2]
 ·rw[if_neg h2,if_neg h2]
  have:=ptR_len l h
  rw[ptsF_fuel n _ _ (by rw[zD8]; omega) (zA5 _)]
theorem ptsR_len:∀ (n:Nat) (l:List UInt8) (r:List Int),l.length≤n→ptsR l=some r→r.length≤l.length
 |0,l,r,hn,h=>by
  have:l=[]:=zC5 (by omega)
  subst this
  rw[ptsR_nil]at h
  cases h
  simp
 |n+1,l,r,hn,h=>by
  by_cases h0:0<l.length
  ·rw[ptsR_step l h0]at h
   split at h
   ·cases h
   ·rename_i h2
    obtain⟨q,hq,rfl⟩:=zB1.1 h
    have hl:=ptR_len l h0
    have:=ptsR_len n _ q (by rw[zD8]; omega) hq
    rw[zD8]at this
    simp only[zB5]
    omega
  ·have:l=[]:=zC5 (by omega)
   subst this
   rw[ptsR_nil]at h
   cases h
   simp
def iv (l:List Int):List Value:=l.map (Value.int .i64)
theorem iv_sc (l:List Int) (n:Nat):scbL n (iv l)=true:=by induction l with|nil=>rfl|cons a l ih=>simp only[iv,zB7,scbL]at ih ⊢; rw[ih]; rfl
theorem int_app {X:AHeap} {v:Value} {l:List Int} {c:Int} {x:Nat} (h:VsAt X 3 1 v (iv l) l.length) (hx:X.next=x) (hb:X.base≤X.next) (hlen:l.length≤1000000) :
  ∃ G,aBuiltin Tryd.prog (ext X [⟨3,false,[.int .i64 c]⟩]) .append ⟨[109,109]⟩ [v,.slice (some ⟨x+0,0,some 0⟩) 1 1]=some (.slice (some ⟨x+1,0,none⟩) (l.length+1) (l.length+1),ext G [])∧VsAt G 3 1 (.slice (some ⟨x+1,0,none⟩) (l.length+1) (l.length+1)) (iv (l++[c])) (l++[c]).length∧Mod (idsV v) X G∧G.next=x+2:=by
 have h2:VsAt (ext X [⟨3,false,[.int .i64 c]⟩]) 3 1 v (iv l) l.length:=h.of (by rw[ext_next]; omega) (fun n hn=>ext_get_old (h.ne n hn).2)
 have hk:bk (ext X [⟨3,false,[.int .i64 c]⟩]) (x+0)=some ⟨3,false,[.int .i64 c]⟩:=by rw[bk_at hx (by simp)]; rfl
 have hsm:small (l.length+1) 8=true:=by simp only[small,zA4,Nat.ble_eq]; omega
 obtain⟨G,k1,k2,k3,k4,_⟩:=vs_app (P:=Tryd.prog) (H:=ext X [⟨3,false,[.int .i64 c]⟩]) (st:=109) (xt:=109) (e:=3) (sz:=1) (by1:=8) (z:=.int .i64 0) (n:=x+0) (off:=0) (cnt2:=1) (cap:=1) (s:=some 0) (x:=x+1) (ws:=[.int .i64 c]) (b:=⟨3,false,[.int .i64 c]⟩)
  (by kernel_rfl) (by kernel_rfl) (by kernel_rfl) (by kernel_rfl) rfl (by kernel_rfl) h2 (rk_of hk) (by simp) rfl rfl (by decide) hsm (by rw[ext_next,hx]; rfl) (scbL_append (iv_sc _ _) rfl)
 have e1:iv l++[.int .i64 c]=iv (l++[c]):=by simp[iv]
 rw[e1]at k2
 refine⟨G,k1,by rw[zB6]; exact k2,(Mod.ext hb).trans (k3 ((Mod.ext (W:=[]) hb).ok hb)),k4⟩
def St.text (W:Nat) (r:Option (List Int)) (x:St):Option St:=match r with
 |none=>none
 |some l=>if St.fits W l x.col=true then
   some {x with grid:=x.grid.set x.row.toNat (putAll x.pen l (x.grid.getD x.row.toNat []) x.col.toNat).1,col:=((putAll x.pen l (x.grid.getD x.row.toNat []) x.col.toNat).2:Nat)}
  else none
theorem fits_cons {W:Nat} {c:Int} {l:List Int} {n:Int} (h:St.fits W (c::l) n=true):cellsR c≠0∧n+cellsR c≤W∧St.fits W l (n+cellsR c)=true:=by
 rw[St.fits]at h
 split at h
 ·cases h
 ·rename_i hh
  simp only[Bool.or_eq_true,decide_eq_true_eq,not_or,Int.not_lt]at hh
  exact⟨hh.1,hh.2,h⟩
theorem putC_len (pen:Lk) (l:List Ce) (k:Nat) (c:Int):(putC pen l k c).length=l.length:=by
 unfold putC
 split<;>simp[setL_len]
set_option maxRecDepth 100000
abbrev fstD:DataW Unit:=Rows.laid_unicode_utf8_first
abbrev accD:DataW Unit:=Rows.laid_unicode_utf8_acceptRanges
def Tab (H:AHeap):Prop:=∃ e1 e2,bk H 0=some ⟨e1,false,dc fstD⟩∧bk H 1=some ⟨e2,false,dc accD⟩
theorem Tab.of {H G:AHeap} (t:Tab H) (h0:G.get 0=H.get 0) (h1:G.get 1=H.get 1):Tab G:=by
 obtain⟨e1,e2,a,b⟩:=t
 exact⟨e1,e2,(bk_get h0).trans a,(bk_get h1).trans b⟩
def rhoV:Go.Shelf.Ren:=⟨fun n=>if n=196 then 97 else if n=259 then 111 else 0,fun n=>if n=46 then 118 else if n=53 then 135 else if n=119 then 142 else if n=138 then 144 else if n=139 then 145 else n,fun n=>n-3⟩
theorem laysV:Go.Proofs.Lays.n196 Tryd.prog rhoV:=by
 constructor
 all_goals first
  |exact mixed
  |kernel_rfl
  |(intro w; kernel_rfl)
theorem fst_list:dc fstD=(List.range 256).map fun c=>Value.int .u8 ((Go.Lib.firstT c:Nat):Int):=by kernel_rfl
theorem acc_list:dc accD=(List.range 16).flatMap fun i=>[Value.int .u8 ((Go.Lib.accLo i:Nat):Int),Value.int .u8 ((Go.Lib.accHi i:Nat):Int)]:=by kernel_rfl
theorem pairs_get {f g:Nat→Value}:∀ (n k:Nat) (i:Nat),i<n→(((List.range' k n).flatMap fun j=>[f j,g j])[2*i]?=some (f (k+i))∧((List.range' k n).flatMap fun j=>[f j,g j])[2*i+1]?=some (g (k+i)))
 |0,_,_,h=>absurd h (by omega)
 |n+1,k,0,_=>by rw[List.range'_succ]; exact⟨rfl,rfl⟩
 |n+1,k,i+1,h=>by
  rw[List.range'_succ]
  have:=pairs_get (f:=f) (g:=g) n (k+1) i (by omega)
  rw[show k+1+i=k+(i+1) by omega]at this
  exact this
theorem tabs_world {ρ:Go.Ax.Ren} {H:AHeap} {w:World} (r:Rel Tryd.prog ρ H w) (t:Tab H):Go.Lib.Utf8Tabs 0 1 w:=by
 obtain⟨e1,e2,h1,h2⟩:=t
 obtain⟨c1,a1,b1⟩:=tab_world r (show 0<Tryd.prog.globals.size by decide +kernel) h1 (by kernel_rfl)
 obtain⟨c2,a2,b2⟩:=tab_world r (show 1<Tryd.prog.globals.size by decide +kernel) h2 (by kernel_rfl)
 refine⟨fun c hc=>?_,fun i hi=>?_⟩
 ·simp only[World.cell?,a1]
  rw[←Array.getElem?_toList,b1,fst_list,List.getElem?_map,List.getElem?_range hc]
  rfl
 ·have:=pairs_get (f:=fun i=>Value.int .u8 ((Go.Lib.accLo i:Nat):Int)) (g:=fun i=>Value.int .u8 ((Go.Lib.accHi i:Nat):Int)) 16 0 i hi
  rw[zC1]at this
  simp only[World.cell?,a2]
  rw[←Array.getElem?_toList,←Array.getElem?_toList,b2,acc_list,List.range_eq_range']
  exact⟨by simpa using this.1,by simpa using this.2⟩
theorem validString_c (H:AHeap) (t:Tab H) (s:ByteArray) (hs:s.size≤9223372036854775807):Pure 97 [.string s] H (.bool (Go.Lib.validD s.data.toList)):=by
 intro ρ w r hsc F n R hF hR
 have hc:=Go.Proofs.Any.utf8_ValidString laysV s w hs (tabs_world r t)
 have e1:[Value.string s].map ρ.val=[Value.string s]:=map_af ρ _ (fun x hx=>by simp only[zA8]at hx; subst hx; rfl)
 rw[e1]
 refine (hF.calls hc).mono ?_
 rintro e w' ⟨rfl,hb⟩
 have:=hR ρ w' (St.below r hb) rfl
 rwa [val_af ρ _ rfl]at this
theorem valid_c (H:AHeap) (t:Tab H) (s:ByteArray) (hs:s.size≤9223372036854775807):Pure 74 [.string s] H (.bool (Go.Lib.validD s.data.toList)):=by
 refine callS_fn mixed Tryd.func74 rfl Tryd.ntmps74 (zA9 rfl) fun wf hsc=>?_
 simp (maxDischargeDepth:=6) only[ruW,putL,Nat.reduceLeDiff,xF,ruU,entryE,Nat.reduceLT,Nat.reduceAdd,Nat.reduceMul,Nat.reduceEqDiff]
 refine (validString_c (ext H []) t s hs).to ?_
 simp (maxDischargeDepth:=6) only[Tryd.results74,ruW,putL,Nat.reduceLeDiff,xF,ruU,entryE,Nat.reduceLT,Nat.reduceAdd,Nat.reduceMul,Nat.reduceEqDiff]
 exact Fin.pureE rfl rfl
theorem tl_iff (l:List UInt8) (i:Nat):tl l i=true ↔ (i<l.length∧(l.getD i 0).toNat / 64=2):=by
 constructor
 ·intro hh
  have h:=tl_lt hh
  unfold bt at h
  omega
 ·intro hh
  simp only[tl,zA4,decide_eq_true_eq]
  unfold bt
  omega
theorem pt_dec (l:List UInt8) (h:0<l.length):((ptR l).2=0∧(Go.Lib.decodeL l).1=65533∧(Go.Lib.decodeL l).2=1) ∨
  ((ptR l).2≠0∧(ptR l).1=((Go.Lib.decodeL l).1:Int)∧(ptR l).2=((Go.Lib.decodeL l).2:Int)∧¬((Go.Lib.decodeL l).1=65533∧(Go.Lib.decodeL l).2=1)):=by
 rw[Go.Lib.decodeL_N]
 have r0:=(l.getD 0 0).toNat_lt
 have r1:=(l.getD 1 0).toNat_lt
 have r2:=(l.getD 2 0).toNat_lt
 have r3:=(l.getD 3 0).toNat_lt
 have t1:=tl_iff l 1
 have t2:=tl_iff l 2
 have t3:=tl_iff l 3
 unfold ptR isR Go.Lib.decodeN
 simp only[Bool.cond_eq_ite,zA4,Bool.not_eq_true',decide_eq_true_eq,Bool.and_eq_false_iff,decide_eq_false_iff_not]
 rw[show bt l 0=((l.getD 0 0).toNat:Int) from rfl,show bt l 1=((l.getD 1 0).toNat:Int) from rfl,show bt l 2=((l.getD 2 0).toNat:Int) from rfl,show bt l 3=((l.getD 3 0).toNat:Int) from rfl]
 generalize (l.getD 0 0).toNat=b0 at *
 generalize (l.getD 1 0).toNat=b1 at *
 generalize (l.getD 2 0).toNat=b2 at *
 generalize (l.getD 3 0).toNat=b3 at *
 generalize tl l 1=c1 at *
 generalize tl l 2=c2 at *
 generalize tl l 3=c3 at *
 generalize l.length=n at *
 by_cases h1:b0<128
 ·rw[if_pos (by omega),if_pos h1]
  dsimp only
  omega
 rw[if_neg (by omega)]
 by_cases h4:194≤b0∧b0<224
 ·by_cases hc:c1=true
  ·have a1:=t1.1 hc
   rw[if_pos ⟨⟨by omega,by omega⟩,hc⟩,if_neg h1,if_pos ⟨by omega,a1⟩,if_pos (by omega)]
   dsimp only
   omega
  ·rw[if_neg (fun hh=>hc hh.2),if_neg (by intro hh; omega),if_neg (by intro hh; omega),if_neg h1,if_neg (fun hh=>hc (t1.2 hh.2)),if_neg (by omega),if_neg (by omega)]
   dsimp only
   omega
 rw[if_neg (by intro hh; omega)]
 by_cases h5:224≤b0∧b0<240
 ·by_cases hc:c1=true∧c2=true
  ·have a1:=t1.1 hc.1
   have a2:=t2.1 hc.2
   rw[if_pos ⟨⟨⟨by omega,by omega⟩,hc.1⟩,hc.2⟩,if_neg h1,if_neg (show ¬(b0 / 32=6∧(1<n∧b1 / 64=2)) by omega),if_pos (show (b0 / 16=14∧(1<n∧b1 / 64=2)∧(2<n∧b2 / 64=2)) from⟨by omega,a1,a2⟩)]
   have hz:((b0:Int)-224)*64+b1-128=(((b0-224)*64+(b1-128):Nat):Int):=by omega
   have hy:((((b0-224)*64+(b1-128):Nat):Int))*64+b2-128=((b0 % 16*4096+b1 % 64*64+b2 % 64:Nat):Int):=by omega
   rw[hz,hy]
   generalize b0 % 16*4096+b1 % 64*64+b2 % 64=z
   by_cases hz:z ≥ 2048∧(z<55296∨57344≤z∧z≤1114111)
   ·rw[if_pos (by omega),if_pos hz]
    dsimp only
    omega
   ·rw[if_neg (by omega),if_neg hz]
    dsimp only
    omega
  ·rw[if_neg (fun hh=>hc ⟨hh.1.2,hh.2⟩),if_neg (by intro hh; omega),if_neg h1,if_neg (show ¬(b0 / 32=6∧(1<n∧b1 / 64=2)) by omega),if_neg (show ¬(b0 / 16=14∧(1<n∧b1 / 64=2)∧(2<n∧b2 / 64=2)) from fun hh=>hc ⟨t1.2 hh.2.1,t2.2 hh.2.2⟩),if_neg (show ¬(b0 / 8=30∧(1<n∧b1 / 64=2)∧(2<n∧b2 / 64=2)∧(3<n∧b3 / 64=2)) by omega)]
   dsimp only
   omega
 rw[if_neg (by intro hh; omega)]
 by_cases h6:240≤b0∧b0<245
 ·by_cases hc:c1=true∧c2=true∧c3=true
  ·have a1:=t1.1 hc.1
   have a2:=t2.1 hc.2.1
   have a3:=t3.1 hc.2.2
   rw[if_pos ⟨⟨⟨⟨by omega,by omega⟩,hc.1⟩,hc.2.1⟩,hc.2.2⟩,if_neg h1,if_neg (show ¬(b0 / 32=6∧(1<n∧b1 / 64=2)) by omega),if_neg (show ¬(b0 / 16=14∧(1<n∧b1 / 64=2)∧(2<n∧b2 / 64=2)) by omega),if_pos (show (b0 / 8=30∧(1<n∧b1 / 64=2)∧(2<n∧b2 / 64=2)∧(3<n∧b3 / 64=2)) from⟨by omega,a1,a2,a3⟩)]
   have hz:((b0:Int)-240)*64+b1-128=(((b0-240)*64+(b1-128):Nat):Int):=by omega
   have hy:((((b0-240)*64+(b1-128):Nat):Int))*64+b2-128=(((b0-240)*4096+(b1-128)*64+(b2-128):Nat):Int):=by omega
   have hx:((((b0-240)*4096+(b1-128)*64+(b2-128):Nat):Int))*64+b3-128=((b0 % 8*262144+b1 % 64*4096+b2 % 64*64+b3 % 64:Nat):Int):=by omega
   rw[hz,hy,hx]
   generalize b0 % 8*262144+b1 % 64*4096+b2 % 64*64+b3 % 64=z
   by_cases hz:z ≥ 65536∧(z<55296∨57344≤z∧z≤1114111)
   ·rw[if_pos (by omega),if_pos hz]
    dsimp only
    omega
   ·rw[if_neg (by omega),if_neg hz]
    dsimp only
    omega
  ·rw[if_neg (fun hh=>hc ⟨hh.1.1.2,hh.1.2,hh.2⟩),if_neg h1,if_neg (show ¬(b0 / 32=6∧(1<n∧b1 / 64=2)) by omega),if_neg (show ¬(b0 / 16=14∧(1<n∧b1 / 64=2)∧(2<n∧b2 / 64=2)) by omega),if_neg (show ¬(b0 / 8=30∧(1<n∧b1 / 64=2)∧(2<n∧b2 / 64=2)∧(3<n∧b3 / 64=2)) from fun hh=>hc ⟨t1.2 hh.2.1,t2.2 hh.2.2.1,t3.2 hh.2.2.2⟩)]
   dsimp only
   omega
 rw[if_neg (by intro hh; omega),if_neg h1]
 repeat' split
 all_goals (dsimp only; omega)
theorem valid_pts:∀ (n:Nat) (l:List UInt8),l.length≤n→Go.Lib.validD l=(ptsR l).isSome
 |0,l,hn=>by
  have:l=[]:=zC5 (by omega)
  subst this
  rfl
 |n+1,l,hn=>by
  by_cases h0:0<l.length
  ·have hne:l≠[]:=fun e=>by rw[e]at h0; simp at h0
   rw[Go.Lib.validD_step l hne,ptsR_step l h0]
   have hl:=ptR_len l h0
   rcases pt_dec l h0 with⟨h1,h2,h3⟩|⟨h1,h2,h3,h4⟩
   ·rw[if_pos ⟨h2,h3⟩,if_pos h1]
    rfl
   ·rw[if_neg h4,if_neg h1,Option.isSome_map]
    have e:(Go.Lib.decodeL l).2=(ptR l).2.toNat:=by omega
    rw[e]
    exact valid_pts n _ (by rw[zD8]; omega)
  ·have:l=[]:=zC5 (by omega)
   subst this
   rfl
theorem St.Ok.setRow {x:St} {W i:Nat} {l:List Ce} (ok:x.Ok W) (hl:l.length=W):(x.setRow i l).Ok W:=by
 refine⟨?_,?_,ok.w1,ok.w2,?_,ok.row0,?_,ok.col0,ok.col1⟩
 ·simp only[St.setRow,List.length_set]; exact ok.h1
 ·simp only[St.setRow,List.length_set]; exact ok.h2
 ·intro q hq
  rcases List.mem_or_eq_of_mem_set hq with h|h
  ·exact ok.wid q h
  ·rw[h]; exact hl
 ·simp only[St.setRow,List.length_set]; exact ok.row1
def St.clear (W:Nat) (x:St):Option St:=if x.col<W then some {x with grid:=x.grid.set x.row.toNat (clearL (x.grid.getD x.row.toNat []) x.col.toNat (W-x.col.toNat))} else none
end Go.Proofs.YtaojjfebkldmnaaDoor
namespace Go.Ax
section
variable {P : Program} {H : AHeap} {N : Nat} {E : Env} {ds : List Deferred} {ops : Array Oper} {anc : List Nat} {d : Nat} {ty : TypeId} {pos : String} {after : Array Edge} {rest : List Oper} {i : Nat} {fps : List Fp} {Q : AAct → AHeap → Prop}
theorem genV_extV {f:FuncId} {x:Operand} {args:List Operand} {ts:Array TypeId} {v:Value} {M:List Bl} {ca:List Value} (F:List Nat) (hx:opOk P N x=true) (hv:opv E x=.func (.func f) ⟨[]⟩ ⟨ca⟩) (ha:args.all (opOk P N)=true) (hb:hasBody P f=true) (hd:d<N) (hF:∀ n∈F,H.get n≠none)
  (hc:∀ G:AHeap,G.next=H.next→(∀ n∈F,G.get n=H.get n)→CallS P f (args.map (opv E)++ca) G (.ok v) (ext G M)) (hm:∀ r∈fps,Meets (anc.getD i 0) F [] (idsV v++M.flatMap fun x=>idsL x.l) r)
  (h:wkD P ops anc rest (i+1) (⟨i,F,[],H.next,H.next+M.length⟩::fps) (mkA N (upd E d v) ds) (ext H M) Q):genV P ops anc ⟨some d,.call ⟨.value x,⟨args⟩,ts⟩,ty,pos,after,none⟩ rest i fps (mkA N E ds) H Q :=
 genV_extO (v:=v) (M:=M) F rfl hd hF (fun G h1 h2=>by
  refine opS_of (x:=.enter f (args.map (opv E)++ca)) (g:=G) ?_ (hc G h1 h2)
  simp only[aop,xCall,aevals_opv ha,aeval_opv hx,hv,zA1,zA3,callV,aInvoke,enterN,hb,if_true,zB8,zA7]) hm h
theorem genV_sl {t:TypeId} {x:Operand} {lo hi mx:Option Operand} {v:Value} (F:List Nat) (hx:opOk P N x=true) (h1:bndsOk P N lo=true) (h2:bndsOk P N hi=true) (h3:bndsOk P N mx=true) (hd:d<N) (hF:∀ n∈F,H.get n≠none)
  (hc:∀ G:AHeap,(∀ n∈F,G.get n=H.get n)→aSlice P G t (opv E x) (bnds E lo) (bnds E hi) (bnds E mx)=some (v,G)) (hm:∀ r∈fps,Meets (anc.getD i 0) F [] (idsV v++([]:List Bl).flatMap fun x=>idsL x.l) r)
  (h:wkD P ops anc rest (i+1) (⟨i,F,[],H.next,H.next⟩::fps) (mkA N (upd E d v) ds) (ext H []) Q):genV P ops anc ⟨some d,.slice t x lo hi mx,ty,pos,after,none⟩ rest i fps (mkA N E ds) H Q :=
 genV_extO (v:=v) (M:=[]) F rfl hd hF (fun G _ h4=>opS_of (x:=.value v) (g:=G) (slice_aop hx h1 h2 h3 (hc G h4)) ⟨rfl,rfl⟩) hm h
end
end Go.Ax
namespace Go.Proofs.YtaojjfebkldmnaaDoor
open Go.Ax
theorem blank39_c (H:AHeap) (w:Nat) (h1:1≤w) (hw:w≤1000):CallS Tryd.prog 46 [.int .i64 (w:Int)] H (.ok (.slice (some ⟨H.next,0,some 0⟩) w w)) (ext H [⟨55,false,csOf (List.replicate w Ce.sp)⟩]):=by
 obtain⟨b,hb⟩:∃ b,H.next=b:=⟨_,rfl⟩
 refine callS_one (fun wf hsc=>?_) (fun _ _=>csOf_sc _ _)
 have hok:H.base≤H.next:=wf.base
 have hbase:H.base≤b:=hb▸wf.base
 refine callE_fn mixed Tryd.func46 rfl Tryd.ntmps46 (zA9 rfl) ?_
 simp (maxDischargeDepth:=6) only[hb,hbase,ruW,putL,Nat.reduceLeDiff,xF,ruU,entryE,Nat.reduceLT,Nat.reduceAdd,Nat.reduceMul,Nat.reduceEqDiff]
 refine (repeat_c w h1 hw Ce.sp (b+0) (some 0) (ext H [⟨55,false,Ce.sp.cells⟩]) (by rw[bk_at hb (by simp)]; rfl)).to ?_
 simp (maxDischargeDepth:=6) only[hb,Tryd.results46,ruW,putL,Nat.reduceLeDiff,xF,ruU,entryE,Nat.reduceLT,Nat.reduceAdd,Nat.reduceMul,Nat.reduceEqDiff]
 exact⟨b+1,rfl,by omega,by rw[bk_at hb (by simp)]; rfl,Mod.ext hok⟩
theorem scbL_sub {N:Nat} {L M:List Value} (h:scbL N L=true) (hs:∀ v∈M,v∈L):scbL N M=true:=scbL_iff.2 fun v hv=>scbL_iff.1 h v (hs v hv)
theorem one_sub {L M:List Value} (h:L.all one=true) (hs:∀ v∈M,v∈L):M.all one=true:=zC0.2 fun v hv=>zC0.1 h v (hs v hv)
theorem two_c (H:AHeap) (u1 u2:Value) (L1 L2:List Value) (n x:Nat) (hx:H.next=x) (P1:Part H u1 L1) (P2:Part H u2 L2) (h1:L1.all one=true) (h2:L2.all one=true) (s1:scbL H.next L1=true) (s2:scbL H.next L2=true) (hn:(L1++L2).length=n) (h0:0<n) (hn1:n≤10000) :
  CallS Tryd.prog 109 [.slice (some ⟨x+0,0,some 0⟩) 2 2] (ext H [⟨22,false,[u1,u2]⟩]) (.ok (.slice (some ⟨x+1,0,none⟩) n n)) (ext H [⟨22,false,[u1,u2]⟩,⟨56,true,L1++L2⟩]):=by
 have hnx:(ext H [⟨22,false,[u1,u2]⟩]).next=x+1:=by rw[ext_next,hx]; rfl
 have:=concat_c (ext H [⟨22,false,[u1,u2]⟩]) (x+0) (some 0) 2 22 false [(u1,L1),(u2,L2)] n (by rw[bk_at hx (by simp)]; rfl) (by omega) (fun q hq=>?_) (by simpa using hn) h0 hn1 (by simp)
 ·rw[hnx]at this
  simpa[ext_append]using this
 ·have le:H.next≤(ext H [⟨22,false,[u1,u2]⟩]).next:=by omega
  simp only[zB2,List.not_mem_nil,or_false]at hq
  rcases hq with rfl|rfl
  ·exact⟨P1.ext,h1,scbL_mono le _ s1⟩
  ·exact⟨P2.ext,h2,scbL_mono le _ s2⟩
theorem remove1_c (H:AHeap) (u1 u2:Value) (L1 L2:List Value) (b:Nat) (o:Op) (P1:Part H u1 L1) (P2:Part H u2 L2) (h1:L1.all one=true) (h2:L2.all one=true) (s1:scbL H.next L1=true) (s2:scbL H.next L2=true) (hb:bk H b=some ⟨47,false,o.cells⟩) (hbl:b<H.next)
  (k:Nat) (hk:o.n=(k:Int)) (hk0:0<k) (hk1:k≤L1.length) (h2l:L2.length=k) (hl:L1.length≤1000) :
  CallS Tryd.prog 108 [u1,u2,.pointer (some ⟨b,0,none⟩)] H (.ok (.slice (some ⟨H.next,0,none⟩) L1.length L1.length)) (ext H [⟨56,true,mid true L1 L2 k⟩]):=by
 obtain⟨x,hx⟩:∃ x,H.next=x:=⟨_,rfl⟩
 obtain⟨u3,hsl,P3,_⟩:=P1.slice (by intro e; rw[e]at hk1; simp at hk1; omega) (x:=some (.int .i64 (k:Int))) (y:=none) (lo:=k) (hi:=L1.length) (by simp[bound]) rfl hk1 (zA5 _)
 rw[zF7]at P3
 have hmid:mid true L1 L2 k=[(u3,L1.drop k),(u2,L2)].flatMap Prod.snd:=by simp[mid]
 refine callS_one (fun wf hsc=>?_) (fun _ _=>?_)
 ·rw[hx]
  rw[hx]at hbl
  have hok:H.base≤H.next:=wf.base
  have hbx:H.base≤x:=hx▸hok
  have sc1:=P3.sc
  have sc2:=P2.sc
  have tw:=two_c H u3 u2 (L1.drop k) L2 L1.length x hx P3 P2 (one_sub h1 fun v hv=>zE5 hv) h2 (scbL_sub s1 fun v hv=>zE5 hv) s2 (by simp only[zB6,zD8]; omega) (by omega) (by omega)
  rw[hx]at sc1 sc2
  obtain⟨a3,c3,e3⟩:=P3.len
  obtain⟨a2,c2,e2⟩:=P2.len
  subst e3 e2
  refine callE_fn mixed Tryd.func108 rfl Tryd.ntmps108 (zA9 rfl) ?_
  simp (maxDischargeDepth:=6) only[hx,hbl,hb,Op.cells,hk,hsl (ext H []) (fun _ _=>rfl),sc1,sc2,hbx,ruW,putL,Nat.reduceLeDiff,xF,ruU,entryE,Nat.reduceLT,Nat.reduceAdd,Nat.reduceMul,Nat.reduceEqDiff]
  refine tw.to ?_
  simp (maxDischargeDepth:=6) only[hx,Tryd.results108,ruW,putL,Nat.reduceLeDiff,xF,ruU,entryE,Nat.reduceLT,Nat.reduceAdd,Nat.reduceMul,Nat.reduceEqDiff]
  exact⟨x+1,rfl,by omega,by rw[bk_at hx (by simp)]; rfl,Mod.ext hok⟩
 ·exact scbL_append (scbL_sub s1 fun v hv=>zE5 hv) s2
theorem insert1_c (H:AHeap) (u1 u2:Value) (L1 L2:List Value) (b:Nat) (o:Op) (P1:Part H u1 L1) (P2:Part H u2 L2) (h1:L1.all one=true) (h2:L2.all one=true) (s1:scbL H.next L1=true) (s2:scbL H.next L2=true) (hb:bk H b=some ⟨47,false,o.cells⟩) (hbl:b<H.next)
  (k:Nat) (hk:o.n=(k:Int)) (hk0:0<k) (hk1:k≤L1.length) (h2l:L2.length=k) (hl:L1.length≤1000) :
  CallS Tryd.prog 110 [u1,u2,.pointer (some ⟨b,0,none⟩)] H (.ok (.slice (some ⟨H.next,0,none⟩) L1.length L1.length)) (ext H [⟨56,true,mid false L1 L2 k⟩]):=by
 obtain⟨x,hx⟩:∃ x,H.next=x:=⟨_,rfl⟩
 obtain⟨u3,hsl,P3,_⟩:=P1.slice (by intro e; rw[e]at hk1; simp at hk1; omega) (x:=none) (y:=some (.int .i64 ((L1.length-k:Nat):Int))) (lo:=0) (hi:=L1.length-k) rfl (by simp only[bound]; rw[if_pos (by omega)]; simp) (zB0 _) (by omega)
 rw[zD3]at P3
 have hwr:IntKind.i64.wrap ((L1.length:Int)-(k:Int))=((L1.length-k:Nat):Int):=(wrap_sm (by omega) (by omega)).trans (by omega)
 have hmid:mid false L1 L2 k=[(u2,L2),(u3,L1.take (L1.length-k))].flatMap Prod.snd:=by simp[mid]
 refine callS_one (fun wf hsc=>?_) (fun _ _=>?_)
 ·rw[hx]
  rw[hx]at hbl
  have hok:H.base≤H.next:=wf.base
  have hbx:H.base≤x:=hx▸hok
  have sc1:=P3.sc
  have sc2:=P2.sc
  have tw:=two_c H u2 u3 L2 (L1.take (L1.length-k)) L1.length x hx P2 P3 h2 (one_sub h1 fun v hv=>zE4 hv) s2 (scbL_sub s1 fun v hv=>zE4 hv) (by simp only[zB6,zF6]; omega) (by omega) (by omega)
  rw[hx]at sc1 sc2
  obtain⟨a1,c1,e1⟩:=P1.len
  obtain⟨a3,c3,e3⟩:=P3.len
  obtain⟨a2,c2,e2⟩:=P2.len
  subst e1 e3 e2
  refine callE_fn mixed Tryd.func110 rfl Tryd.ntmps110 (zA9 rfl) ?_
  simp (maxDischargeDepth:=6) only[hx,hbl,hb,Op.cells,hk,hwr,hsl (ext H []) (fun _ _=>rfl),sc1,sc2,hbx,ruW,putL,Nat.reduceLeDiff,xF,ruU,entryE,Nat.reduceLT,Nat.reduceAdd,Nat.reduceMul,Nat.reduceEqDiff]
  refine tw.to ?_
  simp (maxDischargeDepth:=6) only[hx,Tryd.results110,ruW,putL,Nat.reduceLeDiff,xF,ruU,entryE,Nat.reduceLT,Nat.reduceAdd,Nat.reduceMul,Nat.reduceEqDiff]
  exact⟨x+1,rfl,by omega,by rw[bk_at hx (by simp)]; rfl,Mod.ext hok⟩
 ·exact scbL_append s2 (scbL_sub s1 fun v hv=>zE4 hv)
def St.roll (W:Nat) (x:St) (o:Op) (up:Bool):Option St :=
 if (decide (0≤o.row)&&decide (o.row≤o.col)&&decide (o.col<x.grid.length)&&decide (1≤o.n)&&decide (o.n≤o.col-o.row+1))=true then
   some {x with grid:=rollR W x.grid o.row.toNat o.col.toNat o.n.toNat up} else none
theorem scrolls_c (N:Nat) (H:AHeap) (p W:Nat) (v:Value) (rvs:List Value) (x:St) (o:Op) (up:Bool) (f b0:Nat) (hb:hasBody Tryd.prog f=true) (a:StAt 76 N H p v rvs x) (sl:Slc v) (hok:H.base≤H.next) (ok:x.Ok W)
  (ho:bk H b0=some ⟨47,false,o.cells⟩) (hob:b0<H.next)
  (hf:∀ (G:AHeap) (u1 u2:Value) (L1 L2:List Value),Part G u1 L1→Part G u2 L2→L1.all one=true→L2.all one=true→scbL G.next L1=true→scbL G.next L2=true→bk G b0=some ⟨47,false,o.cells⟩→b0<G.next →
   ∀ k:Nat,o.n=(k:Int)→0<k→k≤L1.length→L2.length=k→L1.length≤1000→CallS Tryd.prog f [u1,u2,.pointer (some ⟨b0,0,none⟩)] G (.ok (.slice (some ⟨G.next,0,none⟩) L1.length L1.length)) (ext G [⟨56,true,mid up L1 L2 k⟩])) :
  CallA Tryd.prog 107 [.pointer (some ⟨p,0,none⟩),o.val,.func (.func f) ⟨[]⟩ ⟨[.pointer (some ⟨b0,0,none⟩)]⟩] H (StepR 76 N p (x.roll W o up) H):=by
 obtain⟨b,hbn⟩:∃ b,H.next=b:=⟨_,rfl⟩
 have hpl:=a.lt
 rw[hbn]at hpl hob
 have hcell:=a.cell
 simp only[St.cells]at hcell
 have m0:Mod [] H (ext H [⟨47,false,o.cells⟩]):=Mod.ext hok
 have aX:=a.mod0 m0
 obtain⟨d1,h1⟩:∃ d,decide (0≤o.row)=d:=⟨_,rfl⟩
 obtain⟨d2,h2⟩:∃ d,decide (o.row≤o.col)=d:=⟨_,rfl⟩
 obtain⟨d3,h3⟩:∃ d,decide (o.col<x.grid.length)=d:=⟨_,rfl⟩
 obtain⟨d4,h4⟩:∃ d,decide (1≤o.n)=d:=⟨_,rfl⟩
 obtain⟨d5,h5⟩:∃ d,decide (o.n≤o.col-o.row+1)=d:=⟨_,rfl⟩
 obtain⟨mb,hb',ev⟩:=id sl
 have ehb:hb'=x.grid.length:=by
  rcases aX.own.at_ with⟨h,_⟩|⟨_,_,_,_,h,_⟩
  ·have:=ok.h1; rw[h]at this; simp at this
  ·rw[ev]at h; cases h; rfl
 subst ehb
 unfold St.roll
 rw[h1,h2,h3,h4,h5]
 refine callE_fn mixed Tryd.func107 rfl Tryd.ntmps107 (zA9 rfl) ?_
 simp (maxDischargeDepth:=6) only[Op.val,Op.cells,hbn,ruW,putL,Nat.reduceLeDiff,xF,ruU,entryE,Nat.reduceLT,Nat.reduceAdd,Nat.reduceMul,Nat.reduceEqDiff]
 by_cases hall:(d1&&d2&&d3&&d4&&d5)=true
 ·rw[if_pos hall]
  simp only[zA4]at hall
  obtain⟨⟨⟨⟨rfl,rfl⟩,rfl⟩,rfl⟩,rfl⟩:=hall
  have i1:=of_decide_eq_true h1
  have i2:=of_decide_eq_true h2
  have i3:=of_decide_eq_true h3
  have i4:=of_decide_eq_true h4
  have i5:=of_decide_eq_true h5
  have hh:=ok.h2
  have hw1:IntKind.i64.wrap (o.col-o.row)=o.col-o.row:=wrap_sm (by omega) (by omega)
  have hw2:IntKind.i64.wrap (o.col-o.row+1)=o.col-o.row+1:=wrap_sm (by omega) (by omega)
  rw[ev]at hcell
  refine w_drawB [] [(3,10),(10,17),(21,28),(26,33)] (by kernel_rfl) rfl (by kernel_rfl) fun ops anc hA hG=>?_
  simp only[all2_cons]at hG
  simp (maxDischargeDepth:=6) only[hbn,hpl,hcell,h1,h2,h3,h4,h5,hw1,hw2,hG,ruD,ruW,putL,Nat.reduceLeDiff,xF,ruU,entryE,Nat.reduceLT,Nat.reduceAdd,Nat.reduceMul,Nat.reduceEqDiff]
  refine genV_quiet (v:=.tuple ⟨[]⟩) [] rfl rfl (zA9 rfl) (by simp) (fun G hn hg=>needs_t G) (by simp[Meets]) ?_
  simp (maxDischargeDepth:=6) only[hbn,hpl,hcell,ruD,ruW,putL,Nat.reduceLeDiff,xF,ruU,entryE,Nat.reduceLT,Nat.reduceAdd,Nat.reduceMul,Nat.reduceEqDiff]
  refine w_env fun E hE=>?_
  have g0:E 0=.pointer (some ⟨p,0,none⟩):=by rw[hE]; simp only[ruU,entryE,Nat.reduceLT,Nat.reduceAdd,Nat.reduceMul,Nat.reduceEqDiff]
  have g2:E 2=.func (.func f) ⟨[]⟩ ⟨[.pointer (some ⟨b0,0,none⟩)]⟩:=by rw[hE]; simp only[ruU,entryE,Nat.reduceLT,Nat.reduceAdd,Nat.reduceMul,Nat.reduceEqDiff]
  have g4:E 4=.pointer (some ⟨b+0,0,none⟩):=by rw[hE]; simp only[ruU,entryE,Nat.reduceLT,Nat.reduceAdd,Nat.reduceMul,Nat.reduceEqDiff]
  have g6:E 6=.slice none 0 0:=by rw[hE]; simp only[ruU,entryE,Nat.reduceLT,Nat.reduceAdd,Nat.reduceMul,Nat.reduceEqDiff]
  have g46:E 46=.int .i64 o.n:=by rw[hE]; simp only[ruU,entryE,Nat.reduceLT,Nat.reduceAdd,Nat.reduceMul,Nat.reduceEqDiff]
  have g47:E 47=.int .i64 ((0:Nat):Int):=by rw[hE]; (simp only[ruU,entryE,Nat.reduceLT,Nat.reduceAdd,Nat.reduceMul,Nat.reduceEqDiff]<;>rfl)
  clear hE
  obtain⟨X,hX⟩:∃ X,ext H [⟨47,false,o.cells⟩]=X:=⟨_,rfl⟩
  have hXo:bk X (b+0)=some ⟨47,false,o.cells⟩:=by rw[←hX,bk_at hbn (by simp)]; rfl
  have hXn:X.next=b+1:=by rw[←hX,ext_next,hbn]; rfl
  have hXb:bk X b0=some ⟨47,false,o.cells⟩:=(m0.bk (by omega) (by simp)).trans ho |> fun h=>by rw[←hX]; exact h
  rw[show ext H [⟨47,false,o.cells⟩]=X from hX]at aX m0
  simp only[Op.cells]at hX
  rw[hX]
  have okX:=m0.ok hok
  obtain⟨n,hn'⟩:∃ n:Nat,o.n=n:=⟨o.n.toNat,by omega⟩
  rw[hn']at g46
  refine blockC_meet (fun E' Y=>Mod [] X Y∧E' 0=.pointer (some ⟨p,0,none⟩)∧E' 2=.func (.func f) ⟨[]⟩ ⟨[.pointer (some ⟨b0,0,none⟩)]⟩∧E' 4=.pointer (some ⟨b+0,0,none⟩)∧∃ u fr,E' 6=u∧Grow (b+1) Y u fr (List.replicate n (List.replicate W Ce.sp))) ?_ ?_
  ·rw[show X=ext X [] from rfl]
   refine w_loop (fun (q:Nat × Value × List Value) E' Y=>Mod [] X Y∧E' 0=.pointer (some ⟨p,0,none⟩)∧E' 2=.func (.func f) ⟨[]⟩ ⟨[.pointer (some ⟨b0,0,none⟩)]⟩∧E' 4=.pointer (some ⟨b+0,0,none⟩)∧E' 6=q.2.1∧E' 46=.int .i64 (n:Int)∧E' 47=.int .i64 (q.1:Int)∧q.1≤n∧Grow (b+1) Y q.2.1 q.2.2 (List.replicate q.1 (List.replicate W Ce.sp))) (fun q=>n-q.1) (0,.slice none 0 0,[])
    ⟨Mod.refl,g0,g2,g4,g6,g46,g47,zB0 _,Grow.nil⟩ ?_
   clear g0 g2 g4 g6 g46 g47
   rintro⟨k,u,fr⟩ E Y ⟨mY,g0,g2,g4,g6,g46,g47,hk,gr⟩
   simp only at g6 g47 hk gr
   rw[show Y=ext Y [] from rfl]
   by_cases hkn:k=n
   ·have hc:decide ((k:Int)<(n:Int))=false:=by simp[hkn]
    simp (maxDischargeDepth:=6) only[g46,g47,hc,ruW,putL,Nat.reduceLeDiff,xF,ruU,entryE,Nat.reduceLT,Nat.reduceAdd,Nat.reduceMul,Nat.reduceEqDiff]
    rw[hkn]at gr
    exact joinR_normal ⟨mY,by simp only[g0,ruU,entryE,Nat.reduceLT,Nat.reduceAdd,Nat.reduceMul,Nat.reduceEqDiff],by simp only[g2,ruU,entryE,Nat.reduceLT,Nat.reduceAdd,Nat.reduceMul,Nat.reduceEqDiff],by simp only[g4,ruU,entryE,Nat.reduceLT,Nat.reduceAdd,Nat.reduceMul,Nat.reduceEqDiff],u,fr,by simp only[g6,ruU,entryE,Nat.reduceLT,Nat.reduceAdd,Nat.reduceMul,Nat.reduceEqDiff],gr⟩
   ·have hc:decide ((k:Int)<(n:Int))=true:=decide_eq_true (by omega)
    have okY:=mY.ok okX
    have aY:=aX.mod0 mY
    obtain⟨_,_,_,_,hwd⟩:=dwidth_c aY ok
    have hwY:CallS Tryd.prog 50 [.pointer (some ⟨p,0,none⟩)] (ext Y []) (.ok (.int .i64 W)) (ext Y []):=hwd Y rfl (fun _ _=>rfl)
    obtain⟨y,hy⟩:∃ y,Y.next=y:=⟨_,rfl⟩
    have hyb:Y.base≤y:=hy▸okY
    have hby:b+1≤y:=by have:=mY.next; omega
    obtain⟨rv,hrv⟩:∃ rv,rv=Value.slice (some ⟨y+0,0,some 0⟩) W W:=⟨_,rfl⟩
    obtain⟨Y2,hY2⟩:∃ Y2,ext Y [⟨55,false,csOf (List.replicate W Ce.sp)⟩,⟨56,false,[rv]⟩]=Y2:=⟨_,rfl⟩
    have mY2:Mod [] Y Y2:=hY2▸Mod.ext okY
    have nY2:Y2.next=y+2:=by rw[←hY2,ext_next,hy]; rfl
    have b1:bk Y2 (y+0)=some ⟨55,false,csOf (List.replicate W Ce.sp)⟩:=by rw[←hY2,bk_at hy (by simp)]; rfl
    have b2:bk Y2 (y+1)=some ⟨56,false,[rv]⟩:=by rw[←hY2,bk_at hy (by simp)]; rfl
    have hone:one rv=true:=by rw[hrv]; rfl
    have hlr:(List.replicate k (List.replicate W Ce.sp)).length=k:=List.length_replicate
    have vs:=gr.at_.of (G:=Y2) mY2.next (fun q hq=>mY2.get q (gr.at_.ne q hq).2 (by simp))
    rw[hlr]at vs
    have hscr:scbL Y2.next (fr++[rv])=true:=scbL_append (scbL_mono mY2.next _ gr.sc) (by rw[hrv]; simp only[scbL,scb,Bool.and_true]; exact blt_of (by omega))
    obtain⟨Z,hap,hvs,hmd,hzn,_⟩:=vs_app (P:=Tryd.prog) (H:=Y2) (st:=22) (xt:=22) (e:=56) (sz:=1) (by1:=24) (z:=.slice none 0 0) (n:=y+1) (off:=0) (cnt2:=1) (cap:=1) (s:=some 0) (x:=Y2.next) (ws:=[rv]) (b:=⟨56,false,[rv]⟩)
     uRows szCells byCells zr rfl (by kernel_rfl) vs (rk_of b2) (by simp) rfl (by simp[hone]) (by decide) (smallC (by omega)) rfl hscr
    have mZ:=hmd (mY2.ok okY)
    rw[nY2]at hap hvs hzn
    have hbz:bk Z (y+2)=some ⟨56,true,fr++[rv]⟩:=by
     obtain⟨_,_,⟨h0,_⟩|⟨_,n,e,hbn,_⟩⟩:=hvs
     ·omega
     ·cases e; exact hbn
    have gr2:=gr.push (rv:=rv) (l:=List.replicate W Ce.sp) (Y:=Y2) (Z:=Z) mY2 (by omega) ⟨y+0,false,0,false,by rw[hrv,List.length_replicate]; rfl,b1,by omega,by omega⟩ (fun q hq=>by rw[hrv]at hq; simp only[idsV,zA8]at hq; omega) hone mZ (by rw[nY2]; exact hbz) (by omega)
    rw[nY2,hlr,show List.replicate k (List.replicate W Ce.sp)++[List.replicate W Ce.sp]=List.replicate (k+1) (List.replicate W Ce.sp) from (List.replicate_succ' ..).symm]at gr2
    simp (maxDischargeDepth:=6) only[g0,g6,g46,g47,hc,ruW,putL,Nat.reduceLeDiff,xF,ruU,entryE,Nat.reduceLT,Nat.reduceAdd,Nat.reduceMul,Nat.reduceEqDiff]
    refine hwY.to ?_
    simp (maxDischargeDepth:=6) only[g0,g6,g46,g47,hy,ruW,putL,Nat.reduceLeDiff,xF,ruU,entryE,Nat.reduceLT,Nat.reduceAdd,Nat.reduceMul,Nat.reduceEqDiff]
    refine (blank39_c (ext Y []) W ok.w1 ok.w2).to ?_
    simp (maxDischargeDepth:=6) only[hy,hyb,ruW,putL,Nat.reduceLeDiff,xF,ruU,entryE,Nat.reduceLT,Nat.reduceAdd,Nat.reduceMul,Nat.reduceEqDiff]
    rw[hrv]at hY2
    rw[hY2]
    simp (maxDischargeDepth:=6) only[hap,g47,wrap_succ (show k<1000000 by omega),ruW,putL,Nat.reduceLeDiff,xF,ruU,entryE,Nat.reduceLT,Nat.reduceAdd,Nat.reduceMul,Nat.reduceEqDiff]
    refine loopC_next ⟨(k+1,.slice (some ⟨y+2,0,none⟩) (k+1) (k+1),fr++[rv]),by simp only; omega,(mY.trans mY2).step mZ okX (fun q hq=>.inr (by have:=(gr.apart q hq).1; omega)),?_,?_,?_,?_,?_,?_,by simp only; omega,gr2⟩
    ·simp only[g0,ruU,entryE,Nat.reduceLT,Nat.reduceAdd,Nat.reduceMul,Nat.reduceEqDiff]
    ·simp only[g2,ruU,entryE,Nat.reduceLT,Nat.reduceAdd,Nat.reduceMul,Nat.reduceEqDiff]
    ·simp only[g4,ruU,entryE,Nat.reduceLT,Nat.reduceAdd,Nat.reduceMul,Nat.reduceEqDiff]
    ·simp only[ruU,entryE,Nat.reduceLT,Nat.reduceAdd,Nat.reduceMul,Nat.reduceEqDiff]
    ·simp only[g46,ruU,entryE,Nat.reduceLT,Nat.reduceAdd,Nat.reduceMul,Nat.reduceEqDiff]
    ·simp only[ruU,entryE,Nat.reduceLT,Nat.reduceAdd,Nat.reduceMul,Nat.reduceEqDiff]
  ·clear g0 g2 g4 g6 g46 g47
   rintro E Y ⟨mY,g0,g2,g4,u,fr,g6,gr⟩
   have okY:=mY.ok okX
   have aY:=aX.mod0 mY
   obtain⟨y,hy⟩:∃ y,Y.next=y:=⟨_,rfl⟩
   have hyb:Y.base≤y:=hy▸okY
   have hby:b+1≤y:=by have:=mY.next; omega
   have hpY:p<y:=by omega
   have hboY:b+0<y:=by omega
   have hb0Y:b0<y:=by omega
   have kp:=aY.cell
   simp only[St.cells]at kp
   rw[ev]at kp
   have kb:bk Y (b+0)=some ⟨47,false,o.cells⟩:=(mY.bk (by omega) (by simp)).trans hXo
   have kb0:bk Y b0=some ⟨47,false,o.cells⟩:=(mY.bk (by omega) (by simp)).trans hXb
   obtain⟨om,hbm,hmy⟩:∃ om,bk Y mb=some ⟨56,om,rvs⟩∧mb<y:=by
    rcases aY.own.at_ with⟨h,_⟩|⟨m,s,c,om,e,h1,_,h2,_⟩
    ·rw[h]at i3; simp at i3; omega
    ·rw[ev]at e; cases e; exact⟨om,h1,by omega⟩
   have hmp:mb≠p:=fun e=>a.apart (zD4 _ (by rw[ev,e]; simp[idsV]))
   have hlr:rvs.length=x.grid.length:=a.own.len
   obtain⟨top,htop⟩:∃ k:Nat,o.row=k:=⟨o.row.toNat,by omega⟩
   obtain⟨bot,hbot⟩:∃ k:Nat,o.col=k:=⟨o.col.toNat,by omega⟩
   have hvone:rvs.all one=true:=zC0.2 fun rv hrv=>by
    obtain⟨i,hi⟩:=List.getElem?_of_mem hrv
    obtain⟨l,_,n,s,c,o',rfl,_⟩:=aY.own.lOf hi
    rfl
   have hvsc:scbL Y.next rvs=true:=scbL_iff.2 fun rv hrv=>by
    obtain⟨i,hi⟩:=List.getElem?_of_mem hrv
    obtain⟨l,_,n,s,c,o',rfl,_,_,h⟩:=aY.own.lOf hi
    exact blt_of h
   have hne:rvs≠[]:=fun e=>by rw[e]at hlr; simp at hlr; omega
   have PV:Part Y v rvs:=⟨some ⟨mb,0,none⟩,x.grid.length,by rw[ev,hlr],by rw[ev]; exact blt_of (show mb<Y.next by omega),.inr ⟨zD2 hlr,mb,0,none,_,rfl,.inl rfl,hbm,by omega,by simp,by simp⟩⟩
   obtain⟨uA,slA,PA,iA⟩:=PV.slice hne (x:=none) (y:=some (.int .i64 (top:Int))) (lo:=0) (hi:=top) rfl (by simp[bound]) (zB0 _) (by omega)
   obtain⟨uB,slB,PB,iB⟩:=PV.slice hne (x:=some (.int .i64 (top:Int))) (y:=some (.int .i64 ((bot+1:Nat):Int))) (lo:=top) (hi:=bot+1) (by simp[bound]) (by simp only[bound]; rw[if_pos (by omega)]; simp) (by omega) (by omega)
   obtain⟨uC,slC,PC,iC⟩:=PV.slice hne (x:=some (.int .i64 ((bot+1:Nat):Int))) (y:=none) (lo:=bot+1) (hi:=rvs.length) (by simp only[bound]; rw[if_pos (by omega)]; simp) rfl (by omega) (zA5 _)
   rw[zD3]at PA
   rw[zF7]at PC
   rw[show (rvs.take (bot+1)).drop top=part rvs top bot from rfl]at PB
   have hwb:IntKind.i64.wrap ((bot:Int)+1)=((bot+1:Nat):Int):=wrap_succ (by omega)
   rw[ev]at slA slB slC iA iB iC
   have iv:idsV (.slice (some ⟨mb,0,none⟩) x.grid.length x.grid.length)=[mb]:=rfl
   rw[iv]at iA iB iC
   have hgl:(List.replicate n (List.replicate W Ce.sp)).length=n:=List.length_replicate
   obtain⟨hu1,hu2,⟨hu0,_⟩|⟨hu0,nu,eu,kbu,hnu⟩⟩:=gr.at_
   ·omega
   rw[hgl]at eu hu1
   subst eu
   have PU:Part Y (.slice (some ⟨nu,0,none⟩) n n) fr:=⟨_,_,by rw[show fr.length=n by omega],blt_of hnu,.inr ⟨by omega,nu,0,none,_,rfl,.inl rfl,kbu,hnu,by simp,by simp⟩⟩
   have hplen:=part_len (g:=rvs) (top:=top) (bot:=bot) (by omega)
   rw[show Y=ext Y [] from rfl]
   refine w_drawB [(32,8),(32,22),(32,31),(33,32),(33,22),(37,5),(37,8),(37,14),(37,20),(37,22),(37,27),(37,31),(37,32),(37,33)] [] (by kernel_rfl) (by kernel_rfl) rfl fun ops anc hA hG=>?_
   simp only[all2_cons]at hA
   simp only[htop,hbot,Op.cells]at kb
   simp (maxDischargeDepth:=6) only[g0,g2,g4,g6,hy,hyb,hpY,hboY,kp,kb,wd_slice,hA,ruD,ruW,putL,Nat.reduceLeDiff,xF,ruU,entryE,Nat.reduceLT,Nat.reduceAdd,Nat.reduceMul,Nat.reduceEqDiff]
   have hF1:∀ q∈[mb],(ext Y []).get q≠none:=fun q hq=>by rw[zA8.1 hq]; exact bk_ne hbm
   refine genV_sl (v:=uA) [mb] rfl rfl rfl rfl (zA9 rfl) hF1 (fun G hG=>by simp only[bnds_none,bnds_some,ruU,entryE,Nat.reduceLT,Nat.reduceAdd,Nat.reduceMul,Nat.reduceEqDiff]; exact slA G (fun q hq=>hG q hq)) (by simp[Meets]) ?_
   simp (maxDischargeDepth:=6) only[g0,g2,g4,g6,hy,hyb,hpY,hboY,kp,kb,hwb,wd_slice,hA,ruD,ruW,putL,Nat.reduceLeDiff,xF,ruU,entryE,Nat.reduceLT,Nat.reduceAdd,Nat.reduceMul,Nat.reduceEqDiff]
   refine genV_sl (v:=uB) [mb] rfl rfl rfl rfl (zA9 rfl) hF1 (fun G hG=>by simp only[bnds_none,bnds_some,ruU,entryE,Nat.reduceLT,Nat.reduceAdd,Nat.reduceMul,Nat.reduceEqDiff]; exact slB G (fun q hq=>hG q hq)) (by simp[Meets]) ?_
   simp (maxDischargeDepth:=6) only[g0,g2,g4,g6,hy,hyb,hpY,hboY,kp,kb,hwb,wd_slice,hA,ruD,ruW,putL,Nat.reduceLeDiff,xF,ruU,entryE,Nat.reduceLT,Nat.reduceAdd,Nat.reduceMul,Nat.reduceEqDiff]
   have hfr1:fr.all one=true:=hu2
   have hF2:∀ q∈[mb,nu,b0],(ext Y []).get q≠none:=fun q hq=>by
    simp only[zB2,List.not_mem_nil,or_false]at hq
    rcases hq with rfl|rfl|rfl
    ·exact bk_ne hbm
    ·exact bk_ne kbu
    ·exact bk_ne kb0
   obtain⟨lb,hlb⟩:∃ lb,(part rvs top bot).length=lb:=⟨_,rfl⟩
   refine genV_extV (f:=f) (v:=.slice (some ⟨y,0,none⟩) lb lb) (M:=[⟨56,true,mid up (part rvs top bot) fr n⟩]) (ca:=[.pointer (some ⟨b0,0,none⟩)]) [mb,nu,b0] rfl (by simp only[ruU,entryE,Nat.reduceLT,Nat.reduceAdd,Nat.reduceMul,Nat.reduceEqDiff]) rfl hb (zA9 rfl) hF2 (fun G hn hG=>?_) (by simp[Meets]) ?_
   ·replace hn:G.next=Y.next:=hn
    have:=hf G uB (.slice (some ⟨nu,0,none⟩) n n) (part rvs top bot) fr (PB.of (by omega) fun q hq=>hG q (by have:=iB q hq; simp only[zA8]at this; simp[this])) (PU.of (by omega) fun q hq=>hG q (by simp only[idsV,zA8]at hq; simp[hq])) (one_sub hvone fun z hz=>zE4 (zE5 hz)) hfr1 (by rw[hn]; exact scbL_sub hvsc fun z hz=>zE4 (zE5 hz)) (by rw[hn]; exact gr.sc) ((bk_get (hG b0 (by simp))).trans kb0) (by omega) n hn' (by omega) (by omega) (by omega) (by omega)
    rw[hlb,hn,hy]at this
    simp only[ruU,entryE,Nat.reduceLT,Nat.reduceAdd,Nat.reduceMul,Nat.reduceEqDiff]
    exact this
   simp (maxDischargeDepth:=6) only[g0,g2,g4,g6,hy,hyb,hpY,hboY,kp,kb,hwb,wd_slice,hA,ruD,ruW,putL,Nat.reduceLeDiff,xF,ruU,entryE,Nat.reduceLT,Nat.reduceAdd,Nat.reduceMul,Nat.reduceEqDiff]
   refine⟨.inr (fun q hq=>by simp only[idsV,zA8]at hq; omega),?_⟩
   have hmb1:(ext Y [⟨56,true,mid up (part rvs top bot) fr n⟩]).get mb=Y.get mb:=ext_get_old (by omega)
   have hF3:∀ q∈[mb],(ext Y [⟨56,true,mid up (part rvs top bot) fr n⟩]).get q≠none:=fun q hq=>by rw[zA8.1 hq,hmb1]; exact bk_ne hbm
   refine genV_sl (v:=uC) [mb] rfl rfl rfl rfl (zA9 rfl) hF3 (fun G hG=>by simp only[bnds_none,bnds_some,ruU,entryE,Nat.reduceLT,Nat.reduceAdd,Nat.reduceMul,Nat.reduceEqDiff]; exact slC G (fun q hq=>by rw[hG q hq,zA8.1 hq,hmb1])) ?_ ?_
   ·simp only[meets_cons,meets_eq,meets_newer,meets_nil,nmem_one,nmem_nil,nmem_cons,and_true,implies_true,or_true,zA8,List.flatMap_nil,zD0]
    refine⟨.inr (by simp),.inr (by simp),.inr ⟨by simp,trivial,fun _=>⟨fun q hq=>.inl (by omega),fun q hq=>.inl (by have:=iC q hq; simp only[zA8]at this; omega)⟩⟩,?_⟩
    simp[Meets]
   obtain⟨aA,cA,eA⟩:=PA.len
   obtain⟨aC,cC,eC⟩:=PC.len
   have scA:=PA.sc
   have scC:=PC.sc
   rw[hy]at scA scC
   have iA':=iA
   have iC':=iC
   rw[eA]at scA iA'
   rw[eC]at scC iC'
   have hy01:y<y+1:=zC6 y
   simp (maxDischargeDepth:=6) only[g0,g2,g4,g6,hy,hyb,hpY,hboY,kp,kb,hwb,wd_slice,eA,eC,scA,scC,hy01,hA,ruD,ruW,putL,Nat.reduceLeDiff,xF,ruU,entryE,Nat.reduceLT,Nat.reduceAdd,Nat.reduceMul,Nat.reduceEqDiff]
   rw[←eA,←eC]
   have hmidl:(mid up (part rvs top bot) fr n).length=lb:=by rw[mid_len (by omega) (by omega),hlb]
   have hgln:(glue up rvs fr top bot n).length=x.grid.length:=by rw[glue_len (by omega) (by omega) (by omega) (by omega),hlr]
   obtain⟨Y3,hY3⟩:∃ Y3,ext Y [⟨56,true,mid up (part rvs top bot) fr n⟩,⟨22,false,[uA,.slice (some ⟨y,0,none⟩) lb lb,uC]⟩]=Y3:=⟨_,rfl⟩
   have mY3:Mod [] Y Y3:=hY3▸Mod.ext okY
   have nY3:Y3.next=y+2:=by rw[←hY3,ext_next,hy]; rfl
   have q0:bk Y3 (y+0)=some ⟨56,true,mid up (part rvs top bot) fr n⟩:=by rw[←hY3,bk_at hy (by simp)]; rfl
   have q1:bk Y3 (y+1)=some ⟨22,false,[uA,.slice (some ⟨y,0,none⟩) lb lb,uC]⟩:=by rw[←hY3,bk_at hy (by simp)]; rfl
   have qm:Y3.get mb=Y.get mb:=mY3.get mb (by omega) (by simp)
   rw[hY3]
   have hF4:∀ q∈[y+1,mb,y+0],Y3.get q≠none:=fun q hq=>by
    simp only[zB2,List.not_mem_nil,or_false]at hq
    rcases hq with rfl|rfl|rfl
    ·exact bk_ne q1
    ·rw[qm]; exact bk_ne hbm
    ·exact bk_ne q0
   have hmone:(mid up (part rvs top bot) fr n).all one=true:=zC0.2 fun z hz=>by
    rcases mid_mem hz with h|h
    ·exact zC0.1 hvone z (zE4 (zE5 h))
    ·exact zC0.1 hfr1 z h
   have hmsc:scbL Y.next (mid up (part rvs top bot) fr n)=true:=scbL_iff.2 fun z hz=>by
    rcases mid_mem hz with h|h
    ·exact scbL_iff.1 hvsc z (zE4 (zE5 h))
    ·exact scbL_iff.1 gr.sc z h
   refine genV_ext (H:=Y3) (v:=.slice (some ⟨y+2,0,none⟩) x.grid.length x.grid.length) (M:=[⟨56,true,glue up rvs fr top bot n⟩]) [y+1,mb,y+0] rfl (by kernel_rfl) (zA9 rfl) hF4 (fun G hn hG=>?_) ?_ ?_
   ·have hGn:G.next=y+2:=by rw[hn,nY3]
    have hP:∀ z∈[(uA,rvs.take top),(Value.slice (some ⟨y,0,none⟩) lb lb,mid up (part rvs top bot) fr n),(uC,rvs.drop (bot+1))],Part G z.1 z.2∧z.2.all one=true∧scbL G.next z.2=true:=fun z hz=>by
     have hle:Y.next≤G.next:=by omega
     simp only[zB2,List.not_mem_nil,or_false]at hz
     rcases hz with rfl|rfl|rfl
     ·exact⟨PA.of hle fun q hq=>by have:=iA q hq; simp only[zA8]at this; rw[hG q (by simp[this]),this,qm],one_sub hvone fun z hz=>zE4 hz,scbL_mono hle _ (scbL_sub hvsc fun z hz=>zE4 hz)⟩
     ·refine⟨⟨some ⟨y,0,none⟩,lb,by rw[hmidl],blt_of (show y<G.next by omega),.inr ⟨zD2 hmidl,y,0,none,_,rfl,.inl rfl,(bk_get (hG (y+0) (by simp))).trans q0,by omega,by simp,by simp⟩⟩,hmone,scbL_mono hle _ hmsc⟩
     ·exact⟨PC.of hle fun q hq=>by have:=iC q hq; simp only[zA8]at this; rw[hG q (by simp[this]),this,qm],one_sub hvone fun z hz=>zE5 hz,scbL_mono hle _ (scbL_sub hvsc fun z hz=>zE5 hz)⟩
    have:=concat_c G (y+1) (some 0) 3 22 false [(uA,rvs.take top),(Value.slice (some ⟨y,0,none⟩) lb lb,mid up (part rvs top bot) fr n),(uC,rvs.drop (bot+1))] x.grid.length ((bk_get (hG (y+1) (by simp))).trans q1) (by omega) hP (by simp only[zF8,List.flatMap_nil,zD0]; rw[←List.append_assoc]; exact hgln) (by omega) (by omega) (by simp)
    rw[hGn]at this
    simp only[zF8,List.flatMap_nil,zD0]at this
    rw[←List.append_assoc]at this
    simp only[ruU,entryE,Nat.reduceLT,Nat.reduceAdd,Nat.reduceMul,Nat.reduceEqDiff]
    exact this
   ·simp only[meets_cons,meets_eq,meets_newer,hA,true_or,true_and]
    simp
   have mpY3:bk Y3 p=_:=(mY3.bk (by omega) (by simp)).trans kp
   have hp3:p<y+2:=by omega
   have hlt2:y+2<y+3:=zC6 _
   simp (maxDischargeDepth:=6) only[g0,nY3,mpY3,hp3,hlt2,hA,ruD,ruW,putL,Nat.reduceLeDiff,xF,ruU,entryE,Nat.reduceLT,Nat.reduceAdd,Nat.reduceMul,Nat.reduceEqDiff]
   refine⟨⟨.inr (.inl (by omega)),.inr (.inl (by omega))⟩,⟨.inr (.inl (by omega)),.inr (.inl (by omega))⟩,⟨.inr (.inl (by omega)),.inr (.inl (by omega))⟩,by omega,⟨.inr (by omega),.inr (by omega),.inr (by omega),.inr (by omega)⟩,?_⟩
   simp (maxDischargeDepth:=6) only[Tryd.results107,ruW,putL,Nat.reduceLeDiff,xF,ruU,entryE,Nat.reduceLT,Nat.reduceAdd,Nat.reduceMul,Nat.reduceEqDiff]
   have okY3:=mY3.ok okY
   have mZ1:Mod [] Y (ext Y3 [⟨56,true,glue up rvs fr top bot n⟩]):=mY3.trans (Mod.ext okY3)
   have kz1:bk (ext Y3 [⟨56,true,glue up rvs fr top bot n⟩]) (y+2)=some ⟨56,true,glue up rvs fr top bot n⟩:=by
    rw[show y+2=y+2+0 from rfl,bk_at nY3 (by simp)]; rfl
   have nz1:(ext Y3 [⟨56,true,glue up rvs fr top bot n⟩]).next=y+3:=by rw[ext_next,nY3]; rfl
   have og:=aX.own.glue (gr:=hXn.symm▸gr) (m:=mY) (m2:=mZ1.mono (by simp)) (N:=N) (up:=up) (top:=top) (bot:=bot) (n:=n) (y:=y+2) (by have:=a.lo; omega) (by omega) (by omega) (by omega) hgl kz1 (by omega) (by omega)
   have mW:Mod [p] Y3 (ext (uw Y3 p 0 [Value.slice (some ⟨y+2,0,none⟩) x.grid.length x.grid.length]) [⟨56,true,glue up rvs fr top bot n⟩]):=by
    have m1:Mod [p] Y3 (uw Y3 p 0 [Value.slice (some ⟨y+2,0,none⟩) x.grid.length x.grid.length]):=Mod.uw (by simp)
    exact m1.trans (Mod.ext (m1.ok okY3))
   have kz:bk (ext (uw Y3 p 0 [Value.slice (some ⟨y+2,0,none⟩) x.grid.length x.grid.length]) [⟨56,true,glue up rvs fr top bot n⟩]) (y+2)=some ⟨56,true,glue up rvs fr top bot n⟩:=by
    rw[show y+2=y+2+0 from rfl,bk_at (by rw[uw_next,nY3]) (by simp)]; rfl
   have kzp:bk (ext (uw Y3 p 0 [Value.slice (some ⟨y+2,0,none⟩) x.grid.length x.grid.length]) [⟨56,true,glue up rvs fr top bot n⟩]) p=some ⟨76,false,St.cells {x with grid:=glue up x.grid (List.replicate n (List.replicate W Ce.sp)) top bot n} (.slice (some ⟨y+2,0,none⟩) x.grid.length x.grid.length)⟩:=by
    rw[bk_old (by rw[uw_next]; omega),bk_uw_eq,mpY3]; rfl
   have nz:(ext (uw Y3 p 0 [Value.slice (some ⟨y+2,0,none⟩) x.grid.length x.grid.length]) [⟨56,true,glue up rvs fr top bot n⟩]).next=y+3:=by rw[ext_next,uw_next,nY3]; rfl
   generalize ext (uw Y3 p 0 [Value.slice (some ⟨y+2,0,none⟩) x.grid.length x.grid.length]) [⟨56,true,glue up rvs fr top bot n⟩]=Z at mW kz kzp nz ⊢
   have hids:∀ q∈(glue up rvs fr top bot n).flatMap idsV,q≠p∧q<y:=fun q hq=>by
    obtain⟨rv,h4,h5⟩:=zE3.1 hq
    rcases glue_mem h4 with h6|h6
    ·have h7:=zE3.2 ⟨rv,h6,h5⟩
     have:=(aY.own.ids q h7).2.1
     exact⟨fun e=>a.apart (zD5 _ (e▸h7)),by omega⟩
    ·have h7:=gr.ids q (zE3.2 ⟨rv,h6,h5⟩)
     exact⟨by omega,by omega⟩
   rw[htop,hbot,hn',Int.toNat_natCast,Int.toNat_natCast,Int.toNat_natCast,glue_roll]
   refine⟨(ModN.of (Ws:=[]) ((m0.trans mY).trans mY3) (by simp)).trans (ModN.of mW (aY.mod0 mY3).pN),rfl,.slice (some ⟨y+2,0,none⟩) x.grid.length x.grid.length,glue up rvs fr top bot n,⟨_,_,rfl⟩,kzp,?_,?_,by omega,a.lo⟩
   ·have hgg:(glue up x.grid (List.replicate n (List.replicate W Ce.sp)) top bot n).length=x.grid.length:=glue_len (by omega) (by omega) (by omega) hgl
    refine⟨og.len,.inr ⟨y+2,none,x.grid.length,true,by rw[hgg],kz,by have:=a.lo; omega,by omega,fun h=>by have:=(hids _ h).2; omega⟩,fun i rv l h4 h5=>?_,og.nd⟩
    have h6:=og.row i rv l h4 h5
    refine h6.of (by omega) fun q hq=>?_
    have h7:=hids q (zE3.2 ⟨rv,zB9 h4,hq⟩)
    rw[mW.get q (by omega) (by simpa using h7.1),ext_get_old (by omega)]
   ·intro h
    rcases zB4.1 h with h|h
    ·simp only[idsV,zA8]at h; omega
    ·exact (hids p h).1 rfl
 ·rw[if_neg hall]
  rw[ev]at hcell
  have fin:StepR 76 N p none H (.error [refusedP]) (ext H [⟨47,false,o.cells⟩]):=⟨ModN.of (Ws:=[]) m0 (by simp),rfl⟩
  have hs:d1=false∨(d1=true∧d2=false)∨(d1=true∧d2=true∧d3=false)∨(d1=true∧d2=true∧d3=true∧d4=false)∨(d1=true∧d2=true∧d3=true∧d4=true∧d5=false):=by
   cases d1<;>cases d2<;>cases d3<;>cases d4<;>cases d5<;>simp_all
  have hh:=ok.h2
  rcases hs with rfl|⟨rfl,rfl⟩|⟨rfl,rfl,rfl⟩|⟨rfl,rfl,rfl,rfl⟩|⟨rfl,rfl,rfl,rfl,rfl⟩
  ·refine w_drawP [] [(3,10),(10,17),(21,28),(26,33)] (by kernel_rfl) (by kernel_rfl) rfl (by kernel_rfl) (fun ops anc hA hG=>?_) (by simp) ⟨rfl,rfl⟩
   simp only[all2_cons]at hG
   simp (maxDischargeDepth:=6) only[dropLast_more,dropLast_one,hbn,hpl,hcell,h1,hG,ruD,ruW,putL,Nat.reduceLeDiff,xF,ruU,entryE,Nat.reduceLT,Nat.reduceAdd,Nat.reduceMul,Nat.reduceEqDiff]
   simp (maxDischargeDepth:=6) only[lastO_cons,lastO_one,isDef_call,ff_eq,true_and,ruW,putL,Nat.reduceLeDiff,xF,ruU,entryE,Nat.reduceLT,Nat.reduceAdd,Nat.reduceMul,Nat.reduceEqDiff]
   refine CallS.panics (needs_f _) ?_
   simp only[opC_error,seqC_panic,endA_panic,lv_panic]
   exact fin
  ·refine w_drawP [] [(3,10),(10,17),(21,28),(26,33)] (by kernel_rfl) (by kernel_rfl) rfl (by kernel_rfl) (fun ops anc hA hG=>?_) (by simp) ⟨rfl,rfl⟩
   simp only[all2_cons]at hG
   simp (maxDischargeDepth:=6) only[dropLast_more,dropLast_one,hbn,hpl,hcell,h1,h2,hG,ruD,ruW,putL,Nat.reduceLeDiff,xF,ruU,entryE,Nat.reduceLT,Nat.reduceAdd,Nat.reduceMul,Nat.reduceEqDiff]
   simp (maxDischargeDepth:=6) only[lastO_cons,lastO_one,isDef_call,ff_eq,true_and,ruW,putL,Nat.reduceLeDiff,xF,ruU,entryE,Nat.reduceLT,Nat.reduceAdd,Nat.reduceMul,Nat.reduceEqDiff]
   refine CallS.panics (needs_f _) ?_
   simp only[opC_error,seqC_panic,endA_panic,lv_panic]
   exact fin
  ·refine w_drawP [] [(3,10),(10,17),(21,28),(26,33)] (by kernel_rfl) (by kernel_rfl) rfl (by kernel_rfl) (fun ops anc hA hG=>?_) (by simp) ⟨rfl,rfl⟩
   simp only[all2_cons]at hG
   simp (maxDischargeDepth:=6) only[dropLast_more,dropLast_one,hbn,hpl,hcell,h1,h2,h3,hG,ruD,ruW,putL,Nat.reduceLeDiff,xF,ruU,entryE,Nat.reduceLT,Nat.reduceAdd,Nat.reduceMul,Nat.reduceEqDiff]
   simp (maxDischargeDepth:=6) only[lastO_cons,lastO_one,isDef_call,ff_eq,true_and,ruW,putL,Nat.reduceLeDiff,xF,ruU,entryE,Nat.reduceLT,Nat.reduceAdd,Nat.reduceMul,Nat.reduceEqDiff]
   refine CallS.panics (needs_f _) ?_
   simp only[opC_error,seqC_panic,endA_panic,lv_panic]
   exact fin
  ·refine w_drawP [] [(3,10),(10,17),(21,28),(26,33)] (by kernel_rfl) (by kernel_rfl) rfl (by kernel_rfl) (fun ops anc hA hG=>?_) (by simp) ⟨rfl,rfl⟩
   simp only[all2_cons]at hG
   simp (maxDischargeDepth:=6) only[dropLast_more,dropLast_one,hbn,hpl,hcell,h1,h2,h3,h4,hG,ruD,ruW,putL,Nat.reduceLeDiff,xF,ruU,entryE,Nat.reduceLT,Nat.reduceAdd,Nat.reduceMul,Nat.reduceEqDiff]
   simp (maxDischargeDepth:=6) only[lastO_cons,lastO_one,isDef_call,ff_eq,true_and,ruW,putL,Nat.reduceLeDiff,xF,ruU,entryE,Nat.reduceLT,Nat.reduceAdd,Nat.reduceMul,Nat.reduceEqDiff]
   refine CallS.panics (needs_f _) ?_
   simp only[opC_error,seqC_panic,endA_panic,lv_panic]
   exact fin
  ·have i1:=of_decide_eq_true h1
   have i2:=of_decide_eq_true h2
   have i3:=of_decide_eq_true h3
   have hw1:IntKind.i64.wrap (o.col-o.row)=o.col-o.row:=wrap_sm (by omega) (by omega)
   have hw2:IntKind.i64.wrap (o.col-o.row+1)=o.col-o.row+1:=wrap_sm (by omega) (by omega)
   refine w_drawP [] [(3,10),(10,17),(21,28),(26,33)] (by kernel_rfl) (by kernel_rfl) rfl (by kernel_rfl) (fun ops anc hA hG=>?_) (by simp) ⟨rfl,rfl⟩
   simp only[all2_cons]at hG
   simp (maxDischargeDepth:=6) only[dropLast_more,dropLast_one,hbn,hpl,hcell,h1,h2,h3,h4,h5,hw1,hw2,hG,ruD,ruW,putL,Nat.reduceLeDiff,xF,ruU,entryE,Nat.reduceLT,Nat.reduceAdd,Nat.reduceMul,Nat.reduceEqDiff]
   simp (maxDischargeDepth:=6) only[lastO_cons,lastO_one,isDef_call,ff_eq,true_and,ruW,putL,Nat.reduceLeDiff,xF,ruU,entryE,Nat.reduceLT,Nat.reduceAdd,Nat.reduceMul,Nat.reduceEqDiff]
   refine CallS.panics (needs_f _) ?_
   simp only[opC_error,seqC_panic,endA_panic,lv_panic]
   exact fin
theorem remove_c (N:Nat) (H:AHeap) (p W:Nat) (v:Value) (rvs:List Value) (x:St) (o:Op) (a:StAt 76 N H p v rvs x) (sl:Slc v) (hok:H.base≤H.next) (ok:x.Ok W) :
  CallA Tryd.prog 93 [.pointer (some ⟨p,0,none⟩),o.val] H (StepR 76 N p (x.roll W o true) H):=by
 obtain⟨b,hb⟩:∃ b,H.next=b:=⟨_,rfl⟩
 have m0:Mod [] H (ext H [⟨47,false,o.cells⟩]):=Mod.ext hok
 have aX:=a.mod0 m0
 have hld:bk (ext H [⟨47,false,o.cells⟩]) (b+0)=some ⟨47,false,o.cells⟩:=by rw[bk_at hb (by simp)]; rfl
 have key:=scrolls_c N (ext H [⟨47,false,o.cells⟩]) p W v rvs x o true 108 (b+0) (by kernel_rfl) aX sl (m0.ok hok) ok hld (by rw[ext_next,hb]; simp) (fun G u1 u2 L1 L2 P1 P2 q1 q2 s1 s2 hbk hbl k hk hk0 hk1 h2l hl=>remove1_c G u1 u2 L1 L2 (b+0) o P1 P2 q1 q2 s1 s2 hbk hbl k hk hk0 hk1 h2l hl)
 refine callE_fn mixed Tryd.func93 rfl Tryd.ntmps93 (zA9 rfl) ?_
 simp (maxDischargeDepth:=6) only[Op.val,Op.cells,hb,ruW,putL,Nat.reduceLeDiff,xF,ruU,entryE,Nat.reduceLT,Nat.reduceAdd,Nat.reduceMul,Nat.reduceEqDiff]
 refine key.mono ?_
 rintro out X ⟨mX,ho⟩
 have mX':=(ModN.of (Ws:=[]) (N:=N) m0 (by simp)).trans mX
 generalize x.roll W o true=r at ho ⊢
 cases r with
 |none =>
  obtain rfl:=ho
  simp only[opC_error,endA_panic,lv_panic]
  exact⟨mX',rfl⟩
 |some y =>
  obtain⟨rfl,v',rvs',s',a'⟩:=ho
  rw[show X=ext X [] from rfl]
  simp (maxDischargeDepth:=6) only[Tryd.results93,ruW,putL,Nat.reduceLeDiff,xF,ruU,entryE,Nat.reduceLT,Nat.reduceAdd,Nat.reduceMul,Nat.reduceEqDiff]
  exact⟨mX',rfl,v',rvs',s',a'⟩
theorem insert_c (N:Nat) (H:AHeap) (p W:Nat) (v:Value) (rvs:List Value) (x:St) (o:Op) (a:StAt 76 N H p v rvs x) (sl:Slc v) (hok:H.base≤H.next) (ok:x.Ok W) :
  CallA Tryd.prog 94 [.pointer (some ⟨p,0,none⟩),o.val] H (StepR 76 N p (x.roll W o false) H):=by
 obtain⟨b,hb⟩:∃ b,H.next=b:=⟨_,rfl⟩
 have m0:Mod [] H (ext H [⟨47,false,o.cells⟩]):=Mod.ext hok
 have aX:=a.mod0 m0
 have hld:bk (ext H [⟨47,false,o.cells⟩]) (b+0)=some ⟨47,false,o.cells⟩:=by rw[bk_at hb (by simp)]; rfl
 have key:=scrolls_c N (ext H [⟨47,false,o.cells⟩]) p W v rvs x o false 110 (b+0) (by kernel_rfl) aX sl (m0.ok hok) ok hld (by rw[ext_next,hb]; simp) (fun G u1 u2 L1 L2 P1 P2 q1 q2 s1 s2 hbk hbl k hk hk0 hk1 h2l hl=>insert1_c G u1 u2 L1 L2 (b+0) o P1 P2 q1 q2 s1 s2 hbk hbl k hk hk0 hk1 h2l hl)
 refine callE_fn mixed Tryd.func94 rfl Tryd.ntmps94 (zA9 rfl) ?_
 simp (maxDischargeDepth:=6) only[Op.val,Op.cells,hb,ruW,putL,Nat.reduceLeDiff,xF,ruU,entryE,Nat.reduceLT,Nat.reduceAdd,Nat.reduceMul,Nat.reduceEqDiff]
 refine key.mono ?_
 rintro out X ⟨mX,ho⟩
 have mX':=(ModN.of (Ws:=[]) (N:=N) m0 (by simp)).trans mX
 generalize x.roll W o false=r at ho ⊢
 cases r with
 |none =>
  obtain rfl:=ho
  simp only[opC_error,endA_panic,lv_panic]
  exact⟨mX',rfl⟩
 |some y =>
  obtain⟨rfl,v',rvs',s',a'⟩:=ho
  rw[show X=ext X [] from rfl]
  simp (maxDischargeDepth:=6) only[Tryd.results94,ruW,putL,Nat.reduceLeDiff,xF,ruU,entryE,Nat.reduceLT,Nat.reduceAdd,Nat.reduceMul,Nat.reduceEqDiff]
  exact⟨mX',rfl,v',rvs',s',a'⟩
def kindF:List FuncId:=[88,89,90,91,92,93,94,95,96]
def fnV (f:FuncId):Value:=.func (.func f) ⟨[]⟩ ⟨[]⟩
def kindsV:List Value:=kindF.map fnV
theorem kinds_c (H:AHeap):CallS Tryd.prog 69 [] H (.ok (.agg ⟨kindsV⟩)) H:=by
 obtain⟨b,hb⟩:∃ b,H.next=b:=⟨_,rfl⟩
 refine callS_fn mixed Tryd.func69 rfl Tryd.ntmps69 (zA9 rfl) fun wf hsc=>?_
 have hbd:aBuild Tryd.prog 102 [(0,.func (.func 88) #[] #[]),(1,.func (.func 89) #[] #[]),(2,.func (.func 90) #[] #[]),(3,.func (.func 91) #[] #[]),(4,.func (.func 92) #[] #[]),(5,.func (.func 93) #[] #[]),(6,.func (.func 94) #[] #[]),(7,.func (.func 95) #[] #[]),(8,.func (.func 96) #[] #[])]=some (.agg ⟨kindsV⟩):=by kernel_rfl
 have hst:∀ (M:Nat) (l:List Value),l.length=9→stB Tryd.prog 102 M 0 (.agg ⟨kindsV⟩) (some ⟨102,false,l⟩)=some ⟨102,false,kindsV⟩:=fun M l h=>by
  have hv:(Value.agg ⟨kindsV⟩).cells.toList=kindsV:=rfl
  rw[stB_ok (by rw[hv]; kernel_rfl) (by rw[hv,h]; decide) (by rw[hv]; rfl) (by rw[hv]; rfl),hv,putL_head _ _ (by rw[h]; decide),zE7 (by rw[h]; decide),zD0]
 have hcl:(Value.agg ⟨kindsV⟩).cells.toList=kindsV:=rfl
 have hps:putL ([.nilFunc,.nilFunc,.nilFunc,.nilFunc,.nilFunc,.nilFunc,.nilFunc,.nilFunc,.nilFunc]:List Value) 0 kindsV=kindsV:=rfl
 have hbb:H.base≤b:=hb▸wf.base
 have hld:ldB Tryd.prog 102 0 (some ⟨102,false,kindsV⟩)=some (.agg ⟨kindsV⟩):=by kernel_rfl
 simp (maxDischargeDepth:=6) only[hb,hbb,hbd,hst,hcl,hps,hld,Tryd.results69,ruW,putL,Nat.reduceLeDiff,xF,ruU,entryE,Nat.reduceLT,Nat.reduceAdd,Nat.reduceMul,Nat.reduceEqDiff]
 exact Fin.pure rfl
section
variable {N : Nat} {H : AHeap} {p W : Nat} {v : Value} {rvs : List Value} {x : St}
end
end Go.Proofs.YtaojjfebkldmnaaDoor
namespace Go.Ax
section
variable {P : Program} {rec : Rec} {H H1 g : AHeap} {a a1 : AAct} {u u1 : FrameMode}
theorem runSeq_ok {top:Bool} {ops:Array Oper} {o:Oper} {rest:List Oper} {v:Value} (hw:wantA ops a o=some true) (ho:opF P rec a H o=some (.ok v,g)):runSeq P rec top ops (o::rest) a H=runSeq P rec top ops rest (a.put o.dst v) g:=by simp only[runSeq,hw,ho]
theorem runS_seq {x y:Code} (h:runS P rec x a u H=some (.normal,a1,u1,H1)):runS P rec (.seq x y) a u H=runS P rec y a1 u1 H1:=by simp only[runS,h]
theorem runS_reg {id:Nat} {ops:Array Oper} {e:Exit} (hn:(ops.toList.any fun o=>isRec o.op)=false) (h:rec.run none (.region id ops false) a H=some (e,a1,H1)):runS P rec (.region id ops false) a u H=some (e,a1,u,H1):=by
 simp only[runS,hn,h,zA7]
theorem runS_rec {id:Nat} {ops:Array Oper} (hn:(ops.toList.any fun o=>isRec o.op)=true):runS P rec (.region id ops false) a u H=runOpsS P ops ops.toList a u H:=by
 simp only[runS,hn]
theorem opF_store {o:Oper} {t:TypeId} {x y:Operand} {p v:Value} (ho:o.op=.store t x y) (hx:aeval P a x=some p) (hy:aeval P a y=some v) (h:aStore P H t p v=some g):opF P rec a H o=some (.ok undef,g):=by
 simp only[opF,ho,aop,xStore,hx,hy,zA1,zA3,h,ruh,zA7,doN]
end
end Go.Ax
namespace Go.Proofs.YtaojjfebkldmnaaDoor
open Go.Ax
def rg0:AAct:=⟨{RV.ofList []with n:=16},[]⟩
theorem st99 (H:AHeap) (hok:H.base≤H.next):aStore Tryd.prog (H.new (Bl.obj ⟨99,false,[]⟩)) 99 (.pointer (some ⟨H.next,0,none⟩)) (.agg #[])=some (ext H [⟨99,false,[]⟩]):=by
 have h:=store_new (P:=Tryd.prog) (H:=H) (L:=[⟨99,false,[]⟩]) (b:=H.next) (i:=0) (off:=0) (t:=99) (v:=.agg #[]) rfl hok (by decide)
 have hs:stB Tryd.prog 99 (H.next+1) 0 (.agg #[]) (some ⟨99,false,[]⟩)=some ⟨99,false,[]⟩:=by
  rw[stB_ok (v:=.agg #[]) (by kernel_rfl) (by decide) rfl rfl]
  rfl
 simp only[List.length_singleton,zF5,hs,zA7,List.set_cons_zero,zC7]at h
 exact h
theorem exec1_ret (H:AHeap) (hok:H.base≤H.next):enterD Tryd.prog (recX Tryd.prog) 68 [] .returning H=some (.ok (.tuple ⟨[]⟩),.returning,ext H [⟨99,false,[]⟩]):=by
 have hr:∃ e1,runS Tryd.prog (recX Tryd.prog) (Tryd.f68.body.getD .skip) rg0 .returning H=some (.normal,⟨e1,[]⟩,.returning,ext H [⟨99,false,[]⟩]):=by
  show ∃ e1,runS Tryd.prog (recX Tryd.prog) (.seq _ (.seq _ (.seq _ _))) rg0 .returning H=_
  apply Exists.intro
  refine (runS_seq ((runS_rec rfl).trans rfl)).trans ?_
  refine (runS_seq (runS_reg rfl (Eq.trans (show (recX Tryd.prog).run none _ _ H=runSeq Tryd.prog (exec Tryd.prog (fun _ _ _=>none) 59) true _ _ _ H from rfl) ((runSeq_ok rfl rfl).trans ((runSeq_ok rfl rfl).trans ((runSeq_ok rfl rfl).trans ((runSeq_ok rfl rfl).trans ((runSeq_ok rfl rfl).trans ((runSeq_ok rfl rfl).trans ((runSeq_ok rfl (opF_store rfl rfl rfl (st99 H hok))).trans ((runSeq_ok rfl rfl).trans rfl))))))))))).trans ?_
  refine (runS_seq (runS_reg rfl rfl)).trans ?_
  rfl
 obtain⟨e1,hr⟩:=hr
 have hb:Tryd.f68.body=some (Tryd.f68.body.getD .skip):=rfl
 simp only[enterD,Tryd.func68,zA1,zA3]
 rw[hb,zA3]
 show (runS Tryd.prog (recX Tryd.prog) (Tryd.f68.body.getD .skip) rg0 _ H).bind _=_
 rw[hr]
 rfl
theorem exec1_pan (H:AHeap) (hok:H.base≤H.next):enterD Tryd.prog (recX Tryd.prog) 68 [] (.panicking [refusedP]) H=some (.ok (.tuple ⟨[]⟩),.panicking [{refusedP with recovered:=true}],ext H [⟨99,false,[]⟩]):=by
 have hr:∃ e1,runS Tryd.prog (recX Tryd.prog) (Tryd.f68.body.getD .skip) rg0 (.panicking [refusedP]) H=some (.normal,⟨e1,[]⟩,.panicking [{refusedP with recovered:=true}],ext H [⟨99,false,[]⟩]):=by
  show ∃ e1,runS Tryd.prog (recX Tryd.prog) (.seq _ (.seq _ (.seq _ _))) rg0 (.panicking [refusedP]) H=_
  apply Exists.intro
  refine (runS_seq ((runS_rec rfl).trans rfl)).trans ?_
  refine (runS_seq (runS_reg rfl (Eq.trans (show (recX Tryd.prog).run none _ _ H=runSeq Tryd.prog (exec Tryd.prog (fun _ _ _=>none) 59) true _ _ _ H from rfl) ((runSeq_ok rfl rfl).trans ((runSeq_ok rfl rfl).trans ((runSeq_ok rfl rfl).trans ((runSeq_ok rfl rfl).trans ((runSeq_ok rfl rfl).trans ((runSeq_ok rfl rfl).trans ((runSeq_ok rfl (opF_store rfl rfl rfl (st99 H hok))).trans ((runSeq_ok rfl rfl).trans rfl))))))))))).trans ?_
  refine (runS_seq (runS_reg rfl rfl)).trans ?_
  rfl
 obtain⟨e1,hr⟩:=hr
 have hb:Tryd.f68.body=some (Tryd.f68.body.getD .skip):=rfl
 simp only[enterD,Tryd.func68,zA1,zA3]
 rw[hb,zA3]
 show (runS Tryd.prog (recX Tryd.prog) (Tryd.f68.body.getD .skip) rg0 _ H).bind _=_
 rw[hr]
 rfl
theorem settle_pan:settle (.panicking [{refusedP with recovered:=true}])=.returning:=by rfl
section
variable {Z : AHeap} {N : Nat} {E : Env} {ds : List Deferred} {ops : Array Oper} {anc : List Nat} {ty : TypeId} {pos : String} {after : Array Edge} {rest : List Oper} {i d : Nat} {fps : List Fp} {Q : AAct → AHeap → Prop} {v u : Value} {vs L : List Value} {cnt : Nat}
end
def St.move (W:Nat) (x:St) (o:Op):Option St:=if (decide (0≤o.row)&&decide (o.row<x.grid.length)&&decide (0≤o.col)&&decide (o.col<W))=true then some {x with row:=o.row,col:=o.col} else none
def St.look (x:St) (o:Op):Option St:=if colr o.look=true then some {x with pen:=o.look} else none
theorem does_eq (W:Nat) (r:List UInt8→Option (List Int)) (x:St) (o:Op):x.does W r o =
  if o.kind=1 then x.move W o else if o.kind=2 then x.look o else if o.kind=3 then x.text W (r o.text.data.toList) else if o.kind=4 then x.clear W else if o.kind=5 then x.roll W o true else if o.kind=6 then x.roll W o false
  else if o.kind=7 then some {x with shown:=true} else if o.kind=8 then some {x with shown:=false} else none:=by
 unfold St.does St.move St.look St.text St.clear St.roll
 by_cases h5:o.kind=5
 ·simp[h5]
 ·by_cases h6:o.kind=6
  ·simp[h6]
  ·simp only[h5,h6,or_self,if_false]
   by_cases h3:o.kind=3
   ·simp[h3]
    cases r o.text.data.toList<;>rfl
   ·simp only[h3,if_false]
theorem putAll_len (pen:Lk):∀ (cs:List Int) (l:List Ce) (k:Nat),(putAll pen cs l k).1.length=l.length
 |[],_,_=>rfl
 |c::cs,l,k=>by rw[putAll,putAll_len pen cs,putC_len]
theorem putAll_col (pen:Lk) (W:Nat):∀ (cs:List Int) (l:List Ce) (k:Nat),St.fits W cs (k:Int)=true→k≤W→(putAll pen cs l k).2≤W
 |[],_,_,_,h=>h
 |c::cs,l,k,hf,_=>by
  obtain⟨_,h2,h3⟩:=fits_cons hf
  rw[putAll]
  refine putAll_col pen W cs _ _ ?_ (by omega)
  rw[show ((k+cellsR c:Nat):Int)=(k:Int)+(cellsR c:Int) by omega]
  exact h3
theorem clearL_len:∀ (n:Nat) (l:List Ce) (k:Nat),(clearL l k n).length=l.length
 |0,_,_=>rfl
 |n+1,l,k=>by rw[clearL,clearL_len n,setL_len]
theorem St.Ok.row {x:St} {W:Nat} (ok:x.Ok W):(x.grid.getD x.row.toNat []).length=W:=by
 have h0:=ok.row0
 have h1:=ok.row1
 have h2:x.row.toNat<x.grid.length:=by omega
 rw[zE8,zA6 h2,Option.getD_some]
 exact ok.wid _ (List.getElem_mem _)
theorem does_ok {W:Nat} {x y:St} {o:Op} {r:List UInt8→Option (List Int)} (ok:x.Ok W) (h:x.does W r o=some y):y.Ok W:=by
 have setrow:∀ l:List Ce,l.length=W→∀ c:Int,0≤c→c≤W→St.Ok {x with grid:=x.grid.set x.row.toNat l,col:=c} W:=fun l hl c c0 c1=>by
  have:=ok.setRow (i:=x.row.toNat) hl
  exact⟨this.h1,this.h2,this.w1,this.w2,this.wid,this.row0,this.row1,c0,c1⟩
 rw[does_eq]at h
 split at h
 ·unfold St.move at h
  split at h
  ·rename_i hh
   simp only[zA4,decide_eq_true_eq]at hh
   obtain rfl:=Option.some.inj h
   exact⟨ok.h1,ok.h2,ok.w1,ok.w2,ok.wid,hh.1.1.1,hh.1.1.2,hh.1.2,by show o.col≤W; omega⟩
  ·cases h
 split at h
 ·unfold St.look at h
  split at h
  ·obtain rfl:=Option.some.inj h
   exact⟨ok.h1,ok.h2,ok.w1,ok.w2,ok.wid,ok.row0,ok.row1,ok.col0,ok.col1⟩
  ·cases h
 split at h
 ·unfold St.text at h
  split at h
  ·cases h
  ·rename_i l _
   split at h
   ·rename_i hf
    obtain rfl:=Option.some.inj h
    have c0:=ok.col0
    have c1:=ok.col1
    refine setrow _ (by rw[putAll_len]; exact ok.row) _ (by omega) ?_
    have:=putAll_col x.pen W l (x.grid.getD x.row.toNat []) x.col.toNat (by rw[show ((x.col.toNat:Nat):Int)=x.col by omega]; exact hf) (by omega)
    omega
   ·cases h
 split at h
 ·unfold St.clear at h
  split at h
  ·obtain rfl:=Option.some.inj h
   exact setrow _ (by rw[clearL_len]; exact ok.row) x.col ok.col0 ok.col1
  ·cases h
 have roll:∀ up,x.roll W o up=some y→y.Ok W:=fun up h=>by
  unfold St.roll at h
  split at h
  ·rename_i hh
   simp only[zA4,decide_eq_true_eq]at hh
   obtain rfl:=Option.some.inj h
   rw[glue_roll]
   have hl:(glue up x.grid (List.replicate o.n.toNat (List.replicate W Ce.sp)) o.row.toNat o.col.toNat o.n.toNat).length=x.grid.length:=glue_len (by omega) (by omega) (by omega) List.length_replicate
   refine⟨?_,?_,ok.w1,ok.w2,fun l hl=>?_,ok.row0,?_,ok.col0,ok.col1⟩
   ·simp only[hl]; exact ok.h1
   ·simp only[hl]; exact ok.h2
   ·rcases glue_mem hl with h|h
    ·exact ok.wid l h
    ·rw[List.eq_of_mem_replicate h,List.length_replicate]
   ·simp only[hl]; exact ok.row1
  ·cases h
 split at h
 ·exact roll true h
 split at h
 ·exact roll false h
 split at h
 ·obtain rfl:=Option.some.inj h
  exact⟨ok.h1,ok.h2,ok.w1,ok.w2,ok.wid,ok.row0,ok.row1,ok.col0,ok.col1⟩
 split at h
 ·obtain rfl:=Option.some.inj h
  exact⟨ok.h1,ok.h2,ok.w1,ok.w2,ok.wid,ok.row0,ok.row1,ok.col0,ok.col1⟩
 ·cases h
theorem all_drop {W:Nat} {r:List UInt8→Option (List Int)}:∀ (l:List Op) (k i:Nat) (x y:St) (o:Op),l[k]?=some o→x.does W r o=some y→St.all W r (l.drop k) i x=St.all W r (l.drop (k+1)) (i+1) y:=fun l k i x y o ho hd=>by
 have hk:=(zE2.1 ho).1
 rw[zF0 hk,St.all]
 rw[zA6 hk]at ho
 rw[Option.some.inj ho,hd]
theorem all_stop {W:Nat} {r:List UInt8→Option (List Int)}:∀ (l:List Op) (k i:Nat) (x:St) (o:Op),l[k]?=some o→x.does W r o=none→St.all W r (l.drop k) i x=.inr i:=fun l k i x o ho hd=>by
 have hk:=(zE2.1 ho).1
 rw[zF0 hk,St.all]
 rw[zA6 hk]at ho
 rw[Option.some.inj ho,hd]
end Go.Proofs.YtaojjfebkldmnaaDoor
namespace Go.Ax
section
variable {P : Program} {ro : Option Nat} {H : AHeap} {N : Nat} {E : Env} {ds : List Deferred} {ops : Array Oper} {rest : List Oper} {ty : TypeId} {pos : String} {after : Array Edge} {Q : Exit → AAct → AHeap → Prop}
theorem w_defer {f:FuncId} {args:List Operand} {ts:Array TypeId} (ha:args.all (opOk P N)=true):wpOps P none ops (⟨none,.defer ⟨.value (.func f),⟨args⟩,ts⟩,ty,pos,after,none⟩::rest) (mkA N E ds) H Q=wpOps P none ops rest (mkA N E (⟨.fn (.func f) #[],⟨args.map (opv E)⟩⟩::ds)) H Q:=by
 simp only[wpOps,wantA,aDefer,aevals_opv ha,aeval,zA1,zA3,deferV]
 rfl
end
end Go.Ax
namespace Go.Proofs.YtaojjfebkldmnaaDoor
open Go.Ax
def AllR (N p:Nat) (r:St ⊕ Nat) (H:AHeap) (out:Out) (X:AHeap):Prop :=
 ModN N H X∧match r with
  |.inl y=>out=.ok (.int .i64 (-1))∧∃ v rvs,Slc v∧StAt 76 N X p v rvs y
  |.inr i=>out=.ok (.int .i64 (i:Int))
theorem kindF_body:(kindF.all fun f=>hasBody Tryd.prog f)=true:=by kernel_rfl
theorem leave_ret {N:Nat} {E:Env} {H:AHeap} {R:Out→AHeap→Prop} (hok:H.base≤H.next) (hR:∀ i,E 4=i→R (.ok i) (ext H [⟨99,false,[]⟩])) (h4:4<N) :
  leaveA Tryd.prog Tryd.f49 (mkA N E [⟨.fn (.func 68) #[],⟨[]⟩⟩]) [⟨.fn (.func 68) #[],⟨[]⟩⟩] .returning H R:=by
 refine⟨by kernel_rfl,_,_,_,exec1_ret H hok,?_⟩
 refine⟨[E 4],?_,?_⟩
 ·show resVal Tryd.prog _ _ [.tmp 4]=_
  rw[rs_tmp h4,rs_nil]
  rfl
 ·rw[tup_one]; exact hR _ rfl
theorem leave_pan {N:Nat} {E:Env} {H:AHeap} {R:Out→AHeap→Prop} (hok:H.base≤H.next) (hR:∀ i,E 4=i→R (.ok i) (ext H [⟨99,false,[]⟩])) (h4:4<N) :
  leaveA Tryd.prog Tryd.f49 (mkA N E [⟨.fn (.func 68) #[],⟨[]⟩⟩]) [⟨.fn (.func 68) #[],⟨[]⟩⟩] (.panicking [refusedP]) H R:=by
 refine⟨by kernel_rfl,_,_,_,exec1_pan H hok,?_⟩
 rw[settle_pan]
 refine⟨[E 4],?_,?_⟩
 ·show resVal Tryd.prog _ _ [.tmp 4]=_
  rw[rs_tmp h4,rs_nil]
  rfl
 ·rw[tup_one]; exact hR _ rfl
def wholeB:List Ce→Bool
 |[]=>true
 |c::l=>if (decide (cellsR c.rune=0)||!colr c.look)=true then false else
   if cellsR c.rune=2 then (match l with|[]=>false|d::l'=>decide (d=c.look.ce (-1))&&wholeB l') else wholeB l
theorem wholeB_cons (c : Ce) (l : List Ce) : wholeB (c :: l) = if (decide (cellsR c.rune = 0) || !colr c.look) = true then false else
   if cellsR c.rune=2 then (match l with|[]=>false|d::l'=>decide (d=c.look.ce (-1))&&wholeB l') else wholeB l:=by
 cases l<;>first|rfl|rw[wholeB]
theorem whole39_c (H:AHeap) (v:Value) (l:List Ce) (h:RowAt H v l) (hl:l.length<1000000):Pure 44 [v] H (.bool (wholeB l)):=by
 obtain⟨b,hb⟩:∃ b,H.next=b:=⟨_,rfl⟩
 obtain⟨B,hB⟩:∃ B,wholeB l=B:=⟨_,rfl⟩
 rw[hB]
 refine callS_fn mixed Tryd.func44 rfl Tryd.ntmps44 (zA9 rfl) fun wf hsc=>?_
 obtain⟨a1,c1,e1⟩:=h.sl
 rw[e1]
 simp (maxDischargeDepth:=6) only[ruW,putL,Nat.reduceLeDiff,xF,ruU,entryE,Nat.reduceLT,Nat.reduceAdd,Nat.reduceMul,Nat.reduceEqDiff]
 rw[←e1]
 refine w_env fun E hE=>?_
 have g0:E 0=v:=by rw[hE]; simp only[ruU,entryE,Nat.reduceLT,Nat.reduceAdd,Nat.reduceMul,Nat.reduceEqDiff]
 have g3:E 3=.int .i64 ((0:Nat):Int):=by rw[hE]; (simp only[ruU,entryE,Nat.reduceLT,Nat.reduceAdd,Nat.reduceMul,Nat.reduceEqDiff]<;>rfl)
 clear hE
 refine blockC_meet (fun E' H'=>H'=ext H []∧B=true) ?_ ?_
 ·refine w_loop (fun (k:Nat) E' H'=>H'=ext H []∧E' 0=v∧E' 3=.int .i64 (k:Int)∧k≤l.length∧wholeB (l.drop k)=B) (fun k=>l.length-k) 0
   ⟨rfl,g0,g3,zB0 _,hB⟩ ?_
  clear g0 g3
  rintro k E H' ⟨hH,g0,g3,hk,hi⟩
  rw[hH]
  by_cases hkl:k=l.length
  ·have hc:decide ((k:Int)<(l.length:Int))=false:=by simp[hkl]
   rw[e1]at g0
   simp (maxDischargeDepth:=6) only[g0,g3,hc,ruW,putL,Nat.reduceLeDiff,xF,ruU,entryE,Nat.reduceLT,Nat.reduceAdd,Nat.reduceMul,Nat.reduceEqDiff]
   rw[zE7 (by omega),wholeB]at hi
   exact joinR_normal ⟨rfl,hi.symm⟩
  ·have hlt:k<l.length:=by omega
   have hc:decide ((k:Int)<(l.length:Int))=true:=decide_eq_true (by omega)
   rcases h with⟨h,_⟩|⟨_,n1,o1,s1,x1,t1,p1,L1,rfl,b1,n1l,le1,tk1⟩
   ·rw[h]at hlt; simp at hlt
   obtain⟨r1,hr1⟩:∃ r,l[k]?=some r:=⟨_,zA6 hlt⟩
   have i1:=row_ia (n:=n1) (off:=o1) (s:=s1) (cap:=x1) (i:=(k:Int)) rfl hlt
   have q1:=run_load (e:=t1) (o:=p1) hr1 le1 tk1
   have q2:=look_load (e:=t1) (o:=p1) hr1 le1 tk1
   rw[hb]at n1l
   have hdr:l.drop k=r1::l.drop (k+1):=by
    rw[zF0 hlt]
    rw[zA6 hlt]at hr1
    rw[Option.some.inj hr1]
   rw[hdr,wholeB_cons]at hi
   obtain⟨m,hm⟩:∃ m,cellsR r1.rune=m:=⟨_,rfl⟩
   obtain⟨cl,hcl⟩:∃ x,colr r1.look=x:=⟨_,rfl⟩
   have hm3:=cellsR_cases r1.rune
   have hcs:=cellsOf_c (ext H []) r1.rune
   have hco:=coloured39_c (ext H []) r1.look
   rw[hm]at hcs hi hm3
   rw[hcl]at hco hi
   have c00:decide (((0:Nat):Int)=0)=true:=by decide
   have c10:decide (((1:Nat):Int)=0)=false:=by decide
   have c12:decide (((1:Nat):Int)=2)=false:=by decide
   have c20:decide (((2:Nat):Int)=0)=false:=by decide
   have c22:decide (((2:Nat):Int)=2)=true:=by decide
   simp (maxDischargeDepth:=6) only[g0,g3,hb,hc,i1,b1,n1l,q1,q2,qk_old,ruW,putL,Nat.reduceLeDiff,xF,ruU,entryE,Nat.reduceLT,Nat.reduceAdd,Nat.reduceMul,Nat.reduceEqDiff]
   refine hcs.to ?_
   rcases hm3 with rfl|rfl|rfl
   ·obtain rfl:false=B:=by simpa using hi
    simp (maxDischargeDepth:=6) only[g0,g3,hb,hc,i1,b1,n1l,q1,q2,qk_old,c00,joinR_ret,Tryd.results44,ruW,putL,Nat.reduceLeDiff,xF,ruU,entryE,Nat.reduceLT,Nat.reduceAdd,Nat.reduceMul,Nat.reduceEqDiff]
    exact Fin.pureE rfl rfl
   ·simp (maxDischargeDepth:=6) only[g0,g3,hb,hc,i1,b1,n1l,q1,q2,qk_old,c10,c12,c20,c22,ruW,putL,Nat.reduceLeDiff,xF,ruU,entryE,Nat.reduceLT,Nat.reduceAdd,Nat.reduceMul,Nat.reduceEqDiff]
    refine hco.to ?_
    cases cl with
    |false =>
     obtain rfl:false=B:=by simpa using hi
     simp (maxDischargeDepth:=6) only[g0,g3,hb,hc,i1,b1,n1l,q1,q2,qk_old,c10,zD6,joinR_ret,Tryd.results44,ruW,putL,Nat.reduceLeDiff,xF,ruU,entryE,Nat.reduceLT,Nat.reduceAdd,Nat.reduceMul,Nat.reduceEqDiff]
     exact Fin.pureE rfl rfl
    |true =>
     simp (maxDischargeDepth:=6) only[g0,g3,hb,hc,i1,b1,n1l,q1,q2,qk_old,c10,c12,c20,c22,zC8,wrap_succ (show k<1000000 by omega),ruW,putL,Nat.reduceLeDiff,xF,ruU,entryE,Nat.reduceLT,Nat.reduceAdd,Nat.reduceMul,Nat.reduceEqDiff]
     refine loopC_next ⟨k+1,by omega,rfl,?_,?_,by omega,by simpa using hi⟩
     ·simp only[g0,ruU,entryE,Nat.reduceLT,Nat.reduceAdd,Nat.reduceMul,Nat.reduceEqDiff]
     ·simp only[ruU,entryE,Nat.reduceLT,Nat.reduceAdd,Nat.reduceMul,Nat.reduceEqDiff]
   ·simp (maxDischargeDepth:=6) only[g0,g3,hb,hc,i1,b1,n1l,q1,q2,qk_old,c10,c12,c20,c22,ruW,putL,Nat.reduceLeDiff,xF,ruU,entryE,Nat.reduceLT,Nat.reduceAdd,Nat.reduceMul,Nat.reduceEqDiff]
    refine hco.to ?_
    cases cl with
    |false =>
     obtain rfl:false=B:=by simpa using hi
     simp (maxDischargeDepth:=6) only[g0,g3,hb,hc,i1,b1,n1l,q1,q2,qk_old,c20,zD6,joinR_ret,Tryd.results44,ruW,putL,Nat.reduceLeDiff,xF,ruU,entryE,Nat.reduceLT,Nat.reduceAdd,Nat.reduceMul,Nat.reduceEqDiff]
     exact Fin.pureE rfl rfl
    |true =>
     simp (maxDischargeDepth:=6) only[g0,g3,hb,hc,i1,b1,n1l,q1,q2,qk_old,c10,c12,c20,c22,zC8,wrap_succ (show k<1000000 by omega),ruW,putL,Nat.reduceLeDiff,xF,ruU,entryE,Nat.reduceLT,Nat.reduceAdd,Nat.reduceMul,Nat.reduceEqDiff]
     have hws:IntKind.i64.wrap (((k+1:Nat):Int)-1)=(k:Int):=(wrap_sm (n:=((k+1:Nat):Int)-1) (by omega) (by omega)).trans (by omega)
     by_cases hlt1:k+1<l.length
     ·have hc1:decide (((k+1:Nat):Int)=(l.length:Int))=false:=decide_eq_false (by omega)
      obtain⟨r2,hr2⟩:∃ r,l[k+1]?=some r:=⟨_,zA6 hlt1⟩
      have hdr2:l.drop (k+1)=r2::l.drop (k+1+1):=by
       rw[zF0 hlt1]
       rw[zA6 hlt1]at hr2
       rw[Option.some.inj hr2]
      rw[hdr2]at hi
      have hi':(decide (r2=r1.look.ce (-1))&&wholeB (l.drop (k+1+1)))=B:=by simpa using hi
      have i2:=row_ia (n:=n1) (off:=o1) (s:=s1) (cap:=x1) (i:=((k+1:Nat):Int)) rfl hlt1
      have q3:=row_load (e:=t1) (o:=p1) hr2 le1 tk1
      refine w_drawB [] [(4,36)] (by kernel_rfl) (by kernel_rfl) (by kernel_rfl) fun ops anc hA hG=>?_
      simp only[all2_cons]at hG
      simp (maxDischargeDepth:=6) only[g0,g3,hb,hc1,i1,i2,b1,n1l,q2,q3,qk_old,hws,hG,Lk.val,Ce.val,Ce.cells,ruD,ruW,putL,Nat.reduceLeDiff,xF,ruU,entryE,Nat.reduceLT,Nat.reduceAdd,Nat.reduceMul,Nat.reduceEqDiff]
      obtain⟨dq,hdq⟩:∃ x,decide (r2=r1.look.ce (-1))=x:=⟨_,rfl⟩
      rw[hdq]at hi'
      refine wd_eqS (ts:=[3,3,3,4,4,4]) (xs:=r2.cells) (ys:=(r1.look.ce (-1)).cells) (r:=!dq) fl55 ag55 gd55 (by rw[ce_eqL,hdq]; rfl) (by simp only[ruU,entryE,Nat.reduceLT,Nat.reduceAdd,Nat.reduceMul,Nat.reduceEqDiff]) (by simp only[ruU,entryE,Nat.reduceLT,Nat.reduceAdd,Nat.reduceMul,Nat.reduceEqDiff]) (by decide) (by simp only[ruU,entryE,Nat.reduceLT,Nat.reduceAdd,Nat.reduceMul,Nat.reduceEqDiff]; rfl) (by simp only[ruU,entryE,Nat.reduceLT,Nat.reduceAdd,Nat.reduceMul,Nat.reduceEqDiff]; rfl) (ce_fits _) (ce_fits _) ?_
      cases dq with
      |true =>
       simp (maxDischargeDepth:=6) only[g0,g3,hG,zC8,wrap_succ (show k+1<1000000 by omega),ruD,ruW,putL,Nat.reduceLeDiff,xF,ruU,entryE,Nat.reduceLT,Nat.reduceAdd,Nat.reduceMul,Nat.reduceEqDiff]
       refine loopC_next ⟨k+1+1,by omega,rfl,?_,?_,by omega,by simpa using hi'⟩
       ·simp only[g0,ruU,entryE,Nat.reduceLT,Nat.reduceAdd,Nat.reduceMul,Nat.reduceEqDiff]
       ·simp only[ruU,entryE,Nat.reduceLT,Nat.reduceAdd,Nat.reduceMul,Nat.reduceEqDiff]
      |false =>
       obtain rfl:false=B:=by simpa using hi'
       simp (maxDischargeDepth:=6) only[g0,g3,hG,zD6,joinR_ret,Tryd.results44,ruD,ruW,putL,Nat.reduceLeDiff,xF,ruU,entryE,Nat.reduceLT,Nat.reduceAdd,Nat.reduceMul,Nat.reduceEqDiff]
       exact Fin.pureE rfl rfl
     ·have hc1:decide (((k+1:Nat):Int)=(l.length:Int))=true:=decide_eq_true (by omega)
      rw[zE7 (by omega)]at hi
      obtain rfl:false=B:=by simpa using hi
      refine w_drawB [] [(4,36)] (by kernel_rfl) (by kernel_rfl) (by kernel_rfl) fun ops anc hA hG=>?_
      simp only[all2_cons]at hG
      simp (maxDischargeDepth:=6) only[g0,g3,hb,hc1,hG,joinR_ret,Tryd.results44,ruD,ruW,putL,Nat.reduceLeDiff,xF,ruU,entryE,Nat.reduceLT,Nat.reduceAdd,Nat.reduceMul,Nat.reduceEqDiff]
      exact Fin.pureE rfl rfl
 ·rintro E H' ⟨hH,rfl⟩
  rw[hH]
  simp (maxDischargeDepth:=6) only[Tryd.results44,ruW,putL,Nat.reduceLeDiff,xF,ruU,entryE,Nat.reduceLT,Nat.reduceAdd,Nat.reduceMul,Nat.reduceEqDiff]
  exact Fin.pure rfl
def okRow (W:Nat) (l:List Ce):Bool:=decide (l.length=W)&&wholeB l
theorem narrow39_c (H:AHeap) (v:Value) (l:List Ce) (W bw:Nat) (hr:RowAt H v l) (hl:l.length<1000000) (hb:bk H bw=some ⟨3,false,[.int .i64 (W:Int)]⟩):Pure 43 [v,.pointer (some ⟨bw,0,none⟩)] H (.bool (!okRow W l)):=by
 obtain⟨b,hbn⟩:∃ b,H.next=b:=⟨_,rfl⟩
 obtain⟨a,c,e⟩:=hr.sl
 obtain⟨B,hB⟩:∃ B,wholeB l=B:=⟨_,rfl⟩
 obtain⟨d,hd⟩:∃ d,decide (l.length=W)=d:=⟨_,rfl⟩
 have hd2:decide (¬(l.length:Int)=(W:Int))=!d:=by
  rw[←hd,decide_not]
  by_cases h:l.length=W
  ·rw[decide_eq_true h,decide_eq_true (by omega)]
  ·rw[decide_eq_false h,decide_eq_false (by omega)]
 have hwh:=whole39_c (ext H []) v l hr hl
 rw[okRow,hB,hd]
 rw[e,hB]at hwh
 rw[e]
 refine callS_fn mixed Tryd.func43 rfl Tryd.ntmps43 (zA9 rfl) fun wf hsc=>?_
 have hlt:bw<b:=hbn▸wf.lt hb
 cases d with
 |false =>
  simp (maxDischargeDepth:=6) only[hbn,hb,hlt,hd2,zD6,Bool.false_and,Tryd.results43,ruW,putL,Nat.reduceLeDiff,xF,ruU,entryE,Nat.reduceLT,Nat.reduceAdd,Nat.reduceMul,Nat.reduceEqDiff]
  exact Fin.pureE rfl rfl
 |true =>
  simp (maxDischargeDepth:=6) only[hbn,hb,hlt,hd2,zC8,Bool.true_and,ruW,putL,Nat.reduceLeDiff,xF,ruU,entryE,Nat.reduceLT,Nat.reduceAdd,Nat.reduceMul,Nat.reduceEqDiff]
  refine hwh.to ?_
  simp (maxDischargeDepth:=6) only[Tryd.results43,ruW,putL,Nat.reduceLeDiff,xF,ruU,entryE,Nat.reduceLT,Nat.reduceAdd,Nat.reduceMul,Nat.reduceEqDiff]
  exact Fin.pureE rfl rfl
def badAt (W:Nat):List (List Ce)→Option Nat
 |[]=>none
 |l::g=>if okRow W l=true then (badAt W g).map (·+1) else some 0
theorem badAt_drop (W:Nat):∀ (g:List (List Ce)) (k:Nat),(∀ i l,i<k→g[i]?=some l→okRow W l=true)→badAt W g=(badAt W (g.drop k)).map (·+k)
 |g,0,_=>by simp
 |[],k+1,_=>rfl
 |l::g,k+1,h=>by
  rw[badAt,if_pos (h 0 l (Nat.succ_pos _) rfl),List.drop_succ_cons,badAt_drop W g k fun i l' hi hl=>h (i+1) l' (by omega) hl]
  cases badAt W (g.drop k) with
  |none=>rfl
  |some m=>simp only[zA7]; congr 1
def okGrid (W:Nat) (g:List (List Ce)):Bool:=g.all (okRow W)
theorem badAt_ok (W:Nat):∀ (g:List (List Ce)),(badAt W g).isNone=okGrid W g
 |[]=>rfl
 |l::g=>by
  rw[badAt,okGrid,List.all_cons]
  cases h:okRow W l with
  |false=>simp
  |true=>rw[if_pos rfl,Option.isNone_map,badAt_ok W g,okGrid,Bool.true_and]
def ixV:Option Nat→Int
 |none=>-1
 |some n=>n
theorem index39_c (H:AHeap) (v:Value) (g:List (List Ce)) (W bw:Nat) (hg:GridAt H v g) (hw:∀ l∈g,l.length<1000000) (hgl:g.length<1000000) (hbw:bk H bw=some ⟨3,false,[.int .i64 (W:Int)]⟩) :
  Pure 61 [v,.func (.func 43) ⟨[]⟩ ⟨[.pointer (some ⟨bw,0,none⟩)]⟩] H (.int .i64 (ixV (badAt W g))):=by
 obtain⟨b,hb⟩:∃ b,H.next=b:=⟨_,rfl⟩
 refine callS_fn mixed Tryd.func61 rfl Tryd.ntmps61 (zA9 rfl) fun wf hsc=>?_
 obtain⟨a1,c1,e1⟩:=hg.sl
 rw[e1]
 simp (maxDischargeDepth:=6) only[ruW,putL,Nat.reduceLeDiff,xF,ruU,entryE,Nat.reduceLT,Nat.reduceAdd,Nat.reduceMul,Nat.reduceEqDiff]
 rw[←e1]
 refine w_env fun E hE=>?_
 have g0:E 0=v:=by rw[hE]; simp only[ruU,entryE,Nat.reduceLT,Nat.reduceAdd,Nat.reduceMul,Nat.reduceEqDiff]
 have g1:E 1=.func (.func 43) ⟨[]⟩ ⟨[.pointer (some ⟨bw,0,none⟩)]⟩:=by rw[hE]; simp only[ruU,entryE,Nat.reduceLT,Nat.reduceAdd,Nat.reduceMul,Nat.reduceEqDiff]
 have g7:E 7=.int .i64 (g.length:Int):=by rw[hE]; simp only[ruU,entryE,Nat.reduceLT,Nat.reduceAdd,Nat.reduceMul,Nat.reduceEqDiff]
 have g8:E 8=.int .i64 ((0:Nat):Int):=by rw[hE]; (simp only[ruU,entryE,Nat.reduceLT,Nat.reduceAdd,Nat.reduceMul,Nat.reduceEqDiff]<;>rfl)
 clear hE
 refine blockC_meet (fun E' H'=>H'=ext H []∧badAt W g=none) ?_ ?_
 ·refine w_loop (fun (k:Nat) E' H'=>H'=ext H []∧E' 0=v∧E' 1=.func (.func 43) ⟨[]⟩ ⟨[.pointer (some ⟨bw,0,none⟩)]⟩∧E' 7=.int .i64 (g.length:Int)∧E' 8=.int .i64 (k:Int)∧k≤g.length∧∀ i l,i<k→g[i]?=some l→okRow W l=true) (fun k=>g.length-k) 0
   ⟨rfl,g0,g1,g7,g8,zB0 _,fun i l hi=>by omega⟩ ?_
  clear g0 g1 g7 g8
  rintro k E H' ⟨hH,g0,g1,g7,g8,hk,hpre⟩
  rw[hH]
  have hbd:=badAt_drop W g k hpre
  by_cases hkl:k=g.length
  ·have hc:decide ((k:Int)<(g.length:Int))=false:=by simp[hkl]
   simp (maxDischargeDepth:=6) only[g0,g1,g7,g8,hc,ruW,putL,Nat.reduceLeDiff,xF,ruU,entryE,Nat.reduceLT,Nat.reduceAdd,Nat.reduceMul,Nat.reduceEqDiff]
   rw[zE7 (by omega)]at hbd
   exact joinR_normal ⟨rfl,hbd⟩
  ·have hlt:k<g.length:=by omega
   have hc:decide ((k:Int)<(g.length:Int))=true:=decide_eq_true (by omega)
   rcases hg with⟨h,_⟩|⟨_,n1,o1,s1,x1,t1,p1,L1,rfl,b1,n1l,le1,tk1⟩
   ·rw[h]at hlt; simp at hlt
   obtain⟨w1,hr1⟩:∃ r,g[k]?=some r:=⟨_,zA6 hlt⟩
   obtain⟨u1,hu1,ra1⟩:=tk1 k w1 hr1
   have i1:=grid_ia (n:=n1) (off:=o1) (s:=s1) (cap:=x1) (i:=(k:Int)) rfl hlt
   have q1:=grid_load (e:=t1) (o:=p1) hu1
   rw[hb]at n1l
   have hna:=narrow39_c (ext H []) u1 w1 W bw ra1 (hw w1 (zB9 hr1)) hbw
   obtain⟨d,hd⟩:∃ d,okRow W w1=d:=⟨_,rfl⟩
   rw[hd]at hna
   have hdr:g.drop k=w1::g.drop (k+1):=by
    rw[zF0 hlt]
    rw[zA6 hlt]at hr1
    rw[Option.some.inj hr1]
   rw[hdr,badAt,hd]at hbd
   simp (maxDischargeDepth:=6) only[g0,g1,g7,g8,hb,hc,i1,b1,n1l,q1,qk_old,ruW,putL,Nat.reduceLeDiff,xF,ruU,entryE,Nat.reduceLT,Nat.reduceAdd,Nat.reduceMul,Nat.reduceEqDiff]
   refine w_callV (f:=43) (ca:=[.pointer (some ⟨bw,0,none⟩)]) (by simp only[ruU,entryE,Nat.reduceLT,Nat.reduceAdd,Nat.reduceMul,Nat.reduceEqDiff]) (by simp only[g1,ruU,entryE,Nat.reduceLT,Nat.reduceAdd,Nat.reduceMul,Nat.reduceEqDiff]) (by simp only[ruU,entryE,Nat.reduceLT,Nat.reduceAdd,Nat.reduceMul,Nat.reduceEqDiff]) (by kernel_rfl) ?_
   simp only[ruU,entryE,Nat.reduceLT,Nat.reduceAdd,Nat.reduceMul,Nat.reduceEqDiff]
   refine (show CallS Tryd.prog 43 _ (ext H []) _ (ext H []) from hna).to ?_
   cases d with
   |true =>
    simp (maxDischargeDepth:=6) only[g0,g1,g7,g8,zC8,wrap_succ (show k<1000000 by omega),ruW,putL,Nat.reduceLeDiff,xF,ruU,entryE,Nat.reduceLT,Nat.reduceAdd,Nat.reduceMul,Nat.reduceEqDiff]
    refine loopC_next ⟨k+1,by omega,rfl,?_,?_,?_,?_,by omega,fun i l hi hl=>?_⟩
    ·simp only[g0,ruU,entryE,Nat.reduceLT,Nat.reduceAdd,Nat.reduceMul,Nat.reduceEqDiff]
    ·simp only[g1,ruU,entryE,Nat.reduceLT,Nat.reduceAdd,Nat.reduceMul,Nat.reduceEqDiff]
    ·simp only[g7,ruU,entryE,Nat.reduceLT,Nat.reduceAdd,Nat.reduceMul,Nat.reduceEqDiff]
    ·simp only[g8,ruU,entryE,Nat.reduceLT,Nat.reduceAdd,Nat.reduceMul,Nat.reduceEqDiff]
    ·rcases zC4 i k with h|h
     ·exact hpre i l h hl
     ·obtain rfl:i=k:=by omega
      rw[hr1]at hl
      cases hl
      exact hd
   |false =>
    have hbd':badAt W g=some k:=by simpa using hbd
    simp (maxDischargeDepth:=6) only[g0,g1,g7,g8,zD6,joinR_ret,Tryd.results61,ruW,putL,Nat.reduceLeDiff,xF,ruU,entryE,Nat.reduceLT,Nat.reduceAdd,Nat.reduceMul,Nat.reduceEqDiff]
    exact Fin.pureE (by rw[hbd']; rfl) rfl
 ·rintro E H' ⟨hH,hbd⟩
  rw[hH]
  simp (maxDischargeDepth:=6) only[Tryd.results61,ruW,putL,Nat.reduceLeDiff,xF,ruU,entryE,Nat.reduceLT,Nat.reduceAdd,Nat.reduceMul,Nat.reduceEqDiff]
  exact Fin.pureE (by rw[hbd]; rfl) rfl
theorem contains39_c (H:AHeap) (v:Value) (g:List (List Ce)) (W bw:Nat) (hg:GridAt H v g) (hw:∀ l∈g,l.length<1000000) (hgl:g.length<1000000) (hbw:bk H bw=some ⟨3,false,[.int .i64 (W:Int)]⟩) :
  Pure 42 [v,.func (.func 43) ⟨[]⟩ ⟨[.pointer (some ⟨bw,0,none⟩)]⟩] H (.bool (!okGrid W g)):=by
 have hi:=index39_c (ext H []) v g W bw hg hw hgl hbw
 have hok:=badAt_ok W g
 obtain⟨r,hr⟩:∃ r,badAt W g=r:=⟨_,rfl⟩
 rw[hr]at hi hok
 rw[←hok]
 refine callS_fn mixed Tryd.func42 rfl Tryd.ntmps42 (zA9 rfl) fun wf hsc=>?_
 simp (maxDischargeDepth:=6) only[ruW,putL,Nat.reduceLeDiff,xF,ruU,entryE,Nat.reduceLT,Nat.reduceAdd,Nat.reduceMul,Nat.reduceEqDiff]
 refine hi.to ?_
 have hd:decide ((0:Int)≤ixV r)=!r.isNone:=by
  cases r with
  |none=>rfl
  |some n=>exact decide_eq_true (Int.natCast_nonneg n)
 simp (maxDischargeDepth:=6) only[hd,Tryd.results42,ruW,putL,Nat.reduceLeDiff,xF,ruU,entryE,Nat.reduceLT,Nat.reduceAdd,Nat.reduceMul,Nat.reduceEqDiff]
 exact Fin.pure rfl
def widG (g:List (List Ce)):Nat:=(g.getD 0 []).length
def chkR (g:List (List Ce)) (r c:Int):Int :=
 cond (decide ((g.length:Int)<1)||decide (200<(g.length:Int))) 3
  (cond (decide ((widG g:Int)<1)||decide (1000<(widG g:Int))||(!(decide (0≤r)&&decide (r<(g.length:Int))&&decide (0≤c)&&decide (c<(widG g:Int)))&&!(decide (r=-1)&&decide (c=0)))) 3
   (cond (okGrid (widG g) g) 0 5))
theorem check39_c (H:AHeap) (v:Value) (g:List (List Ce)) (r c:Int) (hg:GridAt H v g) (hw:∀ l∈g,l.length<1000000) (hgl:g.length<1000000) :
  Pure 16 [.agg ⟨[v,.int .i64 r,.int .i64 c]⟩] H (.int .i64 (chkR g r c)):=by
 obtain⟨b,hb⟩:∃ b,H.next=b:=⟨_,rfl⟩
 obtain⟨h,hh⟩:∃ h,g.length=h:=⟨_,rfl⟩
 obtain⟨W,hW⟩:∃ W,widG g=W:=⟨_,rfl⟩
 obtain⟨dh1,k1⟩:∃ d,decide ((h:Int)<1)=d:=⟨_,rfl⟩
 obtain⟨dh2,k2⟩:∃ d,decide ((200:Int)<(h:Int))=d:=⟨_,rfl⟩
 obtain⟨dW1,k3⟩:∃ d,decide ((W:Int)<1)=d:=⟨_,rfl⟩
 obtain⟨dW2,k4⟩:∃ d,decide ((1000:Int)<(W:Int))=d:=⟨_,rfl⟩
 obtain⟨d1,h1⟩:∃ d,decide ((0:Int)≤r)=d:=⟨_,rfl⟩
 obtain⟨d2,h2⟩:∃ d,decide (r<(h:Int))=d:=⟨_,rfl⟩
 obtain⟨d3,h3⟩:∃ d,decide ((0:Int)≤c)=d:=⟨_,rfl⟩
 obtain⟨d4,h4⟩:∃ d,decide (c<(W:Int))=d:=⟨_,rfl⟩
 obtain⟨d5,h5⟩:∃ d,decide (r=-1)=d:=⟨_,rfl⟩
 obtain⟨d6,h6⟩:∃ d,decide (c=0)=d:=⟨_,rfl⟩
 obtain⟨B,hB⟩:∃ B,okGrid W g=B:=⟨_,rfl⟩
 have h5':decide (¬r=-1)=!d5:=by rw[decide_not,h5]
 have h6':decide (¬c=0)=!d6:=by rw[decide_not,h6]
 rw[chkR,hh,hW,k1,k2,k3,k4,h1,h2,h3,h4,h5,h6,hB]
 refine callS_fn mixed Tryd.func16 rfl Tryd.ntmps16 (zA9 rfl) fun wf hsc=>?_
 have hbase:H.base≤b:=hb▸wf.base
 have hg':=hg
 obtain⟨a0,c0,e0⟩:=hg.sl
 have hscv:scb b v=true:=by
  simp only[scbL,scb,scbA,zA4,hb]at hsc
  exact hsc.1.1
 rw[e0,hh]at hscv
 cases dh1 with
 |true =>
  rw[e0,hh]
  simp (maxDischargeDepth:=6) only[hb,hbase,hscv,k1,Tryd.results16,ruW,putL,Nat.reduceLeDiff,xF,ruU,entryE,Nat.reduceLT,Nat.reduceAdd,Nat.reduceMul,Nat.reduceEqDiff]
  exact Fin.pureE rfl rfl
 |false =>
  cases dh2 with
  |true =>
   rw[e0,hh]
   simp (maxDischargeDepth:=6) only[hb,hbase,hscv,k1,k2,Tryd.results16,ruW,putL,Nat.reduceLeDiff,xF,ruU,entryE,Nat.reduceLT,Nat.reduceAdd,Nat.reduceMul,Nat.reduceEqDiff]
   exact Fin.pureE rfl rfl
  |false =>
   have hpos:0<g.length:=by have:=of_decide_eq_false k1; omega
   rcases hg with⟨h',_⟩|⟨_,n1,o1,s1,x1,t1,p1,L1,rfl,b1,n1l,le1,tk1⟩
   ·rw[h']at hpos; simp at hpos
   obtain⟨r0,hr0⟩:∃ q,g[0]?=some q:=⟨_,zA6 hpos⟩
   obtain⟨u0,hu0,ra0⟩:=tk1 0 r0 hr0
   obtain⟨a0',k0,e0'⟩:=ra0.sl
   have hl0:r0.length=W:=by rw[←hW,widG,zE8,hr0]; rfl
   rw[hl0]at e0'
   rw[e0']at hu0
   have i1:=grid_ia (n:=n1) (off:=o1) (s:=s1) (cap:=x1) (i:=((0:Nat):Int)) rfl hpos
   rw[show ((0:Nat):Int)=0 from rfl]at i1
   have q1:=grid_load (e:=t1) (o:=p1) hu0
   rw[zC7]at q1 i1
   rw[hh]at i1 hg' ⊢
   have hlt:=n1l
   rw[hb]at hlt
   have hB1:∀ A:Bl,bk (ext H [A,⟨3,false,[.int .i64 (W:Int)]⟩]) (b+1)=some ⟨3,false,[.int .i64 (W:Int)]⟩:=fun A=>by rw[bk_at hb (by simp)]; rfl
   have hct:=contains39_c (ext H [⟨24,false,[.slice (some ⟨n1,o1,s1⟩) h x1,.int .i64 r,.int .i64 c]⟩,⟨3,false,[.int .i64 (W:Int)]⟩]) _ g W (b+1) hg'.ext hw hgl (hB1 _)
   rw[hB]at hct
   have hs:(d1=true∧d2=true∧d3=true∧d4=true)∨d1=false∨(d1=true∧d2=false)∨(d1=true∧d2=true∧d3=false)∨(d1=true∧d2=true∧d3=true∧d4=false):=by
    cases d1<;>cases d2<;>cases d3<;>cases d4<;>simp
   have hws:dW1=true∨(dW1=false∧dW2=true)∨(dW1=false∧dW2=false):=by cases dW1<;>cases dW2<;>simp
   have hns:d5=false∨(d5=true∧d6=false)∨(d5=true∧d6=true):=by cases d5<;>cases d6<;>simp
   rcases hws with rfl|⟨rfl,rfl⟩|⟨rfl,rfl⟩
   ·rcases hs with⟨rfl,rfl,rfl,rfl⟩|rfl|⟨rfl,rfl⟩|⟨rfl,rfl,rfl⟩|⟨rfl,rfl,rfl,rfl⟩
    all_goals (simp (maxDischargeDepth:=6) only[hb,hbase,hlt,b1,i1,q1,qk_old,k1,k2,k3,k4,h1,h2,h3,h4,Tryd.results16,ruW,putL,Nat.reduceLeDiff,xF,ruU,entryE,Nat.reduceLT,Nat.reduceAdd,Nat.reduceMul,Nat.reduceEqDiff]; exact Fin.pureE rfl rfl)
   ·rcases hs with⟨rfl,rfl,rfl,rfl⟩|rfl|⟨rfl,rfl⟩|⟨rfl,rfl,rfl⟩|⟨rfl,rfl,rfl,rfl⟩
    all_goals (simp (maxDischargeDepth:=6) only[hb,hbase,hlt,b1,i1,q1,qk_old,k1,k2,k3,k4,h1,h2,h3,h4,Tryd.results16,ruW,putL,Nat.reduceLeDiff,xF,ruU,entryE,Nat.reduceLT,Nat.reduceAdd,Nat.reduceMul,Nat.reduceEqDiff]; exact Fin.pureE rfl rfl)
   ·rcases hs with⟨rfl,rfl,rfl,rfl⟩|hs
    ·simp (maxDischargeDepth:=6) only[hb,hbase,hlt,b1,i1,q1,qk_old,k1,k2,k3,k4,h1,h2,h3,h4,h5',h6',zC8,zD6,ruW,putL,Nat.reduceLeDiff,xF,ruU,entryE,Nat.reduceLT,Nat.reduceAdd,Nat.reduceMul,Nat.reduceEqDiff]
     refine hct.to ?_
     cases B with
     |true=>simp (maxDischargeDepth:=6) only[zC8,Tryd.results16,ruW,putL,Nat.reduceLeDiff,xF,ruU,entryE,Nat.reduceLT,Nat.reduceAdd,Nat.reduceMul,Nat.reduceEqDiff]; exact Fin.pureE rfl rfl
     |false=>simp (maxDischargeDepth:=6) only[zD6,Tryd.results16,ruW,putL,Nat.reduceLeDiff,xF,ruU,entryE,Nat.reduceLT,Nat.reduceAdd,Nat.reduceMul,Nat.reduceEqDiff]; exact Fin.pureE rfl rfl
    rcases hs with rfl|⟨rfl,rfl⟩|⟨rfl,rfl,rfl⟩|⟨rfl,rfl,rfl,rfl⟩
    all_goals rcases hns with rfl|⟨rfl,rfl⟩|⟨rfl,rfl⟩
    all_goals simp (maxDischargeDepth:=6) only[hb,hbase,hlt,b1,i1,q1,qk_old,k1,k2,k3,k4,h1,h2,h3,h4,h5',h6',zC8,zD6,Tryd.results16,ruW,putL,Nat.reduceLeDiff,xF,ruU,entryE,Nat.reduceLT,Nat.reduceAdd,Nat.reduceMul,Nat.reduceEqDiff]
    all_goals first
     |exact Fin.pureE rfl rfl
     | (refine hct.to ?_
        cases B with
        |true=>simp (maxDischargeDepth:=6) only[zC8,Tryd.results16,ruW,putL,Nat.reduceLeDiff,xF,ruU,entryE,Nat.reduceLT,Nat.reduceAdd,Nat.reduceMul,Nat.reduceEqDiff]; exact Fin.pureE rfl rfl
        |false=>simp (maxDischargeDepth:=6) only[zD6,Tryd.results16,ruW,putL,Nat.reduceLeDiff,xF,ruU,entryE,Nat.reduceLT,Nat.reduceAdd,Nat.reduceMul,Nat.reduceEqDiff]; exact Fin.pureE rfl rfl)
theorem cloneRow_c (H:AHeap) (v:Value) (l:List Ce) (hr:RowAt H v l) (hne:l≠[]) (hok:H.base≤H.next) (hlen:l.length≤10000) :
  CallA Tryd.prog 67 [v] H (fun out X=>∃ u,out=.ok u∧OwnRow H.next X u l∧Mod [] H X):=by
 obtain⟨b,hb⟩:∃ b,H.next=b:=⟨_,rfl⟩
 have hbase:H.base≤b:=hb▸hok
 have hk:bk (ext H [⟨55,false,[]⟩]) (b+0)=some ⟨55,false,[]⟩:=by rw[bk_at hb (by simp)]; rfl
 obtain⟨u,G,hap,hu,hm,hid⟩:=row_copy (G:=ext H [⟨55,false,[]⟩]) hk (by rw[ext_next,hb]; simp) ((Mod.ext (W:=[]) hok).ok hok) hr.ext hlen
 rcases hr with⟨h,_⟩|⟨_,n,off,s,c,e,o,L,rfl,hbn,hnl,hle,ht⟩
 ·exact absurd h hne
 rw[hb]at hnl
 refine callE_fn mixed Tryd.func67 rfl Tryd.ntmps67 (zA9 rfl) ?_
 simp (maxDischargeDepth:=6) only[hb,hbase,hnl,hap,Tryd.results67,ruW,putL,Nat.reduceLeDiff,xF,ruU,entryE,Nat.reduceLT,Nat.reduceAdd,Nat.reduceMul,Nat.reduceEqDiff]
 refine⟨u,rfl,?_,?_⟩
 ·obtain⟨m,s',c',o',e',h1,h2,h3⟩:=hu
  exact⟨m,s',c',o',e',h1,by omega,h3⟩
 ·exact (Mod.ext (W:=[]) hok).step hm hok (fun m hm=>by simp only[zA8]at hm; exact .inr (by omega))
theorem clone39_c (H:AHeap) (v:Value) (g:List (List Ce)) (r c:Int) (hg:GridAt H v g) (hok:H.base≤H.next) (hs:scb H.next v=true) (hne:∀ l∈g,l≠[]) (hw:∀ l∈g,l.length≤10000) (hgl:g.length≤10000) :
  CallA Tryd.prog 48 [.agg ⟨[v,.int .i64 r,.int .i64 c]⟩] H (fun out X=>∃ u rvs,out=.ok (.agg ⟨[u,.int .i64 r,.int .i64 c]⟩)∧Grow H.next X u rvs g∧Mod [] H X):=by
 obtain⟨b,hb⟩:∃ b,H.next=b:=⟨_,rfl⟩
 have hbase:H.base≤b:=hb▸hok
 obtain⟨a0,c0,e0⟩:=hg.sl
 rw[hb]at hs
 have hs':=hs
 rw[e0]at hs
 refine callE_fn mixed Tryd.func48 rfl Tryd.ntmps48 (zA9 rfl) ?_
 rw[e0]
 simp (maxDischargeDepth:=6) only[hb,hbase,hs,ruW,putL,Nat.reduceLeDiff,xF,ruU,entryE,Nat.reduceLT,Nat.reduceAdd,Nat.reduceMul,Nat.reduceEqDiff]
 rw[←e0]
 refine w_env fun E hE=>?_
 have g1:E 1=.pointer (some ⟨b+0,0,none⟩):=by rw[hE]; simp only[ruU,entryE,Nat.reduceLT,Nat.reduceAdd,Nat.reduceMul,Nat.reduceEqDiff]
 have g2:E 2=.pointer (some ⟨b+1,0,none⟩):=by rw[hE]; simp only[ruU,entryE,Nat.reduceLT,Nat.reduceAdd,Nat.reduceMul,Nat.reduceEqDiff]
 have g9:E 9=v:=by rw[hE,e0]; simp only[ruU,entryE,Nat.reduceLT,Nat.reduceAdd,Nat.reduceMul,Nat.reduceEqDiff]
 have g10:E 10=.int .i64 (g.length:Int):=by rw[hE]; simp only[ruU,entryE,Nat.reduceLT,Nat.reduceAdd,Nat.reduceMul,Nat.reduceEqDiff]
 have g11:E 11=.int .i64 ((0:Nat):Int):=by rw[hE]; (simp only[ruU,entryE,Nat.reduceLT,Nat.reduceAdd,Nat.reduceMul,Nat.reduceEqDiff]<;>rfl)
 clear hE
 generalize hX0:ext H _=X0
 have m0:Mod [] H X0:=hX0▸Mod.ext hok
 have n0:X0.next=b+2:=by rw[←hX0,ext_next,hb]; rfl
 have k0:bk X0 (b+0)=some ⟨24,false,[.slice none 0 0,.int .i64 r,.int .i64 c]⟩:=by rw[←hX0,bk_at hb (by simp)]; rfl
 have k1:bk X0 (b+1)=some ⟨24,false,[.slice none 0 0,.int .i64 0,.int .i64 0]⟩:=by rw[←hX0,bk_at hb (by simp)]; rfl
 clear hX0
 refine blockC_meet (fun E' X=>∃ u rvs,Mod [] H X∧b+2≤X.next∧bk X (b+1)=some ⟨24,false,[.slice none 0 0,.int .i64 0,.int .i64 0]⟩∧bk X (b+0)=some ⟨24,false,[u,.int .i64 r,.int .i64 c]⟩∧Grow (b+2) X u rvs g∧E' 1=.pointer (some ⟨b+0,0,none⟩)∧E' 2=.pointer (some ⟨b+1,0,none⟩)) ?_ ?_
 ·refine w_loop (fun (k:Nat × Value × List Value) E' X=>Mod [] H X∧b+2≤X.next∧bk X (b+1)=some ⟨24,false,[.slice none 0 0,.int .i64 0,.int .i64 0]⟩∧bk X (b+0)=some ⟨24,false,[k.2.1,.int .i64 r,.int .i64 c]⟩∧Grow (b+2) X k.2.1 k.2.2 (g.take k.1)∧k.1≤g.length∧E' 1=.pointer (some ⟨b+0,0,none⟩)∧E' 2=.pointer (some ⟨b+1,0,none⟩)∧E' 9=v∧E' 10=.int .i64 (g.length:Int)∧E' 11=.int .i64 (k.1:Int)) (fun k=>g.length-k.1) (0,.slice none 0 0,[])
   ⟨m0,by omega,k1,k0,Grow.nil,zB0 _,g1,g2,g9,g10,g11⟩ ?_
  clear g1 g2 g9 g10 g11 k0 k1 n0 m0
  rintro⟨k,u,rvs⟩ E X ⟨mX,xl,k1,k0,gr,hk,g1,g2,g9,g10,g11⟩
  simp only at k0 k1 gr hk g11
  obtain⟨x,hx⟩:∃ x,X.next=x:=⟨_,rfl⟩
  have okX:=mX.ok hok
  have hxb:X.base≤x:=hx▸okX
  rw[hx]at xl
  have l0:b+0<x:=by omega
  rw[show X=ext X [] from rfl]
  by_cases hkl:k=g.length
  ·have hc:decide ((k:Int)<(g.length:Int))=false:=by simp[hkl]
   simp (maxDischargeDepth:=6) only[g1,g2,g10,g11,hc,ruW,putL,Nat.reduceLeDiff,xF,ruU,entryE,Nat.reduceLT,Nat.reduceAdd,Nat.reduceMul,Nat.reduceEqDiff]
   rw[hkl,zF7]at gr
   exact joinR_normal ⟨u,rvs,mX,by rw[ext_next,hx]; simpa using xl,k1,k0,gr,by simp only[g1,ruU,entryE,Nat.reduceLT,Nat.reduceAdd,Nat.reduceMul,Nat.reduceEqDiff],by simp only[g2,ruU,entryE,Nat.reduceLT,Nat.reduceAdd,Nat.reduceMul,Nat.reduceEqDiff]⟩
  ·have hlt:k<g.length:=by omega
   have hc:decide ((k:Int)<(g.length:Int))=true:=decide_eq_true (by omega)
   obtain⟨w1,hr1⟩:∃ r,g[k]?=some r:=⟨_,zA6 hlt⟩
   rcases hg with⟨h,_⟩|⟨_,n1,o1,s1,x1,t1,p1,L1,ev,b1,n1l,le1,tk1⟩
   ·rw[h]at hlt; simp at hlt
   subst ev
   obtain⟨u1,hu1,ra1⟩:=tk1 k w1 hr1
   have hw1:w1≠[]:=hne w1 (zB9 hr1)
   have i1:=grid_ia (n:=n1) (off:=o1) (s:=s1) (cap:=x1) (i:=(k:Int)) rfl hlt
   have q1:=grid_load (e:=t1) (o:=p1) hu1
   have b1X:rk X n1=some ⟨t1,p1,L1⟩:=(rk_get (mX.get n1 n1l (by simp))).trans b1
   have raX:RowAt X u1 w1:=ra1.of mX.next fun m hm=>mX.get m (ra1.ne hw1 m hm).2 (by simp)
   have n1x:n1<x:=by have:=mX.next; omega
   obtain⟨au,eu⟩:=gr.at_.len
   simp (maxDischargeDepth:=6) only[g1,g2,g9,g10,g11,hx,n1x,i1,b1X,q1,qk_old,hc,ruW,putL,Nat.reduceLeDiff,xF,ruU,entryE,Nat.reduceLT,Nat.reduceAdd,Nat.reduceMul,Nat.reduceEqDiff]
   refine w_drawB [(4,3),(5,1),(5,3),(5,4),(7,1),(7,3),(7,4),(7,5)] [] (by kernel_rfl) (by kernel_rfl) rfl fun ops anc hA hG=>?_
   simp only[all2_cons]at hA
   simp (maxDischargeDepth:=6) only[g1,g2,g9,g10,g11,hx,hxb,l0,k0,hA,ruD,ruW,putL,Nat.reduceLeDiff,xF,ruU,entryE,Nat.reduceLT,Nat.reduceAdd,Nat.reduceMul,Nat.reduceEqDiff]
   have hFu:∀ n∈idsV u1,X.get n≠none∧n<X.next:=raX.ne hw1
   have hrn:=restrict_next X (idsV u1)
   have ra2:RowAt (X.restrict (idsV u1)) u1 w1:=raX.of (by rw[hrn.1]; exact zA5 _) fun n hn=>by rw[restrict_get,if_pos hn]
   obtain⟨_,gg,hcc,rv,rfl,hrv,mg⟩:=cloneRow_c (X.restrict (idsV u1)) u1 w1 ra2 hw1 (by rw[hrn.1,hrn.2.1]; exact zA5 _) (hw w1 (zB9 hr1))
   rw[hrn.1]at hrv
   refine genV_mod (H:=ext X []) (W:=[]) (idsV u1) okX (by simp only[ruU,entryE,Nat.reduceLT,Nat.reduceAdd,Nat.reduceMul,Nat.reduceEqDiff]) (by kernel_rfl) (fun n hn=>(hFu n hn).1) (fun n hn=>(hFu n hn).2) (fun _ h=>by simp at h) (v:=rv) (g:=gg) (by simp only[ruU,entryE,Nat.reduceLT,Nat.reduceAdd,Nat.reduceMul,Nat.reduceEqDiff]; exact hcc) mg (by simp[all2_cons,all2_nil]) ?_
   intro Z D mZ hFZ hNZ hnZ hDZ
   have hD0:D=[]:=List.eq_nil_iff_forall_not_mem.2 (fun q hq=>by simpa using hDZ q hq)
   subst hD0
   replace mZ:Mod [] X Z:=mZ
   replace hNZ:∀ m,X.next≤m→m<gg.next→Z.get m=gg.get m:=hNZ
   have okZ:=mZ.ok okX
   have hZx:=mZ.next
   have hrvZ:OwnRow x Z rv w1:=by
    obtain⟨n,s,cc,o,e,h1,h2,h3⟩:=hrv
    exact⟨n,s,cc,o,e,(bk_get (hNZ n h2 h3)).trans h1,by omega,by rw[hnZ]; exact h3⟩
   have hidr:∀ n∈idsV rv,x≤n∧n<Z.next∧Z.get n≠none:=hrvZ.rng
   obtain⟨nr,sr,cr,orr,rfl,hb3,hlo3,hlt3⟩:=id hrvZ
   obtain⟨z,hz⟩:∃ z,Z.next=z:=⟨_,rfl⟩
   have hzb:Z.base≤z:=hz▸okZ
   have hlt3':=hlt3
   rw[hz]at hlt3'
   rw[show Z=ext Z [] from rfl]
   simp (maxDischargeDepth:=6) only[g1,g2,g9,g10,g11,hz,hzb,hlt3',hA,ruD,ruW,putL,Nat.reduceLeDiff,xF,ruU,entryE,Nat.reduceLT,Nat.reduceAdd,Nat.reduceMul,Nat.reduceEqDiff]
   obtain⟨rvV,hrvV⟩:∃ q,q=Value.slice (some ⟨nr,0,spOf sr⟩) w1.length (w1.length+cr):=⟨_,rfl⟩
   have hone1:one rvV=true:=by rw[hrvV]; rfl
   rw[←hrvV]at hrvZ hidr ⊢
   rw[wd_app (by simp only[ruU,entryE,Nat.reduceLT,Nat.reduceAdd,Nat.reduceMul,Nat.reduceEqDiff])]
   generalize hY2:ext Z _=Y2
   have mY2:Mod [] Z Y2:=hY2▸Mod.ext okZ
   have hY2n:Y2.next=z+1:=by rw[←hY2,ext_next,hz]; rfl
   have hk2:bk Y2 (z+0)=some ⟨56,false,[rvV]⟩:=by rw[←hY2,bk_at hz (by simp)]; rfl
   have okY2:=mY2.ok okZ
   have mXY2:Mod [] X Y2:=mZ.trans mY2
   have hF2:∀ n∈(z+0)::idsV u,Y2.get n≠none∧n<Y2.next:=fun n hn=>by
    rcases zB2.1 hn with rfl|hn
    ·exact⟨bk_ne hk2,by omega⟩
    ·have:=gr.at_.ne n hn
     exact⟨by rw[mXY2.get n this.2 (by simp)]; exact this.1,zC9 this.2 mXY2.next⟩
   have hrn2:=restrict_next Y2 ((z+0)::idsV u)
   have hgtk:(g.take k).length=k:=by rw[zF6]; omega
   have vsY:=gr.at_.of (G:=Y2.restrict ((z+0)::idsV u)) (by rw[hrn2.1]; exact mXY2.next) (fun n hn=>by rw[restrict_get,if_pos (by simp[hn]),mXY2.get n (gr.at_.ne n hn).2 (by simp)])
   have hrvY2:OwnRow (b+2) Y2 rvV w1:=by
    obtain⟨n,s,c',o,e,h1,h2,h3⟩:=hrvZ.of mY2.next (fun n hn=>mY2.get n (hidr n hn).2.1 (by simp))
    exact⟨n,s,c',o,e,h1,by omega,h3⟩
   have hscr:scbL Y2.next (rvs++[rvV])=true:=scbL_append (scbL_mono mXY2.next _ gr.sc) (by rw[hrvV]; simp only[scbL,scb,Bool.and_true]; exact blt_of (by omega))
   obtain⟨G2,hap2,hvs2,hmd2,hgn2,_⟩:=vs_app (P:=Tryd.prog) (H:=Y2.restrict ((z+0)::idsV u)) (st:=22) (xt:=22) (e:=56) (sz:=1) (by1:=24) (z:=.slice none 0 0) (n:=z+0) (off:=0) (cnt2:=1) (cap:=1) (s:=some 0) (x:=Y2.next) (ws:=[rvV]) (b:=⟨56,false,[rvV]⟩)
    (by kernel_rfl) (by kernel_rfl) (by kernel_rfl) (by kernel_rfl) rfl (by kernel_rfl) vsY (rk_of ((bk_get (by rw[restrict_get,if_pos (by simp)])).trans hk2)) (by simp) rfl (by simp[hone1]) (by decide) (by simp only[small,zA4,Nat.ble_eq]; omega) hrn2.1 (by rw[hrn2.1]; exact hscr)
   refine genV_modO (H:=Y2) (W:=idsV u) ((z+0)::idsV u) okY2 (fun n hn=>(hF2 n hn).1) (fun n hn=>(hF2 n hn).2) (fun n hn=>by simp[hn]) (app_op (v:=_) (G:=G2) (by simp only[ruU,entryE,Nat.reduceLT,Nat.reduceAdd,Nat.reduceMul,Nat.reduceEqDiff]) (by simp only[ruU,entryE,Nat.reduceLT,Nat.reduceAdd,Nat.reduceMul,Nat.reduceEqDiff]; exact hap2)) (hmd2 (by rw[hrn2.1,hrn2.2.1]; exact zA5 _)) (by simp only[all2_cons,all2_nil,hA,true_or,and_true]) ?_
   intro Z3 D3 mZ3 hFZ3 hNZ3 hnZ3 hDZ3
   rw[hgn2]at hnZ3 hNZ3
   have hb4:bk Z3 Y2.next=some ⟨56,true,rvs++[rvV]⟩:=by
    obtain⟨_,_,⟨h0,_⟩|⟨_,n,e,hbn,_⟩⟩:=hvs2
    ·omega
    ·cases e
     exact (bk_get (hNZ3 _ (zA5 _) (by omega))).trans hbn
   have gr3:=gr.push mXY2 (by omega) hrvY2 (fun n hn=>by rw[hx]; exact (hidr n hn).1) hone1 mZ3 hb4 (by omega)
   have nbu:∀ j,j<b+2→j∉idsV u:=fun j hj h=>by have:=(gr.apart j h).1; omega
   have keep:∀ j,j<b+2→bk Z3 j=bk X j:=fun j hj=>(mZ3.bk (by omega) (nbu j hj)).trans (mXY2.bk (by omega) (by simp))
   have k0':=(keep (b+0) (by omega)).trans k0
   have k1':=(keep (b+1) (by omega)).trans k1
   obtain⟨z3,hz3⟩:∃ z3,Z3.next=z3:=⟨_,rfl⟩
   have l3:b+0<z3:=by omega
   have l4:Y2.next<z3:=by omega
   rw[hgtk]at gr3 ⊢
   rw[show Z3=ext Z3 [] from rfl]
   simp (maxDischargeDepth:=6) only[g1,g2,g9,g10,g11,hz3,k0',l3,l4,hA,wrap_succ (show k<1000000 by omega),ruD,ruW,putL,Nat.reduceLeDiff,xF,ruU,entryE,Nat.reduceLT,Nat.reduceAdd,Nat.reduceMul,Nat.reduceEqDiff]
   refine⟨⟨fun _=>.inr (.inl (by omega)),.inr (.inl (by omega)),fun _=>.inr (.inl (by omega))⟩,?_⟩
   generalize hU:uw Z3 (b+0) 0 _=U
   have mU:Mod [b+0] Z3 U:=hU▸Mod.uw (by simp)
   have hU2:bk U (b+0)=some ⟨24,false,[.slice (some ⟨Y2.next,0,none⟩) (k+1) (k+1),.int .i64 r,.int .i64 c]⟩:=by rw[←hU,bk_uw_eq,k0']; rfl
   have mXU:Mod ((b+0)::idsV u) X U:=((mXY2.mono (by simp)).trans (mZ3.mono (fun n hn=>zB3 _ hn))).trans (mU.mono (by simp))
   have hUn:=mU.next
   refine loopC_next ⟨(k+1,.slice (some ⟨Y2.next,0,none⟩) (k+1) (k+1),rvs++[rvV]),by simp only; omega,mX.step mXU hok (fun n hn=>?_),by rw[ext_next]; simp only[zC3]; omega,?_,hU2,?_,by simp only; omega,?_,?_,?_,?_,?_⟩
   ·rcases zB2.1 hn with rfl|hn
    ·exact .inr (by omega)
    ·have:=(gr.apart n hn).1; exact .inr (by omega)
   ·exact (mU.bk (by omega) (by simp)).trans k1'
   ·simp only
    rw[show g.take (k+1)=g.take k++[w1] from by rw[List.take_add_one,hr1]; rfl]
    refine gr3.of mU.next fun n hn hm=>mU.get n hn ?_
    simp only[zA8]
    rintro rfl
    rcases zB4.1 hm with hm|hm
    ·have:=(gr3.apart _ hm).1; omega
    ·have:=(gr3.ids _ hm).1; omega
   ·simp only[g1,ruU,entryE,Nat.reduceLT,Nat.reduceAdd,Nat.reduceMul,Nat.reduceEqDiff]
   ·simp only[g2,ruU,entryE,Nat.reduceLT,Nat.reduceAdd,Nat.reduceMul,Nat.reduceEqDiff]
   ·simp only[g9,ruU,entryE,Nat.reduceLT,Nat.reduceAdd,Nat.reduceMul,Nat.reduceEqDiff]
   ·simp only[g10,ruU,entryE,Nat.reduceLT,Nat.reduceAdd,Nat.reduceMul,Nat.reduceEqDiff]
   ·simp only[ruU,entryE,Nat.reduceLT,Nat.reduceAdd,Nat.reduceMul,Nat.reduceEqDiff]
 ·clear g1 g2 g9 g10 g11 k0 k1 n0 m0
  rintro E X ⟨u,rvs,mX,xl,k1,k0,gr,g1,g2⟩
  obtain⟨au,eu⟩:=gr.at_.len
  obtain⟨x,hx⟩:∃ x,X.next=x:=⟨_,rfl⟩
  rw[hx]at xl
  have l1:b+1<x:=by omega
  have l0:b+0<x:=by omega
  have hsu:scb x (.slice au g.length g.length)=true:=by
   rw[←eu]
   obtain⟨_,_,⟨_,rfl⟩|⟨_,n,rfl,_,h⟩⟩:=gr.at_
   ·rfl
   ·exact blt_of (by rw[←hx]; exact h)
  rw[eu]at k0
  rw[show X=ext X [] from rfl]
  simp (maxDischargeDepth:=6) only[g1,g2,hx,k0,k1,l0,l1,hsu,Tryd.results48,ruW,putL,Nat.reduceLeDiff,xF,ruU,entryE,Nat.reduceLT,Nat.reduceAdd,Nat.reduceMul,Nat.reduceEqDiff]
  generalize hU:uw X (b+1) 0 _=U
  have mU:Mod [b+1] X U:=hU▸Mod.uw (by simp)
  refine⟨u,rvs,by rw[eu],?_,mX.step mU hok (fun n hn=>by simp only[zA8]at hn; exact .inr (by omega))⟩
  have gU:=gr.of (Y:=U) mU.next fun n hn hm=>mU.get n hn (by
   simp only[zA8]
   rintro rfl
   rcases zB4.1 hm with hm|hm
   ·have:=(gr.apart _ hm).1; omega
   ·have:=(gr.ids _ hm).1; omega)
  exact⟨gU.at_,fun i rv l h1 h2=>by
   obtain⟨n,s,c',o,e,h3,h4,h5⟩:=gU.row i rv l h1 h2
   exact⟨n,s,c',o,e,h3,by omega,h5⟩,gU.nd,fun n hn=>⟨by have:=(gU.apart n hn).1; omega,(gU.apart n hn).2⟩,gU.sc⟩
def GridSc (H:AHeap) (v:Value):Prop:=∀ n off s len c b,v=.slice (some ⟨n,off,s⟩) len c→rk H n=some b→scbL H.next b.l=true
theorem GridAt.foot {H:AHeap} {v:Value} {g:List (List Ce)} (h:GridAt H v g) (hne:g≠[]):∃ F:List Nat,(∀ n∈F,H.get n≠none∧n<H.next)∧∀ G:AHeap,H.next≤G.next→(∀ n∈F,G.get n=H.get n)→GridAt G v g∧(GridSc H v→GridSc G v):=by
 rcases h with⟨h,_⟩|⟨_,n,off,s,c,e,o,L,rfl,hb,hlt,hle,ht⟩
 ·exact absurd h hne
 refine⟨n::(List.range g.length).flatMap fun k=>rowF (g.getD k []) (L.getD (off+k) (.slice none 0 0)),fun m hm=>?_,fun G hn hg=>⟨.inr ⟨hne,n,off,s,c,e,o,L,rfl,(rk_get (hg n (by simp))).trans hb,by omega,hle,fun k row hk=>?_⟩,fun hs n' off' s' len' c' b' e' hb'=>?_⟩⟩
 ·rcases zB2.1 hm with rfl|hm
  ·exact⟨rk_ne hb,hlt⟩
  ·obtain⟨k,hk,hm⟩:=zE3.1 hm
   have hk:=zF1.1 hk
   obtain⟨row,hrow⟩:∃ row,g[k]?=some row:=⟨_,zA6 hk⟩
   obtain⟨rv,hrv,hr⟩:=ht k row hrow
   rw[zE8,hrow,zE8,hrv]at hm
   simp only[Option.getD_some]at hm
   unfold rowF at hm
   split at hm
   ·cases hm
   ·rename_i hl; exact hr.ne hl m hm
 ·obtain⟨rv,hrv,hr⟩:=ht k row hk
  refine⟨rv,hrv,hr.ofF hn fun m hm=>hg m (zB3 _ (zE3.2 ⟨k,zF1.2 (zE2.1 hk).1,?_⟩))⟩
  rw[zE8,hk,zE8,hrv]
  exact hm
 ·cases e'
  rw[rk_get (hg n (by simp))]at hb'
  exact scbL_mono hn _ (hs n off s _ _ b' rfl hb')
theorem OpsAt.mod0 {H G:AHeap} {v:Value} {l:List Op} (h:OpsAt H v l) (m:Mod [] H G):OpsAt G v l:=by
 rcases h with⟨rfl,a,c,rfl⟩|⟨hl,n,off,s,c,e,o,L,rfl,hb,hlt,hle,ht⟩
 ·exact .inl ⟨rfl,a,c,rfl⟩
 ·exact .inr ⟨hl,n,off,s,c,e,o,L,rfl,(rk_get (m.get n hlt (by simp))).trans hb,m.lt hlt,hle,ht⟩
theorem OpsAt.old {H:AHeap} {v:Value} {l:List Op} (h:OpsAt H v l) (hl:l≠[]):∀ n∈idsV v,n<H.next:=by
 rcases h with⟨rfl,_⟩|⟨_,n,off,s,c,e,o,L,rfl,hb,hlt,_⟩
 ·exact absurd rfl hl
 ·intro m hm; simp only[idsV,zA8]at hm; omega
def St.start (g:List (List Ce)) (r c:Int):St:=⟨g,r,c,⟨0,0,false,false,false⟩,max r 0,c,decide (0≤r)⟩
def St.atR (y:St):Int:=if y.shown=true then y.row else -1
def St.atC (W:Nat) (y:St):Int:=if y.shown=true then min y.col ((W:Int)-1) else 0
theorem chk_ok {g:List (List Ce)} {r c:Int} (h:chkR g r c=0):(St.start g r c).Ok (widG g)∧(∀ l∈g,l≠[])∧g≠[]:=by
 unfold chkR at h
 cases h1:(decide ((g.length:Int)<1)||decide (200<(g.length:Int))) with
 |true=>rw[h1,cond_true]at h; omega
 |false =>
  rw[h1,cond_false]at h
  simp only[Bool.or_eq_false_iff,decide_eq_false_iff_not]at h1
  obtain⟨W,hW⟩:∃ W,widG g=W:=⟨_,rfl⟩
  rw[hW]at h ⊢
  cases h2:(decide ((W:Int)<1)||decide (1000<(W:Int))||(!(decide (0≤r)&&decide (r<(g.length:Int))&&decide (0≤c)&&decide (c<(W:Int)))&&!(decide (r=-1)&&decide (c=0)))) with
  |true=>rw[h2,cond_true]at h; omega
  |false =>
   rw[h2,cond_false]at h
   cases h3:okGrid W g with
   |false=>rw[h3,cond_false]at h; omega
   |true =>
    have hw:∀ l∈g,l.length=W:=fun l hl=>by
     have:=zC0.1 h3 l hl
     unfold okRow at this
     simp only[zA4,decide_eq_true_eq]at this
     exact this.1
    simp only[Bool.or_eq_false_iff,decide_eq_false_iff_not]at h2
    obtain⟨⟨w1,w2⟩,hp⟩:=h2
    have hpos:(0≤r∧r<(g.length:Int)∧0≤c∧c<(W:Int))∨(r=-1∧c=0):=by
     by_cases q:(r=-1∧c=0)
     ·exact .inr q
     ·left
      have:(decide (r=-1)&&decide (c=0))=false:=by
       by_cases q1:r=-1<;>by_cases q2:c=0<;>simp_all
      rw[this]at hp
      simp only[zD6,Bool.and_true,Bool.not_eq_false',zA4,decide_eq_true_eq]at hp
      exact⟨hp.1.1.1,hp.1.1.2,hp.1.2,hp.2⟩
    refine⟨⟨by show 1≤g.length; omega,by show g.length≤200; omega,by omega,by omega,hw,by show 0≤max r 0; omega,by show max r 0<g.length; omega,by show 0≤c; omega,by show c≤W; omega⟩,fun l hl e=>?_,fun e=>?_⟩
    ·have:=hw l hl; rw[e]at this; simp at this; omega
    ·rw[e]at h1; simp at h1
theorem all_ok {W:Nat} {r:List UInt8→Option (List Int)}:∀ (l:List Op) (i:Nat) (x y:St),x.Ok W→St.all W r l i x=.inl y→y.Ok W
 |[],_,x,y,ok,h=>by rw[St.all]at h; cases h; exact ok
 |o::l,i,x,y,ok,h=>by
  rw[St.all]at h
  cases hd:x.does W r o with
  |none=>rw[hd]at h; cases h
  |some z=>rw[hd]at h; exact all_ok l (i+1) z y (does_ok ok hd) h
def AppR (H:AHeap) (g:List (List Ce)) (r c:Int) (l:List Op) (out:Out) (X:AHeap):Prop :=
 Mod [] H X∧if chkR g r c=0 then (match St.all (widG g) ptsR l 0 (St.start g r c) with
  |.inr i=>out=.ok (.tuple #[.agg #[.slice none 0 0,.int .i64 0,.int .i64 0],.int .i64 5,.int .i64 (i:Int)])
  |.inl y=>∃ u rvs N,out=.ok (.tuple #[.agg #[u,.int .i64 y.atR,.int .i64 (y.atC (widG g))],.int .i64 0,.int .i64 0])∧H.next≤N∧OwnG N X u rvs y.grid)
 else out=.ok (.tuple #[.agg #[.slice none 0 0,.int .i64 0,.int .i64 0],.int .i64 (chkR g r c),.int .i64 0])
def largeR (g:List (List Ce)):Bool:=(g.take 13).any (fun l=>decide (60<l.length))||decide (12<g.length)
theorem largeR_false {g:List (List Ce)} (h:largeR g=false):g.length≤12∧∀ l∈g,l.length≤60:=by
 rw[largeR,Bool.or_eq_false_iff]at h
 have h2:=of_decide_eq_false h.2
 refine⟨by omega,fun l hl=>?_⟩
 have h1:=h.1
 rw[zE6 (by omega),List.any_eq_false]at h1
 have:=h1 l hl
 simpa using this
theorem large_c (H:AHeap) (v:Value) (g:List (List Ce)) (r c:Int) (hg:GridAt H v g):Pure 10 [.agg ⟨[v,.int .i64 r,.int .i64 c]⟩] H (.bool (largeR g)):=by
 obtain⟨b,hb⟩:∃ b,H.next=b:=⟨_,rfl⟩
 refine callS_fn mixed Tryd.func10 rfl Tryd.ntmps10 (zA9 rfl) fun wf hsc=>?_
 have hbase:H.base≤b:=hb▸wf.base
 have hg':=hg
 obtain⟨a0,c0,e0⟩:=hg.sl
 have hscv:scb b v=true:=by
  simp only[scbL,scb,scbA,zA4,hb]at hsc
  exact hsc.1.1
 obtain⟨B,hB⟩:∃ B,largeR g=B:=⟨_,rfl⟩
 rw[hB]
 obtain⟨X,hX⟩:∃ X,X=ext H [⟨24,false,[v,.int .i64 r,.int .i64 c]⟩]:=⟨_,rfl⟩
 rw[e0]at hscv hX ⊢
 simp (maxDischargeDepth:=6) only[hb,hbase,hscv,ruW,putL,Nat.reduceLeDiff,xF,ruU,entryE,Nat.reduceLT,Nat.reduceAdd,Nat.reduceMul,Nat.reduceEqDiff]
 refine w_env fun E hE=>?_
 have g1:E 1=.pointer (some ⟨b+0,0,none⟩):=by rw[hE]; simp only[ruU,entryE,Nat.reduceLT,Nat.reduceAdd,Nat.reduceMul,Nat.reduceEqDiff]
 have g3:E 3=.int .i64 ((0:Nat):Int):=by rw[hE]; (simp only[ruU,entryE,Nat.reduceLT,Nat.reduceAdd,Nat.reduceMul,Nat.reduceEqDiff]<;>rfl)
 clear hE
 refine blockC_meet (fun E' H'=>H'=X∧E' 1=.pointer (some ⟨b+0,0,none⟩)∧B=decide (12<g.length)) ?_ ?_
 ·refine w_loop (fun (k:Nat) E' H'=>H'=X∧E' 1=.pointer (some ⟨b+0,0,none⟩)∧E' 3=.int .i64 (k:Int)∧k≤g.length∧k≤13∧∀ i l,i<k→g[i]?=some l→l.length≤60) (fun k=>g.length-k) 0
   ⟨hX.symm,g1,g3,zB0 _,by omega,fun i l hi=>by omega⟩ ?_
  clear g1 g3
  rintro k E H' ⟨hH,g1,g3,hk,hk13,hpre⟩
  rw[hH,hX]
  have fin:(∀ i l,i<13→g[i]?=some l→l.length≤60)→B=decide (12<g.length):=fun hall=>by
   rw[←hB,largeR]
   have:(g.take 13).any (fun l=>decide (60<l.length))=false:=by
    rw[List.any_eq_false]
    intro l hl
    obtain⟨i,hi⟩:=List.getElem?_of_mem hl
    have hi13:i<13:=by
     have:=(zE2.1 hi).1
     rw[zF6]at this
     omega
    rw[List.getElem?_take,if_pos hi13]at hi
    have:=hall i l hi13 hi
    simp; omega
   rw[this,Bool.false_or]
  by_cases hkl:k=g.length
  ·have hc:decide ((k:Int)<(g.length:Int))=false:=by simp[hkl]
   simp (maxDischargeDepth:=6) only[g1,g3,hb,hbase,hc,ruW,putL,Nat.reduceLeDiff,xF,ruU,entryE,Nat.reduceLT,Nat.reduceAdd,Nat.reduceMul,Nat.reduceEqDiff]
   refine joinR_normal ⟨rfl,by simp only[g1,ruU,entryE,Nat.reduceLT,Nat.reduceAdd,Nat.reduceMul,Nat.reduceEqDiff],fin fun i l hi hl=>hpre i l (by have:=(zE2.1 hl).1; omega) hl⟩
  ·have hlk:k<g.length:=by omega
   have hc:decide ((k:Int)<(g.length:Int))=true:=decide_eq_true (by omega)
   by_cases hk3:k=13
   ·have hc2:decide ((k:Int)<13)=false:=by simp[hk3]
    simp (maxDischargeDepth:=6) only[g1,g3,hb,hbase,hc,hc2,ruW,putL,Nat.reduceLeDiff,xF,ruU,entryE,Nat.reduceLT,Nat.reduceAdd,Nat.reduceMul,Nat.reduceEqDiff]
    refine joinR_normal ⟨rfl,by simp only[g1,ruU,entryE,Nat.reduceLT,Nat.reduceAdd,Nat.reduceMul,Nat.reduceEqDiff],fin fun i l hi hl=>hpre i l (by omega) hl⟩
   ·have hc2:decide ((k:Int)<13)=true:=decide_eq_true (by omega)
    rcases hg with⟨h',_⟩|⟨_,n1,o1,s1,x1,t1,p1,L1,ev,b1,n1l,le1,tk1⟩
    ·rw[h']at hlk; simp at hlk
    rw[ev]at e0
    cases e0
    obtain⟨w1,hr1⟩:∃ r,g[k]?=some r:=⟨_,zA6 hlk⟩
    obtain⟨u1,hu1,ra1⟩:=tk1 k w1 hr1
    obtain⟨a1,c1,e1⟩:=ra1.sl
    rw[e1]at hu1
    have i1:=grid_ia (n:=n1) (off:=o1) (s:=s1) (cap:=c0) (i:=(k:Int)) rfl hlk
    have q1:=grid_load (e:=t1) (o:=p1) hu1
    rw[hb]at n1l
    obtain⟨d,hd⟩:∃ d,decide ((60:Int)<(w1.length:Int))=d:=⟨_,rfl⟩
    cases d with
    |true =>
     obtain rfl:true=B:=by
      rw[←hB,largeR,List.any_eq_true.2 ⟨w1,?_,?_⟩,Bool.true_or]
      ·refine zB9 (i:=k) ?_
       rw[List.getElem?_take,if_pos (by omega),hr1]
      ·have:=of_decide_eq_true hd
       exact decide_eq_true (by omega)
     simp (maxDischargeDepth:=6) only[g1,g3,hb,hbase,hc,hc2,i1,b1,n1l,q1,qk_old,hd,joinR_ret,Tryd.results10,ruW,putL,Nat.reduceLeDiff,xF,ruU,entryE,Nat.reduceLT,Nat.reduceAdd,Nat.reduceMul,Nat.reduceEqDiff]
     exact Fin.pureE rfl rfl
    |false =>
     simp (maxDischargeDepth:=6) only[g1,g3,hb,hbase,hc,hc2,i1,b1,n1l,q1,qk_old,hd,wrap_succ (show k<1000000 by omega),ruW,putL,Nat.reduceLeDiff,xF,ruU,entryE,Nat.reduceLT,Nat.reduceAdd,Nat.reduceMul,Nat.reduceEqDiff]
     refine loopC_next ⟨k+1,by omega,rfl,?_,?_,by omega,by omega,fun i l hi hl=>?_⟩
     ·simp only[g1,ruU,entryE,Nat.reduceLT,Nat.reduceAdd,Nat.reduceMul,Nat.reduceEqDiff]
     ·simp only[ruU,entryE,Nat.reduceLT,Nat.reduceAdd,Nat.reduceMul,Nat.reduceEqDiff]
     ·rcases zC4 i k with h'|h'
      ·exact hpre i l h' hl
      ·obtain rfl:i=k:=by omega
       rw[hr1]at hl
       cases hl
       have:=of_decide_eq_false hd
       omega
 ·rintro E H' ⟨hH,g1,hBe⟩
  rw[hH,hX]
  have hd:decide ((12:Int)<(g.length:Int))=B:=by rw[hBe]; exact decide_eq_decide.2 (by omega)
  simp (maxDischargeDepth:=6) only[g1,hb,hbase,hd,Tryd.results10,ruW,putL,Nat.reduceLeDiff,xF,ruU,entryE,Nat.reduceLT,Nat.reduceAdd,Nat.reduceMul,Nat.reduceEqDiff]
  exact Fin.pureE rfl rfl
def lenR (l:List UInt8):Int:=match ptsR l with
 |none=>0
 |some r=>r.length
theorem count_c (H:AHeap) (s:ByteArray) (r:List Int) (hr:ptsR s.data.toList=some r) (hlen:s.data.toList.length≤100000):Pure 75 [.string s] H (.int .i64 (r.length:Int)):=by
 refine callS_fn mixed Tryd.func75 rfl Tryd.ntmps75 (zA9 rfl) fun wf hsc=>?_
 have hok:=wf.base
 have e1:=range_str (H:=ext H []) (s:=s) u9
 simp (maxDischargeDepth:=6) only[w_rangeS,e1,ruW,putL,Nat.reduceLeDiff,xF,ruU,entryE,Nat.reduceLT,Nat.reduceAdd,Nat.reduceMul,Nat.reduceEqDiff]
 refine w_env fun E hE=>?_
 have g2:E 2=.int .i64 ((0:Nat):Int):=by rw[hE]; (simp only[ruU,entryE,Nat.reduceLT,Nat.reduceAdd,Nat.reduceMul,Nat.reduceEqDiff]<;>rfl)
 have g4:E 4=.pointer (some ⟨H.next,0,none⟩):=by rw[hE]; (simp only[ruU,entryE,Nat.reduceLT,Nat.reduceAdd,Nat.reduceMul,Nat.reduceEqDiff]<;>rfl)
 clear hE
 refine blockC_meet (fun E' X=>Mod [] H X∧E' 2=.int .i64 (r.length:Int)) ?_ ?_
 ·refine w_loop (fun (q:Nat × Nat) E' X=>Mod [] H X∧X.get H.next=some (itO s q.1)∧H.next<X.next∧some r.length=(ptsR (s.data.toList.drop q.1)).map (fun l=>q.2+l.length)∧q.2≤q.1∧q.1≤s.data.toList.length∧E' 4=.pointer (some ⟨H.next,0,none⟩)∧E' 2=.int .i64 (q.2:Int)) (fun q=>s.data.toList.length-q.1) (0,0)
   ⟨Mod.new hok,by rw[AHeap.get_new,if_pos (show H.next=(ext H []).next from rfl)],zC6 _,by rw[zD3,hr]; simp,zA5 _,zB0 _,g4,g2⟩ ?_
  clear g2 g4 E
  rintro⟨p,k⟩ E X ⟨m,hit,hlt,hrr,hlp,hps,g4,g2⟩
  simp only at hit hrr hlp hps g2
  rw[show X=ext X [] from rfl]
  by_cases h0:p<s.data.toList.length
  ·have hl0:0<(s.data.toList.drop p).length:=by rw[zD8]; omega
   have hpt:=ptR_len _ hl0
   have hdec:=pt_dec _ hl0
   rw[Go.Lib.decodeL_drop]at hdec
   rw[ptsR_step _ hl0]at hrr
   obtain⟨c,n,hcn⟩:∃ c n,ptR (s.data.toList.drop p)=(c,n):=⟨_,_,rfl⟩
   rw[hcn]at hpt hdec hrr
   simp only at hpt hdec hrr
   by_cases hn:n=0
   ·rw[if_pos hn]at hrr
    cases hrr
   rw[if_neg hn]at hrr
   obtain⟨h1,h2,h3,h4⟩:=hdec.resolve_left (fun h=>hn h.1)
   have hnx:=next_str (H:=ext X []) (n:=H.next) (p:=p) (s:=s) hit (by rw[size_len]; exact h0)
   obtain⟨Y,hY⟩:∃ Y,X.upd H.next (some (itO s (p+(Utf8.decode s p).2)))=Y:=⟨_,rfl⟩
   have mY:Mod [H.next] X Y:=hY▸Mod.upd (by simp)
   have hYn:Y.next=X.next:=by rw[←hY]; rfl
   have hYit:Y.get H.next=some (itO s (p+(Utf8.decode s p).2)):=by rw[←hY,AHeap.get_upd,if_pos rfl]
   rw[show (ext X []).upd H.next (some (itO s (p+(Utf8.decode s p).2)))=ext Y [] from hY,←h2]at hnx
   simp (maxDischargeDepth:=6) only[g2,g4,w_nextS,hnx,ruW,putL,Nat.reduceLeDiff,xF,ruU,entryE,Nat.reduceLT,Nat.reduceAdd,Nat.reduceMul,Nat.reduceEqDiff]
   simp (maxDischargeDepth:=6) only[g2,g4,wrap_succ (show k<1000000 by omega),ruW,putL,Nat.reduceLeDiff,xF,ruU,entryE,Nat.reduceLT,Nat.reduceAdd,Nat.reduceMul,Nat.reduceEqDiff]
   refine loopC_next ⟨(p+n.toNat,k+1),?_,?_,?_,?_,?_,?_,?_,?_,?_⟩
   ·simp only; omega
   ·exact m.step mY hok (fun q hq=>.inr (by simp only[zA8]at hq; omega))
   ·rw[show (ext Y []).get H.next=Y.get H.next from rfl,hYit]
    rw[show (Utf8.decode s p).2=n.toNat by omega]
   ·rw[show (ext Y []).next=Y.next from rfl,hYn]; exact hlt
   ·rw[hrr,Option.map_map,List.drop_drop]
    congr 1
    funext y
    simp only[Function.comp,zB5]
    omega
   ·simp only; omega
   ·rw[zD8]at hpt; simp only; omega
   ·simp only[g4,ruU,entryE,Nat.reduceLT,Nat.reduceAdd,Nat.reduceMul,Nat.reduceEqDiff]
   ·simp only[ruU,entryE,Nat.reduceLT,Nat.reduceAdd,Nat.reduceMul,Nat.reduceEqDiff]
  ·have hnx:=next_end (H:=ext X []) (n:=H.next) (p:=p) (s:=s) hit (by rw[size_len]; exact h0)
   rw[zE7 (by omega),ptsR_nil]at hrr
   have hk:r.length=k:=by simpa using hrr
   simp (maxDischargeDepth:=6) only[g2,g4,w_nextS,hnx,ruW,putL,Nat.reduceLeDiff,xF,ruU,entryE,Nat.reduceLT,Nat.reduceAdd,Nat.reduceMul,Nat.reduceEqDiff]
   exact joinR_normal ⟨m,by simp only[g2,hk,ruU,entryE,Nat.reduceLT,Nat.reduceAdd,Nat.reduceMul,Nat.reduceEqDiff]⟩
 ·clear g2 g4
  rintro E X ⟨m,g2⟩
  rw[show X=ext X [] from rfl]
  simp (maxDischargeDepth:=6) only[g2,Tryd.results75,ruW,putL,Nat.reduceLeDiff,xF,ruU,entryE,Nat.reduceLT,Nat.reduceAdd,Nat.reduceMul,Nat.reduceEqDiff]
  exact Ax.Fin.mod rfl m rfl
theorem len_c (H:AHeap) (t:Tab H) (s:ByteArray) (hlen:s.data.toList.length≤100000):Pure 52 [.string s] H (.int .i64 (lenR s.data.toList)):=by
 obtain⟨n,hn⟩:∃ n,lenR s.data.toList=n:=⟨_,rfl⟩
 have hv:=valid_c (ext H []) t s (by rw[size_len]; omega)
 rw[valid_pts _ _ (zA5 _)]at hv
 rw[hn]
 unfold lenR at hn
 cases hp:ptsR s.data.toList with
 |none =>
  rw[hp]at hv hn
  simp only at hn
  subst hn
  refine callS_fn mixed Tryd.func52 rfl Tryd.ntmps52 (zA9 rfl) fun wf hsc=>?_
  simp (maxDischargeDepth:=6) only[ruW,putL,Nat.reduceLeDiff,xF,ruU,entryE,Nat.reduceLT,Nat.reduceAdd,Nat.reduceMul,Nat.reduceEqDiff]
  refine hv.to ?_
  simp (maxDischargeDepth:=6) only[Option.isSome_none,zD6,Tryd.results52,ruW,putL,Nat.reduceLeDiff,xF,ruU,entryE,Nat.reduceLT,Nat.reduceAdd,Nat.reduceMul,Nat.reduceEqDiff]
  exact Fin.pureE rfl rfl
 |some r =>
  rw[hp]at hv hn
  simp only at hn
  subst hn
  have hc:=count_c (ext H []) s r hp hlen
  refine callS_fn mixed Tryd.func52 rfl Tryd.ntmps52 (zA9 rfl) fun wf hsc=>?_
  simp (maxDischargeDepth:=6) only[ruW,putL,Nat.reduceLeDiff,xF,ruU,entryE,Nat.reduceLT,Nat.reduceAdd,Nat.reduceMul,Nat.reduceEqDiff]
  refine hv.to ?_
  simp (maxDischargeDepth:=6) only[Option.isSome_some,zC8,ruW,putL,Nat.reduceLeDiff,xF,ruU,entryE,Nat.reduceLT,Nat.reduceAdd,Nat.reduceMul,Nat.reduceEqDiff]
  refine hc.to ?_
  simp (maxDischargeDepth:=6) only[Tryd.results52,ruW,putL,Nat.reduceLeDiff,xF,ruU,entryE,Nat.reduceLT,Nat.reduceAdd,Nat.reduceMul,Nat.reduceEqDiff]
  exact Fin.pureE rfl rfl
def costR:List Op→Int
 |[]=>0
 |x::l=>(if x.kind=3 then lenR x.text.data.toList else 0)+costR l
theorem lenR_le (l:List UInt8):0≤lenR l∧lenR l≤l.length:=by
 unfold lenR
 cases h:ptsR l with
 |none=>exact⟨Int.le_refl _,by simp⟩
 |some r=>exact⟨by simp,by have:=ptsR_len _ _ _ (zA5 _) h; simp only; omega⟩
theorem opsAt_mod {H X:AHeap} {v:Value} {l:List Op} (h:OpsAt H v l) (m:Mod [] H X):OpsAt X v l:=by
 rcases h with⟨rfl,a,c,rfl⟩|⟨hl,n,off,s,c,e,o,L,rfl,hb,hlt,hle,ht⟩
 ·exact .inl ⟨rfl,a,c,rfl⟩
 ·exact .inr ⟨hl,n,off,s,c,e,o,L,rfl,(rk_get (m.get n hlt (by simp))).trans hb,zC9 hlt m.next,hle,ht⟩
theorem opsOf_len (l:List Op):(opsOf l).length=l.length*10:=flat_len _ _ op_len l
theorem RowAt.mod0 {H G:AHeap} {v:Value} {l:List Ce} (h:RowAt H v l) (m:Mod [] H G):RowAt G v l:=by
 by_cases hl:l=[]
 ·obtain⟨a,c,e⟩:=h.sl
  subst hl
  exact .inl ⟨rfl,a,c,e⟩
 ·exact h.of m.next fun n hn=>m.get n (h.ne hl n hn).2 (by simp)
theorem GridAt.mod0 {H G:AHeap} {v:Value} {g:List (List Ce)} (h:GridAt H v g) (m:Mod [] H G):GridAt G v g:=by
 rcases h with h|⟨hg,n,off,s,c,e,o,L,rfl,hb,hlt,hle,hr⟩
 ·exact .inl h
 ·refine .inr ⟨hg,n,off,s,c,e,o,L,rfl,(rk_get (m.get n hlt (by simp))).trans hb,m.lt hlt,hle,fun k row hk=>?_⟩
  obtain⟨rv,h1,h2⟩:=hr k row hk
  exact⟨rv,h1,h2.mod0 m⟩
theorem ops_one (l:List Op):(opsOf l).all one=true:=by
 induction l with
 |nil=>rfl
 |cons x l ih=>rw[opsOf,zF8,List.all_append,zA4]; exact⟨rfl,ih⟩
theorem ops_sc (N:Nat) (l:List Op):scbL N (opsOf l)=true:=by
 induction l with
 |nil=>rfl
 |cons x l ih=>rw[opsOf,zF8]; exact scbL_append rfl ih
def appV (g:List (List Ce)) (r c:Int) (l:List Op):List (List Ce) × Int × Int × Int × Int :=
 if chkR g r c=0 then (match St.all (widG g) ptsR l 0 (St.start g r c) with
  |.inr i=>([],0,0,5,(i:Int))
  |.inl y=>(y.grid,y.atR,y.atC (widG g),0,0))
 else ([],0,0,chkR g r c,0)
theorem OwnG.none {N:Nat} {X:AHeap}:OwnG N X (.slice none 0 0) [] []:=⟨rfl,.inl ⟨rfl,rfl⟩,fun i rv l h=>by simp at h,by simp⟩
theorem AppR.val {H X:AHeap} {g:List (List Ce)} {r c:Int} {l:List Op} {out:Out} (h:AppR H g r c l out X):Mod [] H X∧∃ u rvs N,out=.ok (.tuple #[.agg #[u,.int .i64 (appV g r c l).2.1,.int .i64 (appV g r c l).2.2.1],.int .i64 (appV g r c l).2.2.2.1,.int .i64 (appV g r c l).2.2.2.2])∧H.next≤N∧OwnG N X u rvs (appV g r c l).1:=by
 obtain⟨m,h⟩:=h
 refine⟨m,?_⟩
 unfold appV
 split at h
 ·rename_i hc
  rw[if_pos hc]
  split at h
  ·rename_i i hi
   try rw[hi]
   exact⟨_,[],H.next,h,zA5 _,OwnG.none⟩
  ·rename_i y hy
   try rw[hy]
   exact h
 ·rename_i hc
  rw[if_neg hc]
  exact⟨_,[],H.next,h,zA5 _,OwnG.none⟩
theorem o_und:Tryd.prog.underlying 28=some (.slice 47):=by kernel_rfl
theorem o_sz:szOf Tryd.prog 47=some 10:=by kernel_rfl
theorem o_by:bytesOf Tryd.prog 47=some 72:=by kernel_rfl
theorem o_zero:zeroOf Tryd.prog 47=some (.agg #[.int .i64 0,.int .i64 0,.int .i64 0,.int .i64 0,.int .i64 0,.int .i64 0,.bool false,.bool false,.bool false,.string ⟨#[]⟩]):=by kernel_rfl
theorem o_int:intTy Tryd.prog 28=some false:=by kernel_rfl
theorem o_small {n:Nat} (h:n≤100000):small n 72=true:=by simp only[small,zA4,Nat.ble_eq]; omega
theorem opsOf_append (l m:List Op):opsOf (l++m)=opsOf l++opsOf m:=by simp[opsOf]
def OpsV (H:AHeap) (m:Nat) (v:Value) (l:List Op):Prop :=
 (l=[]∧v=.slice (some ⟨m,0,some 0⟩) 0 0∧bk H m=some ⟨47,false,[]⟩∧m<H.next)∨(l≠[]∧VsAt H 47 10 v (opsOf l) l.length)
theorem opsV_app {H:AHeap} {m:Nat} {v u:Value} {l l2:List Op} (h:OpsV H m v l) (hp:OpsAt H u l2) (hok:H.base≤H.next) (hl:l.length+l2.length≤100000) :
  ∃ v' G,aBuiltin Tryd.prog H .append ⟨[28,28]⟩ [v,u]=some (v',G)∧OpsV G m v' (l++l2)∧Mod (idsV v) H G∧∀ n∈idsV v',n∈idsV v∨H.next≤n:=by
 by_cases h2:l2=[]
 ·subst h2
  obtain⟨a,c,rfl⟩:=hp.sl
  rw[zD0]
  have hle:Go.Ax.lenV (.slice a ([]:List Op).length c)=some 0:=rfl
  have hfi:firstC H 10 0 (.slice a ([]:List Op).length c)=some []:=by
   cases a with
   |none=>rfl
   |some a=>simp only[firstC,if_true]
  have core:∀ (n k:Nat) (s:Option Nat) (b:Bl),v=.slice (some ⟨n,0,s⟩) k k→s.getD 0=0→bk H n=some b→n<H.next→k*10≤b.l.length→k≤100000→OpsV H m v l →
    ∃ v' G,aBuiltin Tryd.prog H .append ⟨[28,28]⟩ [v,.slice a ([]:List Op).length c]=some (v',G)∧OpsV G m v' l∧Mod (idsV v) H G∧∀ n∈idsV v',n∈idsV v∨H.next≤n:=fun n k s b e hs hb hlt hkb hk hv=>by
   subst e
   have hw:=write_old (H:=H) (L:=[]) (n:=n) (off:=0+k*10) (vs:=[]) hlt hb (by simp only[zC3]; omega) rfl rfl
   have ha:=app_in (P:=Tryd.prog) (H:=H) (st:=28) (xt:=28) (m:=n) (off:=0) (k:=k) (cap:=k) (sp:=s) o_und o_sz o_by o_zero rfl o_int hle hfi rfl (by omega) (o_small (by omega))
   rw[show aWrite H n (0+k*10) []=aWrite (ext H []) n (0+k*10) [] from rfl,hw,zA7]at ha
   refine⟨_,_,ha,?_,Mod.uw (by simp[idsV]),fun q hq=>.inl hq⟩
   have hbu:bk (uw H n (0+k*10) []) n=some b:=by
    rw[bk_uw_eq,hb]
    simp[putB,putL_nl]
   rcases hv with⟨rfl,e,hbm,hm⟩|⟨h0,q1,q2,⟨q3,_⟩|⟨q3,n',e,hbm,hm⟩⟩
   ·simp only[Value.slice.injEq,Option.some.injEq,Addr.mk.injEq,true_and]at e
    obtain⟨⟨rfl,rfl⟩,rfl,_⟩:=e
    rw[hbm]at hb
    cases hb
    exact .inl ⟨rfl,rfl,hbu,by rw[ext_next,uw_next]; simpa using hm⟩
   ·exact absurd (zC5 q3) h0
   ·simp only[Value.slice.injEq,Option.some.injEq,Addr.mk.injEq,true_and]at e
    obtain⟨⟨rfl,rfl⟩,rfl,_⟩:=e
    rw[hbm]at hb
    cases hb
    exact .inr ⟨h0,q1,q2,.inr ⟨q3,n,rfl,hbu,by rw[ext_next,uw_next]; simpa using hm⟩⟩
  rcases id h with⟨rfl,e,hb,hm⟩|⟨h0,h1,h2,⟨h3,_⟩|⟨h3,n,e,hb,hn⟩⟩
  ·exact core m 0 (some 0) _ e rfl hb hm (by simp) (by omega) h
  ·exact absurd (zC5 h3) h0
  ·exact core n l.length none _ e rfl hb hn (by simp only; rw[opsOf_len]; exact zA5 _) (by omega) h
 ·rcases hp with⟨e,_⟩|⟨_,n,off,s,c,e,o,L,rfl,hb,hnl,hle,ht⟩
  ·exact absurd e h2
  have hpos:0<l2.length:=List.length_pos_iff.2 h2
  rcases h with⟨rfl,rfl,hm,hlt⟩|⟨h0,h⟩
  ·have happ:=app_exactP (P:=Tryd.prog) (H:=H) (st:=28) (xt:=28) (e:=47) (sz:=10) (by1:=72) (m:=m) (k:=0) (n:=n) (off:=off) (cnt:=l2.length) (cap:=c) (s:=s) (b:=⟨e,o,L⟩) (bm:=⟨47,false,[]⟩)
    o_und o_sz o_by o_zero rfl o_int hm (by simp) rfl hb hle (by rw[ht]; exact ops_one l2) hpos (o_small (by omega))
   have hn:=new_ext (H:=H) (L:=[]) (e:=47) (l:=opsOf l2) (o:=true) (ops_sc _ _)
   simp only[ht,zE1,List.take_zero,zB8]at happ
   rw[show H=ext H [] from rfl,hn,zA7]at happ
   simp only[zC1]at happ
   refine⟨_,_,happ,.inr ⟨by simpa using h2,by rw[zB8,opsOf_len],by rw[zB8]; exact ops_one l2,.inr ⟨by simpa using hpos,H.next+0,rfl,?_,by rw[ext_next]; simp⟩⟩,Mod.ext hok,fun q hq=>by simp only[idsV,zA8]at hq; exact .inr (by rw[hq]; exact zA5 _)⟩
   rw[zB8,zB8,bk_at rfl (by simp)]; rfl
  ·obtain⟨G,ga,gb,gc,gd,ge⟩:=vs_app (P:=Tryd.prog) (H:=H) (st:=28) (xt:=28) (e:=47) (sz:=10) (by1:=72) (n:=n) (off:=off) (cnt2:=l2.length) (cap:=c) (s:=s) (x:=H.next) (ws:=opsOf l2) (b:=⟨e,o,L⟩)
    o_und o_sz o_by o_zero rfl o_int h hb hle ht (ops_one l2) hpos (o_small (by omega)) rfl (scbL_append (ops_sc _ _) (ops_sc _ _))
   refine⟨_,G,ga,.inr ⟨by simp[h2],?_⟩,gc hok,fun q hq=>.inr (by simp only[idsV,zA8]at hq; omega)⟩
   rw[opsOf_append,zB6]
   exact gb
section
variable {Z : AHeap} {N : Nat} {E : Env} {ds : List Deferred} {ops : Array Oper} {anc : List Nat} {ty : TypeId} {pos : String} {after : Array Edge} {rest : List Oper} {i d m : Nat} {fps : List Fp} {Q : AAct → AHeap → Prop} {v u : Value} {l l2 : List Op}
end
theorem eqCells_c (H:AHeap) (v1 v2:Value) (l1 l2:List Ce) (h1:RowAt H v1 l1) (h2:RowAt H v2 l2) (hl:l1.length<1000000):Pure 38 [v1,v2] H (.bool (decide (l1=l2))):=by
 obtain⟨b,hb⟩:∃ b,H.next=b:=⟨_,rfl⟩
 refine callS_fn mixed Tryd.func38 rfl Tryd.ntmps38 (zA9 rfl) fun wf hsc=>?_
 obtain⟨a1,c1,e1⟩:=h1.sl
 obtain⟨a2,c2,e2⟩:=h2.sl
 by_cases hlen:l1.length=l2.length
 case neg =>
  have hd:decide (¬(l1.length:Int)=(l2.length:Int))=true:=decide_eq_true (by omega)
  rw[e1,e2]
  simp (maxDischargeDepth:=6) only[hd,Tryd.results38,ruW,putL,Nat.reduceLeDiff,xF,ruU,entryE,Nat.reduceLT,Nat.reduceAdd,Nat.reduceMul,Nat.reduceEqDiff]
  rw[decide_eq_false (fun e=>hlen (by rw[e]))]
  exact Fin.pureE rfl rfl
 have hd:decide (¬(l1.length:Int)=(l2.length:Int))=false:=decide_eq_false (by omega)
 rw[e1,e2]
 simp (maxDischargeDepth:=6) only[hd,ruW,putL,Nat.reduceLeDiff,xF,ruU,entryE,Nat.reduceLT,Nat.reduceAdd,Nat.reduceMul,Nat.reduceEqDiff]
 rw[←e1,←e2]
 refine w_env fun E hE=>?_
 have g0:E 0=v1:=by rw[hE]; simp only[ruU,entryE,Nat.reduceLT,Nat.reduceAdd,Nat.reduceMul,Nat.reduceEqDiff]
 have g1:E 1=v2:=by rw[hE]; simp only[ruU,entryE,Nat.reduceLT,Nat.reduceAdd,Nat.reduceMul,Nat.reduceEqDiff]
 have g12:E 12=.int .i64 (l1.length:Int):=by rw[hE]; simp only[ruU,entryE,Nat.reduceLT,Nat.reduceAdd,Nat.reduceMul,Nat.reduceEqDiff]
 have g13:E 13=.int .i64 ((0:Nat):Int):=by rw[hE]; (simp only[ruU,entryE,Nat.reduceLT,Nat.reduceAdd,Nat.reduceMul,Nat.reduceEqDiff]<;>rfl)
 clear hE
 refine blockC_meet (fun E' H'=>H'=ext H []∧l1=l2) ?_ ?_
 ·refine w_loop (fun (k:Nat) E' H'=>H'=ext H []∧E' 0=v1∧E' 1=v2∧E' 12=.int .i64 (l1.length:Int)∧E' 13=.int .i64 (k:Int)∧k≤l1.length∧l1.take k=l2.take k) (fun k=>l1.length-k) 0
   ⟨rfl,g0,g1,g12,g13,zB0 _,rfl⟩ ?_
  clear g0 g1 g12 g13
  rintro k E H' ⟨hH,g0,g1,g12,g13,hk,hpre⟩
  rw[hH]
  by_cases hkl:k=l1.length
  ·have hc:decide ((k:Int)<(l1.length:Int))=false:=by simp[hkl]
   simp (maxDischargeDepth:=6) only[g0,g1,g12,g13,hc,ruW,putL,Nat.reduceLeDiff,xF,ruU,entryE,Nat.reduceLT,Nat.reduceAdd,Nat.reduceMul,Nat.reduceEqDiff]
   refine joinR_normal ⟨rfl,?_⟩
   rw[hkl,zF7,hlen,zF7]at hpre
   exact hpre
  ·have hlt:k<l1.length:=by omega
   have hc:decide ((k:Int)<(l1.length:Int))=true:=decide_eq_true (by omega)
   rcases h1 with⟨h,_⟩|⟨_,n1,o1,s1,c1,t1,p1,L1,rfl,b1,n1l,le1,tk1⟩
   ·rw[h]at hlt; simp at hlt
   rcases h2 with⟨h,_⟩|⟨_,n2,o2,s2,c2,t2,p2,L2,rfl,b2,n2l,le2,tk2⟩
   ·rw[h]at hlen; simp at hlen; simp[hlen]at hlt
   obtain⟨r1,hr1⟩:∃ r,l1[k]?=some r:=⟨_,zA6 hlt⟩
   obtain⟨r2,hr2⟩:∃ r,l2[k]?=some r:=⟨_,zA6 (by omega)⟩
   have i1:=row_ia (n:=n1) (off:=o1) (s:=s1) (cap:=c1) (i:=(k:Int)) rfl hlt
   have i2:=row_ia (n:=n2) (off:=o2) (s:=s2) (cap:=c2) (i:=(k:Int)) (len:=l2.length) rfl (by omega)
   have q1:=row_load (e:=t1) (o:=p1) hr1 le1 tk1
   have q2:=row_load (e:=t2) (o:=p2) hr2 le2 tk2
   rw[hb]at n1l n2l
   simp (maxDischargeDepth:=6) only[g0,g1,g12,g13,hc,ruW,putL,Nat.reduceLeDiff,xF,ruU,entryE,Nat.reduceLT,Nat.reduceAdd,Nat.reduceMul,Nat.reduceEqDiff]
   refine w_drawB [] [] (by kernel_rfl) rfl rfl fun ops anc hA hG=>?_
   simp (maxDischargeDepth:=6) only[g0,g1,g12,g13,hb,i1,i2,b1,b2,n1l,n2l,q1,q2,qk_old,Ce.val,ruD,ruW,putL,Nat.reduceLeDiff,xF,ruU,entryE,Nat.reduceLT,Nat.reduceAdd,Nat.reduceMul,Nat.reduceEqDiff]
   refine wd_eqS (ts:=[3,3,3,4,4,4]) (xs:=r1.cells) (ys:=r2.cells) (r:=!decide (r1=r2)) fl55 ag55 gd55 (by rw[ce_eqL]; rfl) (by simp only[ruU,entryE,Nat.reduceLT,Nat.reduceAdd,Nat.reduceMul,Nat.reduceEqDiff]) (by simp only[ruU,entryE,Nat.reduceLT,Nat.reduceAdd,Nat.reduceMul,Nat.reduceEqDiff]) (by decide) (by simp only[ruU,entryE,Nat.reduceLT,Nat.reduceAdd,Nat.reduceMul,Nat.reduceEqDiff]; rfl) (by simp only[ruU,entryE,Nat.reduceLT,Nat.reduceAdd,Nat.reduceMul,Nat.reduceEqDiff]; rfl) (ce_fits _) (ce_fits _) ?_
   by_cases hr:r1=r2
   ·have hs:decide (r1=r2)=true:=decide_eq_true hr
    simp (maxDischargeDepth:=6) only[g0,g1,g12,g13,hs,zC8,wrap_succ (show k<1000000 by omega),ruD,ruW,putL,Nat.reduceLeDiff,xF,ruU,entryE,Nat.reduceLT,Nat.reduceAdd,Nat.reduceMul,Nat.reduceEqDiff]
    refine loopC_next ⟨k+1,by omega,rfl,?_,?_,?_,?_,by omega,?_⟩<;>try simp only[g0,g1,g12,g13,ruU,entryE,Nat.reduceLT,Nat.reduceAdd,Nat.reduceMul,Nat.reduceEqDiff]
    rw[List.take_add_one,List.take_add_one,hr1,hr2,hpre,hr]
   ·have hs:decide (r1=r2)=false:=decide_eq_false hr
    have hne:decide (l1=l2)=false:=decide_eq_false (fun e=>hr (by rw[e]at hr1; rw[hr1]at hr2; exact Option.some.inj hr2))
    simp (maxDischargeDepth:=6) only[g0,g1,g12,g13,hs,zD6,joinR_ret,Tryd.results38,ruD,ruW,putL,Nat.reduceLeDiff,xF,ruU,entryE,Nat.reduceLT,Nat.reduceAdd,Nat.reduceMul,Nat.reduceEqDiff]
    rw[hne]
    exact Fin.pureE rfl rfl
 ·rintro E H' ⟨hH,he⟩
  rw[hH,he]
  simp (maxDischargeDepth:=6) only[Tryd.results38,decide_true,ruW,putL,Nat.reduceLeDiff,xF,ruU,entryE,Nat.reduceLT,Nat.reduceAdd,Nat.reduceMul,Nat.reduceEqDiff]
  exact Fin.pureE rfl rfl
theorem eqRows_c (H:AHeap) (v1 v2:Value) (g1 g2:List (List Ce)) (h1:GridAt H v1 g1) (h2:GridAt H v2 g2) (hw:∀ l∈g1,l.length<1000000) (hl:g1.length<1000000):Pure 77 [v1,v2,.func (.func 38) ⟨[]⟩ ⟨[]⟩] H (.bool (decide (g1=g2))):=by
 obtain⟨b,hb⟩:∃ b,H.next=b:=⟨_,rfl⟩
 refine callS_fn mixed Tryd.func77 rfl Tryd.ntmps77 (zA9 rfl) fun wf hsc=>?_
 obtain⟨a1,c1,e1⟩:=h1.sl
 obtain⟨a2,c2,e2⟩:=h2.sl
 by_cases hlen:g1.length=g2.length
 case neg =>
  have hd:decide (¬(g1.length:Int)=(g2.length:Int))=true:=decide_eq_true (by omega)
  rw[e1,e2]
  simp (maxDischargeDepth:=6) only[hd,Tryd.results77,ruW,putL,Nat.reduceLeDiff,xF,ruU,entryE,Nat.reduceLT,Nat.reduceAdd,Nat.reduceMul,Nat.reduceEqDiff]
  rw[decide_eq_false (fun e=>hlen (by rw[e]))]
  exact Fin.pureE rfl rfl
 have hd:decide (¬(g1.length:Int)=(g2.length:Int))=false:=decide_eq_false (by omega)
 rw[e1,e2]
 simp (maxDischargeDepth:=6) only[hd,ruW,putL,Nat.reduceLeDiff,xF,ruU,entryE,Nat.reduceLT,Nat.reduceAdd,Nat.reduceMul,Nat.reduceEqDiff]
 rw[←e1,←e2]
 refine w_env fun E hE=>?_
 have g1':E 1=v2:=by rw[hE]; simp only[ruU,entryE,Nat.reduceLT,Nat.reduceAdd,Nat.reduceMul,Nat.reduceEqDiff]
 have g2':E 2=.func (.func 38) ⟨[]⟩ ⟨[]⟩:=by rw[hE]; simp only[ruU,entryE,Nat.reduceLT,Nat.reduceAdd,Nat.reduceMul,Nat.reduceEqDiff]
 have g15:E 15=v1:=by rw[hE]; simp only[ruU,entryE,Nat.reduceLT,Nat.reduceAdd,Nat.reduceMul,Nat.reduceEqDiff]
 have g16:E 16=.int .i64 (g1.length:Int):=by rw[hE]; simp only[ruU,entryE,Nat.reduceLT,Nat.reduceAdd,Nat.reduceMul,Nat.reduceEqDiff]
 have g17:E 17=.int .i64 ((0:Nat):Int):=by rw[hE]; (simp only[ruU,entryE,Nat.reduceLT,Nat.reduceAdd,Nat.reduceMul,Nat.reduceEqDiff]<;>rfl)
 clear hE
 refine blockC_meet (fun E' H'=>H'=ext H []∧g1=g2) ?_ ?_
 ·refine w_loop (fun (k:Nat) E' H'=>H'=ext H []∧E' 1=v2∧E' 2=.func (.func 38) ⟨[]⟩ ⟨[]⟩∧E' 15=v1∧E' 16=.int .i64 (g1.length:Int)∧E' 17=.int .i64 (k:Int)∧k≤g1.length∧g1.take k=g2.take k) (fun k=>g1.length-k) 0
   ⟨rfl,g1',g2',g15,g16,g17,zB0 _,rfl⟩ ?_
  clear g1' g2' g15 g16 g17
  rintro k E H' ⟨hH,q1,q2,q15,q16,q17,hk,hpre⟩
  rw[hH]
  by_cases hkl:k=g1.length
  ·have hc:decide ((k:Int)<(g1.length:Int))=false:=by simp[hkl]
   simp (maxDischargeDepth:=6) only[q1,q2,q15,q16,q17,hc,ruW,putL,Nat.reduceLeDiff,xF,ruU,entryE,Nat.reduceLT,Nat.reduceAdd,Nat.reduceMul,Nat.reduceEqDiff]
   refine joinR_normal ⟨rfl,?_⟩
   rw[hkl,zF7,hlen,zF7]at hpre
   exact hpre
  ·have hlt:k<g1.length:=by omega
   have hc:decide ((k:Int)<(g1.length:Int))=true:=decide_eq_true (by omega)
   rcases h1 with⟨h,_⟩|⟨_,n1,o1,s1,x1,t1,p1,L1,rfl,b1,n1l,le1,tk1⟩
   ·rw[h]at hlt; simp at hlt
   rcases h2 with⟨h,_⟩|⟨_,n2,o2,s2,x2,t2,p2,L2,rfl,b2,n2l,le2,tk2⟩
   ·rw[h]at hlen; simp at hlen; simp[hlen]at hlt
   obtain⟨w1,hr1⟩:∃ r,g1[k]?=some r:=⟨_,zA6 hlt⟩
   obtain⟨w2,hr2⟩:∃ r,g2[k]?=some r:=⟨_,zA6 (by omega)⟩
   obtain⟨u1,hu1,ra1⟩:=tk1 k w1 hr1
   obtain⟨u2,hu2,ra2⟩:=tk2 k w2 hr2
   have i1:=grid_ia (n:=n1) (off:=o1) (s:=s1) (cap:=x1) (i:=(k:Int)) rfl hlt
   have i2:=grid_ia (n:=n2) (off:=o2) (s:=s2) (cap:=x2) (i:=(k:Int)) (len:=g2.length) rfl (by omega)
   have y1:=grid_load (e:=t1) (o:=p1) hu1
   have y2:=grid_load (e:=t2) (o:=p2) hu2
   rw[hb]at n1l n2l
   simp (maxDischargeDepth:=6) only[q1,q2,q15,q16,q17,hb,hc,i1,i2,b1,b2,n1l,n2l,y1,y2,qk_old,ruW,putL,Nat.reduceLeDiff,xF,ruU,entryE,Nat.reduceLT,Nat.reduceAdd,Nat.reduceMul,Nat.reduceEqDiff]
   refine w_callV (f:=38) (ca:=[]) (by simp only[ruU,entryE,Nat.reduceLT,Nat.reduceAdd,Nat.reduceMul,Nat.reduceEqDiff]) (by simp only[q2,ruU,entryE,Nat.reduceLT,Nat.reduceAdd,Nat.reduceMul,Nat.reduceEqDiff]) (by simp only[ruU,entryE,Nat.reduceLT,Nat.reduceAdd,Nat.reduceMul,Nat.reduceEqDiff]) (by kernel_rfl) ?_
   simp only[ruU,entryE,Nat.reduceLT,Nat.reduceAdd,Nat.reduceMul,Nat.reduceEqDiff]
   refine (show CallS Tryd.prog 38 _ (ext H []) _ (ext H []) from eqCells_c (ext H []) u1 u2 w1 w2 ra1.ext ra2.ext (hw w1 (zB9 hr1))).to ?_
   by_cases hr:w1=w2
   ·have hs:decide (w1=w2)=true:=decide_eq_true hr
    simp (maxDischargeDepth:=6) only[q1,q2,q15,q16,q17,hs,zC8,wrap_succ (show k<1000000 by omega),ruW,putL,Nat.reduceLeDiff,xF,ruU,entryE,Nat.reduceLT,Nat.reduceAdd,Nat.reduceMul,Nat.reduceEqDiff]
    refine loopC_next ⟨k+1,by omega,rfl,?_,?_,?_,?_,?_,by omega,?_⟩<;>try simp only[q1,q2,q15,q16,q17,ruU,entryE,Nat.reduceLT,Nat.reduceAdd,Nat.reduceMul,Nat.reduceEqDiff]
    rw[List.take_add_one,List.take_add_one,hr1,hr2,hpre,hr]
   ·have hs:decide (w1=w2)=false:=decide_eq_false hr
    have hne:decide (g1=g2)=false:=decide_eq_false (fun e=>hr (by rw[e]at hr1; rw[hr1]at hr2; exact Option.some.inj hr2))
    simp (maxDischargeDepth:=6) only[q1,q2,q15,q16,q17,hs,zD6,joinR_ret,Tryd.results77,ruW,putL,Nat.reduceLeDiff,xF,ruU,entryE,Nat.reduceLT,Nat.reduceAdd,Nat.reduceMul,Nat.reduceEqDiff]
    rw[hne]
    exact Fin.pureE rfl rfl
 ·rintro E H' ⟨hH,he⟩
  rw[hH,he]
  simp (maxDischargeDepth:=6) only[Tryd.results77,decide_true,ruW,putL,Nat.reduceLeDiff,xF,ruU,entryE,Nat.reduceLT,Nat.reduceAdd,Nat.reduceMul,Nat.reduceEqDiff]
  exact Fin.pureE rfl rfl
theorem same54_c (H:AHeap) (v1 v2:Value) (g1 g2:List (List Ce)) (h1:GridAt H v1 g1) (h2:GridAt H v2 g2) (hw:∀ l∈g1,l.length<1000000) (hl:g1.length<1000000):Pure 54 [v1,v2] H (.bool (decide (g1=g2))):=by
 refine callS_fn mixed Tryd.func54 rfl Tryd.ntmps54 (zA9 rfl) fun wf hsc=>?_
 simp (maxDischargeDepth:=6) only[ruW,putL,Nat.reduceLeDiff,xF,ruU,entryE,Nat.reduceLT,Nat.reduceAdd,Nat.reduceMul,Nat.reduceEqDiff]
 refine (eqRows_c (ext H []) v1 v2 g1 g2 h1 h2 hw hl).to ?_
 simp (maxDischargeDepth:=6) only[Tryd.results54,ruW,putL,Nat.reduceLeDiff,xF,ruU,entryE,Nat.reduceLT,Nat.reduceAdd,Nat.reduceMul,Nat.reduceEqDiff]
 exact Fin.pureE rfl rfl
def preR:List (List Ce)→List (List Ce)→Nat
 |x::g,y::h=>if x=y then preR g h+1 else 0
 |_,_=>0
def sufR (g h:List (List Ce)) (top:Nat):Nat→Nat
 |0=>0
 |b+1=>if top<b+1∧g.getD b []=h.getD b [] then sufR g h top b else b+1
def firstI (P:Nat→Bool) (i:Nat):Nat→Option Nat
 |0=>none
 |f+1=>if P i=true then some i else firstI P (i+1) f
def upR (g h:List (List Ce)) (top n i:Nat):Bool:=decide ((h.drop top).take (n-i)=(g.drop (top+i)).take (n-i))
def dnR (g h:List (List Ce)) (top n i:Nat):Bool:=decide ((h.drop (top+i)).take (n-i)=(g.drop top).take (n-i))
def rollOp (k:Int) (top bot i:Nat):Op:=⟨k,(top:Int),(bot:Int)-1,(i:Int),⟨0,0,false,false,false⟩,.empty⟩
def shiftR (g h:List (List Ce)):Option Op :=
 let top:=preR g h
 let bot:=sufR g h top h.length
 match firstI (upR g h top (bot-top)) 1 (bot-top-1) with
 |some i=>some (rollOp 5 top bot i)
 |none=>(firstI (dnR g h top (bot-top)) 1 (bot-top-1)).map (rollOp 6 top bot)
theorem preR_drop:∀ (g h:List (List Ce)) (k:Nat),g.take k=h.take k→k≤g.length→k≤h.length→preR g h=preR (g.drop k) (h.drop k)+k
 |g,h,0,_,_,_=>by simp
 |[],_,k+1,_,h1,_=>by simp at h1
 |_::_,[],k+1,_,_,h1=>by simp at h1
 |x::g,y::h,k+1,e,h1,h2=>by
  simp only[List.take_succ_cons,List.cons.injEq]at e
  rw[preR,if_pos e.1,preR_drop g h k e.2 (by simpa using h1) (by simpa using h2),List.drop_succ_cons,List.drop_succ_cons]
  omega
theorem preR_le:∀ (g h:List (List Ce)),preR g h≤h.length∧preR g h≤g.length∧g.take (preR g h)=h.take (preR g h)
 |[],h=>by simp[preR]
 |_::_,[]=>by simp[preR]
 |x::g,y::h=>by
  rw[preR]
  split
  ·rename_i e
   have:=preR_le g h
   refine⟨by simp; omega,by simp; omega,?_⟩
   rw[List.take_succ_cons,List.take_succ_cons,e,this.2.2]
  ·simp
theorem sufR_le (g h:List (List Ce)) (top:Nat):∀ b,sufR g h top b≤b
 |0=>zA5 _
 |b+1=>by
  rw[sufR]
  split
  ·exact Nat.le_succ_of_le (sufR_le g h top b)
  ·exact zA5 _
theorem sufR_ge (g h:List (List Ce)) (top:Nat):∀ b,top≤b→top≤sufR g h top b
 |0,h0=>h0
 |b+1,h0=>by
  rw[sufR]
  split
  ·rename_i c; exact sufR_ge g h top b (by omega)
  ·exact h0
theorem firstI_some {P:Nat→Bool}:∀ (f i j:Nat),firstI P i f=some j→i≤j∧j<i+f∧P j=true
 |0,i,j,h=>by cases h
 |f+1,i,j,h=>by
  rw[firstI]at h
  split at h
  ·rename_i hp; cases h; exact⟨zA5 _,by omega,hp⟩
  ·have:=firstI_some f (i+1) j h; exact⟨by omega,by omega,this.2.2⟩
def encR (c:Int):List Int :=
 if c<128 then [c] else if c<2048 then [192+c / 64,128+c % 64] else if c<65536 then [224+c / 4096,128+c / 64 % 64,128+c % 64] else [240+c / 262144,128+c / 4096 % 64,128+c / 64 % 64,128+c % 64]
def ev (l:List Int):List Value:=l.map (Value.int .u8)
theorem ev_one (l:List Int):(ev l).all one=true:=by induction l with|nil=>rfl|cons a l ih=>simp only[ev,zB7,List.all_cons]at ih ⊢; rw[ih]; rfl
theorem ev_sc (l:List Int) (n:Nat):scbL n (ev l)=true:=by induction l with|nil=>rfl|cons a l ih=>simp only[ev,zB7,scbL]at ih ⊢; rw[ih]; rfl
theorem ev_app (l m:List Int):ev (l++m)=ev l++ev m:=by simp[ev]
theorem ev_len (l:List Int):(ev l).length=l.length:=by simp[ev]
theorem encR_len (c:Int):1≤(encR c).length∧(encR c).length≤4:=by
 unfold encR
 split
 ·simp
 ·split
  ·simp
  ·split<;>simp
theorem wrap8 (n:Int):IntKind.u8.wrap n=n % 256:=by
 simp[IntKind.wrap,IntKind.bits,IntKind.signed]
theorem wrapU32 {n:Int} (h0:0≤n) (h1:n<4294967296):IntKind.u32.wrap n=n:=by
 simp[IntKind.wrap,IntKind.bits,IntKind.signed]
 omega
theorem wrapI32 {n:Int} (h0:0≤n) (h1:n<2147483648):IntKind.i32.wrap n=n:=by
 simp[IntKind.wrap,IntKind.bits,IntKind.signed]
 omega
theorem and63 {x:Int} (h0:0≤x) (h1:x<256):bAnd .u8 x 63=x % 64:=by
 have h:=zC0.1 (show ((List.range 256).all fun i=>decide (bAnd .u8 (i:Int) 63=(i:Int) % 64))=true by kernel_rfl) x.toNat (zF1.2 (by omega))
 have e:((x.toNat:Nat):Int)=x:=Int.toNat_of_nonneg h0
 rw[e]at h
 exact of_decide_eq_true h
theorem or128 {x:Int} (h0:0≤x) (h1:x<64):bOr .u8 128 x=128+x:=by
 have h:=zC0.1 (show ((List.range 64).all fun i=>decide (bOr .u8 128 (i:Int)=128+(i:Int)))=true by kernel_rfl) x.toNat (zF1.2 (by omega))
 have e:((x.toNat:Nat):Int)=x:=Int.toNat_of_nonneg h0
 rw[e]at h
 exact of_decide_eq_true h
theorem or192 {x:Int} (h0:0≤x) (h1:x<32):bOr .u8 192 x=192+x:=by
 have h:=zC0.1 (show ((List.range 32).all fun i=>decide (bOr .u8 192 (i:Int)=192+(i:Int)))=true by kernel_rfl) x.toNat (zF1.2 (by omega))
 have e:((x.toNat:Nat):Int)=x:=Int.toNat_of_nonneg h0
 rw[e]at h
 exact of_decide_eq_true h
theorem or224 {x:Int} (h0:0≤x) (h1:x<16):bOr .u8 224 x=224+x:=by
 have h:=zC0.1 (show ((List.range 16).all fun i=>decide (bOr .u8 224 (i:Int)=224+(i:Int)))=true by kernel_rfl) x.toNat (zF1.2 (by omega))
 have e:((x.toNat:Nat):Int)=x:=Int.toNat_of_nonneg h0
 rw[e]at h
 exact of_decide_eq_true h
theorem or240 {x:Int} (h0:0≤x) (h1:x<8):bOr .u8 240 x=240+x:=by
 have h:=zC0.1 (show ((List.range 8).all fun i=>decide (bOr .u8 240 (i:Int)=240+(i:Int)))=true by kernel_rfl) x.toNat (zF1.2 (by omega))
 have e:((x.toNat:Nat):Int)=x:=Int.toNat_of_nonneg h0
 rw[e]at h
 exact of_decide_eq_true h
theorem shr_c {c:Int} (h0:0≤c) (n:Nat) (hn:n≤32) (q:Int) (hq:(2:Int) ^ n=q) (hp:0<q):bShr .i32 c n=c / q:=by
 have:min n IntKind.i32.bits=n:=Nat.min_eq_left hn
 rw[bShr,this,hq,Int.fdiv_eq_ediv_of_nonneg _ (by omega)]
def EncOut (X:AHeap) (v:Value) (bs:List Int) (out:Out) (G:AHeap):Prop :=
 ∃ u,out=.ok u∧VsAt G 5 1 u (ev bs) bs.length∧Mod (idsV v) X G∧∀ n∈idsV u,X.next≤n
theorem byte_app {X:AHeap} {v:Value} {bs e:List Int} {x k:Nat} (h:VsAt X 5 1 v (ev bs) bs.length) (hx:X.next=x) (hb:X.base≤X.next) (hlen:bs.length≤1000000) (he:e.length=k) (hk:1≤k) (hk4:k≤4) :
  ∃ G,aBuiltin Tryd.prog (ext X [⟨5,false,ev e⟩]) .append ⟨[122,122]⟩ [v,.slice (some ⟨x+0,0,some 0⟩) k k]=some (.slice (some ⟨x+1,0,none⟩) (bs.length+k) (bs.length+k),ext G [])∧VsAt G 5 1 (.slice (some ⟨x+1,0,none⟩) (bs.length+k) (bs.length+k)) (ev (bs++e)) (bs++e).length∧Mod (idsV v) X G∧G.next=x+2:=by
 have h2:VsAt (ext X [⟨5,false,ev e⟩]) 5 1 v (ev bs) bs.length:=h.of (by rw[ext_next]; omega) (fun n hn=>ext_get_old (h.ne n hn).2)
 have hkb:bk (ext X [⟨5,false,ev e⟩]) (x+0)=some ⟨5,false,ev e⟩:=by rw[bk_at hx (by simp)]; rfl
 have hsm:small (bs.length+k) 1=true:=by simp only[small,zA4,Nat.ble_eq]; omega
 obtain⟨G,k1,k2,k3,k4,_⟩:=vs_app (P:=Tryd.prog) (H:=ext X [⟨5,false,ev e⟩]) (st:=122) (xt:=122) (e:=5) (sz:=1) (by1:=1) (z:=.int .u8 0) (n:=x+0) (off:=0) (cnt2:=k) (cap:=k) (s:=some 0) (x:=x+1) (ws:=ev e) (b:=⟨5,false,ev e⟩)
  (by kernel_rfl) (by kernel_rfl) (by kernel_rfl) (by kernel_rfl) rfl (by kernel_rfl) h2 (rk_of hkb) (by simp[ev_len,he]) (by simp only[zD3]; exact zE6 (by rw[ev_len,he]; omega)) (ev_one e) (by omega) hsm (by rw[ext_next,hx]; rfl) (scbL_append (ev_sc _ _) (ev_sc _ _))
 rw[←ev_app]at k2
 refine⟨G,k1,by rw[zB6,he]; exact k2,(Mod.ext hb).trans (k3 ((Mod.ext (W:=[]) hb).ok hb)),k4⟩
theorem nonAscii_c (X:AHeap) (v:Value) (bs:List Int) (c:Int) (h:VsAt X 5 1 v (ev bs) bs.length) (hok:X.base≤X.next) (hc:isR c=true) (h128:128≤c) (hlen:bs.length≤1000000) :
  CallA Tryd.prog 113 [v,.int .i32 c] X (EncOut X v (bs++encR c)):=by
 obtain⟨x,hx⟩:∃ x,X.next=x:=⟨_,rfl⟩
 have hxb:X.base≤x:=hx▸hok
 have hr:0≤c∧c≤1114111∧(c<55296∨57343<c):=by
  simp only[isR,zA4,Bool.not_eq_true',Bool.and_eq_false_iff,decide_eq_true_eq,decide_eq_false_iff_not]at hc
  omega
 have wu:IntKind.u32.wrap c=c:=wrapU32 (by omega) (by omega)
 have cvu:∀ (X:AHeap) (m:Int),aConvert Tryd.prog X 21 132 (.int .i32 m)=some (.int .u32 (IntKind.u32.wrap m),X):=fun X m=>cv_int (u:=.int .i32) (by kernel_rfl) (by kernel_rfl)
 have cv8:∀ (X:AHeap) (m:Int),aConvert Tryd.prog X 21 5 (.int .i32 m)=some (.int .u8 (IntKind.u8.wrap m),X):=fun X m=>cv_int (u:=.int .i32) (by kernel_rfl) (by kernel_rfl)
 have s6:bShr .i32 c 6=c / 64:=shr_c (by omega) 6 (by omega) 64 (by decide) (by omega)
 have s12:bShr .i32 c 12=c / 4096:=shr_c (by omega) 12 (by omega) 4096 (by decide) (by omega)
 have s18:bShr .i32 c 18=c / 262144:=shr_c (by omega) 18 (by omega) 262144 (by decide) (by omega)
 have l8:bOr .u8 128 (bAnd .u8 (IntKind.u8.wrap c) 63)=128+c % 64:=by
  rw[wrap8,and63 (by omega) (by omega),or128 (by omega) (by omega)]; omega
 have m8:bOr .u8 128 (bAnd .u8 (IntKind.u8.wrap (c / 64)) 63)=128+c / 64 % 64:=by
  rw[wrap8,and63 (by omega) (by omega),or128 (by omega) (by omega)]; omega
 have n8:bOr .u8 128 (bAnd .u8 (IntKind.u8.wrap (c / 4096)) 63)=128+c / 4096 % 64:=by
  rw[wrap8,and63 (by omega) (by omega),or128 (by omega) (by omega)]; omega
 refine callE_fn mixed Tryd.func113 rfl Tryd.ntmps113 (zA9 rfl) ?_
 obtain⟨a,ea⟩:=h.len
 by_cases c1:c<2048
 ·have d1:decide (c≤2047)=true:=decide_eq_true (by omega)
  have f8:bOr .u8 192 (IntKind.u8.wrap (c / 64))=192+c / 64:=by rw[wrap8,Int.emod_eq_of_lt (by omega) (by omega),or192 (by omega) (by omega)]
  have he:encR c=[192+c / 64,128+c % 64]:=by rw[encR,if_neg (by omega),if_pos c1]
  obtain⟨G,k1,k2,k3,k4⟩:=byte_app (e:=encR c) (k:=2) h hx hok hlen (by rw[he]; rfl) (by omega) (by omega)
  rw[he]at k1
  simp only[ev,zB7,zF2]at k1
  simp (maxDischargeDepth:=6) only[wu,cvu,cv8,d1,hx,hxb,w_convert,w_and,bit_and,w_or,bit_or,w_shr,bit_shr,Int.reduceLE,Int.reduceToNat,s6,l8,f8,k1,Tryd.results113,ruW,putL,Nat.reduceLeDiff,xF,ruU,entryE,Nat.reduceLT,Nat.reduceAdd,Nat.reduceMul,Nat.reduceEqDiff]
  exact⟨_,rfl,k2,k3,fun n hn=>by simp only[idsV,zA8]at hn; omega⟩
 ·have d1:decide (c≤2047)=false:=decide_eq_false (by omega)
  by_cases c2:c<65536
  ·have f8:bOr .u8 224 (IntKind.u8.wrap (c / 4096))=224+c / 4096:=by rw[wrap8,Int.emod_eq_of_lt (by omega) (by omega),or224 (by omega) (by omega)]
   have he:encR c=[224+c / 4096,128+c / 64 % 64,128+c % 64]:=by rw[encR,if_neg (by omega),if_neg c1,if_pos c2]
   obtain⟨G,k1,k2,k3,k4⟩:=byte_app (e:=encR c) (k:=3) h hx hok hlen (by rw[he]; rfl) (by omega) (by omega)
   rw[he]at k1
   simp only[ev,zB7,zF2]at k1
   by_cases c3:c<55296
   ·have d2:decide (c<55296)=true:=decide_eq_true c3
    simp (maxDischargeDepth:=6) only[wu,cvu,cv8,d1,d2,hx,hxb,w_convert,w_and,bit_and,w_or,bit_or,w_shr,bit_shr,Int.reduceLE,Int.reduceToNat,s6,s12,l8,m8,f8,k1,Tryd.results113,ruW,putL,Nat.reduceLeDiff,xF,ruU,entryE,Nat.reduceLT,Nat.reduceAdd,Nat.reduceMul,Nat.reduceEqDiff]
    exact⟨_,rfl,k2,k3,fun n hn=>by simp only[idsV,zA8]at hn; omega⟩
   ·have d2:decide (c<55296)=false:=decide_eq_false c3
    have d3:decide (57343<c)=true:=decide_eq_true (by omega)
    have d4:decide (c≤65535)=true:=decide_eq_true (by omega)
    simp (maxDischargeDepth:=6) only[wu,cvu,cv8,d1,d2,d3,d4,hx,hxb,w_convert,w_and,bit_and,w_or,bit_or,w_shr,bit_shr,Int.reduceLE,Int.reduceToNat,s6,s12,l8,m8,f8,k1,Tryd.results113,ruW,putL,Nat.reduceLeDiff,xF,ruU,entryE,Nat.reduceLT,Nat.reduceAdd,Nat.reduceMul,Nat.reduceEqDiff]
    exact⟨_,rfl,k2,k3,fun n hn=>by simp only[idsV,zA8]at hn; omega⟩
  ·have d2:decide (c<55296)=false:=decide_eq_false (by omega)
   have d3:decide (57343<c)=true:=decide_eq_true (by omega)
   have d4:decide (c≤65535)=false:=decide_eq_false (by omega)
   have d5:decide (65535<c)=true:=decide_eq_true (by omega)
   have d6:decide (c≤1114111)=true:=decide_eq_true (by omega)
   have f8:bOr .u8 240 (IntKind.u8.wrap (c / 262144))=240+c / 262144:=by rw[wrap8,Int.emod_eq_of_lt (by omega) (by omega),or240 (by omega) (by omega)]
   have he:encR c=[240+c / 262144,128+c / 4096 % 64,128+c / 64 % 64,128+c % 64]:=by rw[encR,if_neg (by omega),if_neg c1,if_neg c2]
   obtain⟨G,k1,k2,k3,k4⟩:=byte_app (e:=encR c) (k:=4) h hx hok hlen (by rw[he]; rfl) (by omega) (by omega)
   rw[he]at k1
   simp only[ev,zB7,zF2]at k1
   simp (maxDischargeDepth:=6) only[wu,cvu,cv8,d1,d2,d3,d4,d5,d6,hx,hxb,w_convert,w_and,bit_and,w_or,bit_or,w_shr,bit_shr,Int.reduceLE,Int.reduceToNat,s6,s12,s18,l8,m8,n8,f8,k1,Tryd.results113,ruW,putL,Nat.reduceLeDiff,xF,ruU,entryE,Nat.reduceLT,Nat.reduceAdd,Nat.reduceMul,Nat.reduceEqDiff]
   exact⟨_,rfl,k2,k3,fun n hn=>by simp only[idsV,zA8]at hn; omega⟩
theorem appendRune_c (X:AHeap) (v:Value) (bs:List Int) (c:Int) (h:VsAt X 5 1 v (ev bs) bs.length) (hok:X.base≤X.next) (hc:isR c=true) (hlen:bs.length≤1000000) :
  CallA Tryd.prog 99 [v,.int .i32 c] X (EncOut X v (bs++encR c)):=by
 obtain⟨x,hx⟩:∃ x,X.next=x:=⟨_,rfl⟩
 have hxb:X.base≤x:=hx▸hok
 have hr:0≤c∧c≤1114111:=by
  simp only[isR,zA4,Bool.not_eq_true',Bool.and_eq_false_iff,decide_eq_true_eq,decide_eq_false_iff_not]at hc
  omega
 have wu:IntKind.u32.wrap c=c:=wrapU32 (by omega) (by omega)
 have cvu:∀ (X:AHeap) (m:Int),aConvert Tryd.prog X 21 132 (.int .i32 m)=some (.int .u32 (IntKind.u32.wrap m),X):=fun X m=>cv_int (u:=.int .i32) (by kernel_rfl) (by kernel_rfl)
 have cv8:∀ (X:AHeap) (m:Int),aConvert Tryd.prog X 21 5 (.int .i32 m)=some (.int .u8 (IntKind.u8.wrap m),X):=fun X m=>cv_int (u:=.int .i32) (by kernel_rfl) (by kernel_rfl)
 refine callE_fn mixed Tryd.func99 rfl Tryd.ntmps99 (zA9 rfl) ?_
 by_cases c1:c<128
 ·have d1:decide (c≤127)=true:=decide_eq_true (by omega)
  have f8:IntKind.u8.wrap c=c:=by rw[wrap8,Int.emod_eq_of_lt (by omega) (by omega)]
  have he:encR c=[c]:=by rw[encR,if_pos c1]
  obtain⟨G,k1,k2,k3,k4⟩:=byte_app (e:=encR c) (k:=1) h hx hok hlen (by rw[he]; rfl) (by omega) (by omega)
  rw[he]at k1
  simp only[ev,zB7,zF2]at k1
  simp (maxDischargeDepth:=6) only[wu,cvu,cv8,d1,hx,hxb,w_convert,f8,k1,Tryd.results99,ruW,putL,Nat.reduceLeDiff,xF,ruU,entryE,Nat.reduceLT,Nat.reduceAdd,Nat.reduceMul,Nat.reduceEqDiff]
  exact⟨_,rfl,k2,k3,fun n hn=>by simp only[idsV,zA8]at hn; omega⟩
 ·have d1:decide (c≤127)=false:=decide_eq_false (by omega)
  simp (maxDischargeDepth:=6) only[wu,cvu,d1,hx,hxb,w_convert,ruW,putL,Nat.reduceLeDiff,xF,ruU,entryE,Nat.reduceLT,Nat.reduceAdd,Nat.reduceMul,Nat.reduceEqDiff]
  refine (nonAscii_c X v bs c h hok hc (by omega) hlen).mono ?_
  rintro _ G ⟨u,rfl,k2,k3,k4⟩
  rw[show G=ext G [] from rfl]
  simp (maxDischargeDepth:=6) only[Tryd.results99,ruW,putL,Nat.reduceLeDiff,xF,ruU,entryE,Nat.reduceLT,Nat.reduceAdd,Nat.reduceMul,Nat.reduceEqDiff]
  exact⟨u,rfl,k2,k3,k4⟩
end Go.Proofs.YtaojjfebkldmnaaDoor
namespace Go.Ax
theorem CallA.pureW {P:Program} {H:AHeap} {f:FuncId} {args:List Value} {v:Value} (h:H.base≤H.next→CallA P f args H fun out X=>out=.ok v∧Mod [] H X) (hv:scb H.next v=true):CallS P f args H (.ok v) H:=fun ρ w r hsc=>(h r.wf.base).pure hv ρ w r hsc
end Go.Ax
namespace Go.Proofs.YtaojjfebkldmnaaDoor
open Go.Ax
def strR (l:List Int):ByteArray:=⟨((l.flatMap encR).map fun n=>UInt8.ofNat n.toNat).toArray⟩
theorem bytes_of:∀ bs:List Int,bytesOfCells (ev bs)=some (bs.map fun n=>UInt8.ofNat n.toNat)
 |[]=>rfl
 |b::bs=>by
  have:=bytes_of bs
  simp only[ev]at this
  simp only[ev,zB7,bytesOfCells,this,zA7]
theorem cv_str {X:AHeap} {u:Value} {bs:List Int} (h:VsAt X 5 1 u (ev bs) bs.length):aConvert Tryd.prog X 122 9 u=some (.string ⟨(bs.map fun n=>UInt8.ofNat n.toNat).toArray⟩,X):=by
 have u122:Tryd.prog.underlying 122=some (.slice 5):=by kernel_rfl
 have u9':Tryd.prog.underlying 9=some .string:=by kernel_rfl
 have u5:Tryd.prog.underlying 5=some (.int .u8):=by kernel_rfl
 have hb:=bytes_of bs
 obtain⟨h1,h2,⟨h3,rfl⟩|⟨h3,n,rfl,hk,hn⟩⟩:=h
 ·have:bs=[]:=zC5 h3
  subst this
  simp only[aConvert,u122,u9',u5,firstC,if_true,zA1,zA3]
  rfl
 ·have hf:=first_bk (sz:=1) (cnt:=bs.length) (off:=0) (len:=bs.length) (cap:=bs.length) (s:=none) hk (by simp only; rw[ev_len]; omega)
  simp only[zD3]at hf
  rw[zE6 (by rw[ev_len]; omega)]at hf
  simp only[aConvert,u122,u9',u5,hf,zA1,zA3,hb,zA7]
theorem int_load {X:AHeap} {v:Value} {l:List Int} {k:Nat} {c:Int} (h:VsAt X 3 1 v (iv l) l.length) (hk:l[k]?=some c) :
  ∃ n,v=.slice (some ⟨n,0,none⟩) l.length l.length∧n<X.next∧aIndexAddr Tryd.prog 109 v (.int .i64 (k:Int))=some (.pointer (some ⟨n,k,none⟩))∧bk X n=some ⟨3,true,iv l⟩∧ldB Tryd.prog 3 k (some ⟨3,true,iv l⟩)=some (.int .i64 c):=by
 have hlt:=(zE2.1 hk).1
 obtain⟨h1,h2,⟨h3,rfl⟩|⟨h3,n,rfl,hb,hn⟩⟩:=h
 ·omega
 ·refine⟨n,rfl,hn,ints_ia hlt,hb,?_⟩
  rw[ld_one (by kernel_rfl)]
  simp only[iv,List.getElem?_map,hk,zA7]
theorem enc_take {l:List Int} {k:Nat} {c:Int} (h:l[k]?=some c):(l.take k).flatMap encR++encR c=(l.take (k+1)).flatMap encR:=by
 rw[List.take_add_one,h,List.flatMap_append]
 simp
theorem enc_len (l:List Int):(l.flatMap encR).length≤l.length*4:=by
 induction l with
 |nil=>simp
 |cons a l ih =>
  have:=(encR_len a).2
  simp only[zF8,zB6,zB5]
  omega
theorem ptext_c (H:AHeap) (v:Value) (l:List Int) (h:VsAt H 3 1 v (iv l) l.length) (hl:l.length≤65536) (hc:∀ c∈l,isR c=true):Pure 81 [v] H (.tuple #[.string (strR l),.int .i64 0]):=by
 refine CallA.pureW (fun hok=>?_) (by rfl)
 obtain⟨a,ea⟩:=h.len
 have hd:decide (65536<(l.length:Int))=false:=decide_eq_false (by omega)
 have cv21:∀ (X:AHeap) (m:Int),aConvert Tryd.prog X 3 21 (.int .i64 m)=some (.int .i32 (IntKind.i32.wrap m),X):=fun X m=>cv_int (u:=.int .i64) (by kernel_rfl) (by kernel_rfl)
 refine callE_fn mixed Tryd.func81 rfl Tryd.ntmps81 (zA9 rfl) ?_
 rw[ea]
 simp (maxDischargeDepth:=6) only[hd,ruW,putL,Nat.reduceLeDiff,xF,ruU,entryE,Nat.reduceLT,Nat.reduceAdd,Nat.reduceMul,Nat.reduceEqDiff]
 rw[←ea]
 refine w_env fun E hE=>?_
 have g10:E 10=v:=by rw[hE]; simp only[ruU,entryE,Nat.reduceLT,Nat.reduceAdd,Nat.reduceMul,Nat.reduceEqDiff]
 have g11:E 11=.int .i64 (l.length:Int):=by rw[hE]; simp only[ruU,entryE,Nat.reduceLT,Nat.reduceAdd,Nat.reduceMul,Nat.reduceEqDiff]
 have g12:E 12=.int .i64 ((0:Nat):Int):=by rw[hE]; (simp only[ruU,entryE,Nat.reduceLT,Nat.reduceAdd,Nat.reduceMul,Nat.reduceEqDiff]<;>rfl)
 have g4:E 4=.slice none 0 0:=by rw[hE]; simp only[ruU,entryE,Nat.reduceLT,Nat.reduceAdd,Nat.reduceMul,Nat.reduceEqDiff]
 clear hE
 refine blockC_meet (fun E' X=>Mod [] H X∧∃ u,E' 4=u∧VsAt X 5 1 u (ev (l.flatMap encR)) (l.flatMap encR).length) ?_ ?_
 ·refine w_loop (fun (q:Nat × Value) E' X=>Mod [] H X∧E' 10=v∧E' 11=.int .i64 (l.length:Int)∧E' 12=.int .i64 (q.1:Int)∧E' 4=q.2∧q.1≤l.length∧VsAt X 5 1 q.2 (ev ((l.take q.1).flatMap encR)) ((l.take q.1).flatMap encR).length∧∀ n∈idsV q.2,H.next≤n) (fun q=>l.length-q.1) (0,.slice none 0 0)
   ⟨Mod.refl,g10,g11,g12,g4,zB0 _,VsAt.nil,fun n hn=>by simp[idsV]at hn⟩ ?_
  clear g4 g10 g11 g12 E
  rintro⟨k,u⟩ E X ⟨m,g10,g11,g12,g4,hk,hu,hid⟩
  simp only at g10 g11 g12 g4 hk hu hid
  rw[show X=ext X [] from rfl]
  by_cases hkl:k=l.length
  ·have hc:decide ((k:Int)<(l.length:Int))=false:=by simp[hkl]
   simp (maxDischargeDepth:=6) only[g10,g11,g12,g4,hc,ruW,putL,Nat.reduceLeDiff,xF,ruU,entryE,Nat.reduceLT,Nat.reduceAdd,Nat.reduceMul,Nat.reduceEqDiff]
   refine joinR_normal ⟨m,u,by simp only[g4,ruU,entryE,Nat.reduceLT,Nat.reduceAdd,Nat.reduceMul,Nat.reduceEqDiff],?_⟩
   rw[hkl,zF7]at hu
   exact hu
  ·have hlt:k<l.length:=by omega
   have hcd:decide ((k:Int)<(l.length:Int))=true:=decide_eq_true (by omega)
   obtain⟨c,hck⟩:∃ c,l[k]?=some c:=⟨_,zA6 hlt⟩
   have hcc:=hc c (zB9 hck)
   have hvX:VsAt X 3 1 v (iv l) l.length:=h.of m.next fun n hn=>m.get n (h.ne n hn).2 (by simp)
   obtain⟨n,ev',hn,hia,hb,hld⟩:=int_load hvX hck
   obtain⟨x,hx⟩:∃ x,X.next=x:=⟨_,rfl⟩
   have hr:0≤c∧c≤1114111:=by
    simp only[isR,zA4,Bool.not_eq_true',Bool.and_eq_false_iff,decide_eq_true_eq,decide_eq_false_iff_not]at hcc
    omega
   have w32:IntKind.i32.wrap c=c:=wrapI32 (by omega) (by omega)
   rw[hx]at hn
   simp (maxDischargeDepth:=6) only[g10,g11,g12,g4,hx,hcd,hia,hn,hb,hld,ruW,putL,Nat.reduceLeDiff,xF,ruU,entryE,Nat.reduceLT,Nat.reduceAdd,Nat.reduceMul,Nat.reduceEqDiff]
   refine (is_c (ext X []) c).to ?_
   simp (maxDischargeDepth:=6) only[hcc,g10,g11,g12,g4,w_convert,cv21,w32,ruW,putL,Nat.reduceLeDiff,xF,ruU,entryE,Nat.reduceLT,Nat.reduceAdd,Nat.reduceMul,Nat.reduceEqDiff]
   refine (appendRune_c X u _ c hu (m.ok hok) hcc (by have:=enc_len (l.take k); rw[zF6]at this; omega)).mono ?_
   rintro _ G ⟨u2,rfl,k1,k2,k3⟩
   rw[show G=ext G [] from rfl]
   rw[enc_take hck]at k1
   simp (maxDischargeDepth:=6) only[g10,g11,g12,g4,wrap_succ (show k<1000000 by omega),ruW,putL,Nat.reduceLeDiff,xF,ruU,entryE,Nat.reduceLT,Nat.reduceAdd,Nat.reduceMul,Nat.reduceEqDiff]
   refine loopC_next ⟨(k+1,u2),by simp only; omega,m.step k2 hok (fun q hq=>.inr (hid q hq)),?_,?_,?_,?_,by simp only; omega,k1,fun q hq=>by have:=k3 q hq; have:=m.next; simp only at *; omega⟩<;>simp only[g10,g11,g12,g4,ruU,entryE,Nat.reduceLT,Nat.reduceAdd,Nat.reduceMul,Nat.reduceEqDiff]
 ·rintro E X ⟨m,u,g4,hu⟩
  rw[show X=ext X [] from rfl]
  have hcv:=cv_str (X:=ext X []) hu
  simp (maxDischargeDepth:=6) only[g4,w_convert,hcv,Tryd.results81,ruW,putL,Nat.reduceLeDiff,xF,ruU,entryE,Nat.reduceLT,Nat.reduceAdd,Nat.reduceMul,Nat.reduceEqDiff]
  exact⟨rfl,m⟩
def lk0:Lk:=⟨0,0,false,false,false⟩
def opM (r c:Int):Op:=⟨1,r,c,0,lk0,.empty⟩
def opL (k:Lk):Op:=⟨2,0,0,0,k,.empty⟩
def opT (s:ByteArray):Op:=⟨3,0,0,0,lk0,s⟩
def opK (k:Int):Op:=⟨k,0,0,0,lk0,.empty⟩
def tailR (l:List Ce):Nat→Nat
 |0=>0
 |e+1=>if l[e]?=some Ce.sp then tailR l e else e+1
def skipR (a b:List Ce) (i:Nat):Nat→Nat
 |0=>i
 |f+1=>if a[i]?=b[i]? then skipR a b (i+1) f else i
def gapR (a b:List Ce) (i td k:Nat):Nat→Nat
 |0=>td
 |f+1=>if k<8 then (if a[i]?=b[i]? then gapR a b (i+1) td (k+1) f else gapR a b (i+1) (i+1) 0 f) else td
def half9 (b:List Ce) (s t:Nat):Nat:=if s<t∧(b[t]?).map Ce.rune=some (-1) then t+1 else t
def pieceR (a b:List Ce) (i e:Nat):Nat × Nat :=
 (skipR a b i (e-i),half9 b (skipR a b i (e-i)) (gapR a b (skipR a b i (e-i)) (skipR a b i (e-i)) 0 (e-skipR a b i (e-i))))
def spanR (k:Lk):List Ce→Nat
 |[]=>0
 |c::l=>if c.look=k then spanR k l+1 else 0
def runesR (l:List Ce):List Int:=(l.map Ce.rune).filter fun c=>decide (c≠-1)
def writeR:Nat→List Ce→Lk→List Op × Lk
 |0,_,p=>([],p)
 |_+1,[],p=>([],p)
 |f+1,c::l,p =>
  ((if c.look=p then [] else [opL c.look])++opT (strR (runesR ((c::l).take (spanR c.look (c::l)))))::(writeR f ((c::l).drop (spanR c.look (c::l))) c.look).1,
   (writeR f ((c::l).drop (spanR c.look (c::l))) c.look).2)
def runsR (row i:Nat) (l:List Ce) (p:Lk):List Op × Lk:=(opM row i::(writeR l.length l p).1,(writeR l.length l p).2)
def piecesR (row:Nat) (a b:List Ce) (e:Nat):Nat→Nat→Lk→List Op × Lk
 |0,_,p=>([],p)
 |f+1,i,p =>
  if (pieceR a b i e).1<(pieceR a b i e).2 then
   ((runsR row (pieceR a b i e).1 ((b.take (pieceR a b i e).2).drop (pieceR a b i e).1) p).1++(piecesR row a b e f (pieceR a b i e).2 (runsR row (pieceR a b i e).1 ((b.take (pieceR a b i e).2).drop (pieceR a b i e).1) p).2).1,
    (piecesR row a b e f (pieceR a b i e).2 (runsR row (pieceR a b i e).1 ((b.take (pieceR a b i e).2).drop (pieceR a b i e).1) p).2).2)
  else ([],p)
def endR (row:Nat) (a b:List Ce) (e:Nat):List Op:=if a.drop e=b.drop e then [] else [opM row e,opK 4]
def lineR (row:Nat) (a b:List Ce) (p:Lk):List Op × Lk :=
 ((piecesR row a b (tailR b b.length) (b.length+1) 0 p).1++endR row a b (tailR b b.length),(piecesR row a b (tailR b b.length) (b.length+1) 0 p).2)
def rowsR:Nat→List (List Ce)→List (List Ce)→Lk→List Op
 |i,a::g,b::h,p=>if a=b then rowsR (i+1) g h p else (lineR i a b p).1++rowsR (i+1) g h (lineR i a b p).2
 |_,_,_,_=>[]
def nowR (g h:List (List Ce)) (r c:Int):List (List Ce):=match shiftR g h with
 |some x=>(appV g r c [x]).1
 |none=>g
def curR (r c:Int):List Op:=if r<0 then [opK 8] else [opM r c,opK 7]
def opsR (g h:List (List Ce)) (r c r2 c2:Int):List Op:=(shiftR g h).toList++rowsR 0 (nowR g h r c) h lk0++curR r2 c2
theorem tailR_le (l:List Ce):∀ e,tailR l e≤e
 |0=>zA5 _
 |e+1=>by
  rw[tailR]
  split
  ·exact Nat.le_succ_of_le (tailR_le l e)
  ·exact zA5 _
theorem skipR_ge (a b:List Ce):∀ f i,i≤skipR a b i f∧skipR a b i f≤i+f
 |0,i=>⟨zA5 _,zA5 _⟩
 |f+1,i=>by
  rw[skipR]
  split
  ·have:=skipR_ge a b f (i+1); omega
  ·omega
theorem gapR_le (a b:List Ce):∀ f i td k,td≤i→td≤gapR a b i td k f∧gapR a b i td k f≤i+f
 |0,i,td,k,h=>by simp only[gapR]; omega
 |f+1,i,td,k,h=>by
  rw[gapR]
  split
  ·split
   ·have:=gapR_le a b f (i+1) td (k+1) (by omega); omega
   ·have:=gapR_le a b f (i+1) (i+1) 0 (by omega); omega
  ·omega
theorem pieceR_ge (a b:List Ce) (i e:Nat):i≤(pieceR a b i e).1∧(pieceR a b i e).1≤(pieceR a b i e).2:=by
 have h1:=skipR_ge a b (e-i) i
 have h2:=gapR_le a b (e-skipR a b i (e-i)) (skipR a b i (e-i)) (skipR a b i (e-i)) 0 (zA5 _)
 simp only[pieceR,half9]
 split<;>omega
theorem pieceR_le (a b:List Ce) (i e:Nat) (h:e≤b.length) (hi:i≤b.length):(pieceR a b i e).2≤b.length:=by
 have h1:=skipR_ge a b (e-i) i
 have h2:=gapR_le a b (e-skipR a b i (e-i)) (skipR a b i (e-i)) (skipR a b i (e-i)) 0 (zA5 _)
 simp only[pieceR,half9]
 split
 ·rename_i hc
  obtain⟨t,ht⟩:∃ t,gapR a b (skipR a b i (e-i)) (skipR a b i (e-i)) 0 (e-skipR a b i (e-i))=t:=⟨_,rfl⟩
  rw[ht]at hc ⊢
  rcases zC4 t b.length with h|h
  ·exact h
  ·rw[zE0 h]at hc; simp at hc
 ·omega
theorem spanR_le (k:Lk):∀ l,spanR k l≤l.length
 |[]=>zA5 _
 |c::l=>by
  rw[spanR]
  split
  ·have:=spanR_le k l; simp; omega
  ·simp
theorem spanR_pos (c:Ce) (l:List Ce):1≤spanR c.look (c::l):=by
 rw[spanR,if_pos rfl]; omega
def Lk.cells (k:Lk):List Value:=[.int .i64 k.fore,.int .i64 k.back,.bool k.bold,.bool k.under,.bool k.inv]
theorem lk_eqL (r s:Lk):eqL r.cells s.cells=decide (r=s):=by
 obtain⟨a,b,c,d,e⟩:=r
 obtain⟨a',b',c',d',e'⟩:=s
 simp only[Lk.cells,eqL,eq1,Bool.and_true,Lk.mk.injEq]
 by_cases h1:a=a'<;>by_cases h2:b=b'<;>by_cases h3:c=c'<;>by_cases h4:d=d'<;>by_cases h5:e=e'<;>simp[h1,h2,h3,h4,h5]
theorem fl45:flat Tryd.prog 10000 45=some [3,3,4,4,4]:=by kernel_rfl
theorem ag45:aggT Tryd.prog 45=some true:=by kernel_rfl
theorem gd45:Tryd.prog.eqGuardType Tryd.prog.depth 45=false:=by kernel_rfl
theorem lk_fits (r:Lk):fits Tryd.prog [3,3,4,4,4] r.cells=true:=by
 have h3:∀ n,fit1 Tryd.prog 3 (.int .i64 n)=true:=fun n=>by kernel_rfl
 have h4:∀ n,fit1 Tryd.prog 4 (.bool n)=true:=fun n=>by kernel_rfl
 simp only[Lk.cells,fits,h3,h4,zD1]
theorem other_c (H:AHeap) (c:Ce) (k:Lk) (q:Nat) (hb:bk H q=some ⟨45,false,k.cells⟩):Pure 80 [c.val,.pointer (some ⟨q,0,none⟩)] H (.bool (!decide (c.look=k))):=by
 obtain⟨b,hbn⟩:∃ b,H.next=b:=⟨_,rfl⟩
 refine callS_fn mixed Tryd.func80 rfl Tryd.ntmps80 (zA9 rfl) fun wf hsc=>?_
 have hbb:H.base≤b:=hbn▸wf.base
 have hlt:q<b:=hbn▸wf.lt hb
 simp (maxDischargeDepth:=6) only[Ce.val,Lk.cells,hbn,hbb,hb,hlt,ruW,putL,Nat.reduceLeDiff,xF,ruU,entryE,Nat.reduceLT,Nat.reduceAdd,Nat.reduceMul,Nat.reduceEqDiff]
 refine w_eqS (ts:=[3,3,4,4,4]) (xs:=c.look.cells) (ys:=k.cells) (r:=!decide (c.look=k)) fl45 ag45 gd45 (by rw[lk_eqL]; rfl) (by simp only[ruU,entryE,Nat.reduceLT,Nat.reduceAdd,Nat.reduceMul,Nat.reduceEqDiff]) (by simp only[ruU,entryE,Nat.reduceLT,Nat.reduceAdd,Nat.reduceMul,Nat.reduceEqDiff]) (by decide) (by simp only[ruU,entryE,Nat.reduceLT,Nat.reduceAdd,Nat.reduceMul,Nat.reduceEqDiff]; rfl) (by simp only[ruU,entryE,Nat.reduceLT,Nat.reduceAdd,Nat.reduceMul,Nat.reduceEqDiff]; rfl) (lk_fits _) (lk_fits _) ?_
 simp (maxDischargeDepth:=6) only[Tryd.results80,ruW,putL,Nat.reduceLeDiff,xF,ruU,entryE,Nat.reduceLT,Nat.reduceAdd,Nat.reduceMul,Nat.reduceEqDiff]
 exact Fin.pureE rfl rfl
def ixR (k:Lk) (l:List Ce):Int:=if spanR k l<l.length then (spanR k l:Int) else -1
theorem spanR_drop (k:Lk):∀ (l:List Ce) (i:Nat),(∀ j c,j<i→l[j]?=some c→c.look=k)→i≤l.length→spanR k l=spanR k (l.drop i)+i
 |l,0,_,_=>by simp
 |[],i+1,_,h=>by simp at h
 |c::l,i+1,h,hi=>by
  rw[spanR,if_pos (h 0 c (Nat.succ_pos _) rfl),List.drop_succ_cons,spanR_drop k l i (fun j c' hj hc=>h (j+1) c' (by omega) hc) (by simpa using hi)]
  omega
theorem index79_c (H:AHeap) (v:Value) (l:List Ce) (k:Lk) (q:Nat) (hr:RowAt H v l) (hl:l.length<1000000) (hq:bk H q=some ⟨45,false,k.cells⟩) :
  Pure 79 [v,.func (.func 80) ⟨[]⟩ ⟨[.pointer (some ⟨q,0,none⟩)]⟩] H (.int .i64 (ixR k l)):=by
 obtain⟨b,hb⟩:∃ b,H.next=b:=⟨_,rfl⟩
 refine callS_fn mixed Tryd.func79 rfl Tryd.ntmps79 (zA9 rfl) fun wf hsc=>?_
 obtain⟨a1,c1,e1⟩:=hr.sl
 rw[e1]
 simp (maxDischargeDepth:=6) only[ruW,putL,Nat.reduceLeDiff,xF,ruU,entryE,Nat.reduceLT,Nat.reduceAdd,Nat.reduceMul,Nat.reduceEqDiff]
 rw[←e1]
 refine w_env fun E hE=>?_
 have g0:E 0=v:=by rw[hE]; simp only[ruU,entryE,Nat.reduceLT,Nat.reduceAdd,Nat.reduceMul,Nat.reduceEqDiff]
 have g1:E 1=.func (.func 80) ⟨[]⟩ ⟨[.pointer (some ⟨q,0,none⟩)]⟩:=by rw[hE]; simp only[ruU,entryE,Nat.reduceLT,Nat.reduceAdd,Nat.reduceMul,Nat.reduceEqDiff]
 have g7:E 7=.int .i64 (l.length:Int):=by rw[hE]; simp only[ruU,entryE,Nat.reduceLT,Nat.reduceAdd,Nat.reduceMul,Nat.reduceEqDiff]
 have g8:E 8=.int .i64 ((0:Nat):Int):=by rw[hE]; (simp only[ruU,entryE,Nat.reduceLT,Nat.reduceAdd,Nat.reduceMul,Nat.reduceEqDiff]<;>rfl)
 clear hE
 refine blockC_meet (fun E' H'=>H'=ext H []∧spanR k l=l.length) ?_ ?_
 ·refine w_loop (fun (i:Nat) E' H'=>H'=ext H []∧E' 0=v∧E' 1=.func (.func 80) ⟨[]⟩ ⟨[.pointer (some ⟨q,0,none⟩)]⟩∧E' 7=.int .i64 (l.length:Int)∧E' 8=.int .i64 (i:Int)∧i≤l.length∧∀ j c,j<i→l[j]?=some c→c.look=k) (fun i=>l.length-i) 0
   ⟨rfl,g0,g1,g7,g8,zB0 _,fun j c hj=>by omega⟩ ?_
  clear g0 g1 g7 g8
  rintro i E H' ⟨hH,g0,g1,g7,g8,hk,hpre⟩
  rw[hH]
  have hbd:=spanR_drop k l i hpre hk
  by_cases hkl:i=l.length
  ·have hc:decide ((i:Int)<(l.length:Int))=false:=by simp[hkl]
   simp (maxDischargeDepth:=6) only[g0,g1,g7,g8,hc,ruW,putL,Nat.reduceLeDiff,xF,ruU,entryE,Nat.reduceLT,Nat.reduceAdd,Nat.reduceMul,Nat.reduceEqDiff]
   rw[zE7 (by omega),spanR]at hbd
   exact joinR_normal ⟨rfl,by omega⟩
  ·have hlt:i<l.length:=by omega
   have hc:decide ((i:Int)<(l.length:Int))=true:=decide_eq_true (by omega)
   rcases hr with⟨h,_⟩|⟨_,n1,o1,s1,x1,t1,p1,L1,rfl,b1,n1l,le1,tk1⟩
   ·rw[h]at hlt; simp at hlt
   obtain⟨r1,hr1⟩:∃ r,l[i]?=some r:=⟨_,zA6 hlt⟩
   have i1:=row_ia (n:=n1) (off:=o1) (s:=s1) (cap:=x1) (i:=(i:Int)) rfl hlt
   have q1:=row_load (e:=t1) (o:=p1) hr1 le1 tk1
   rw[hb]at n1l
   have hna:=other_c (ext H []) r1 k q hq
   obtain⟨d,hd⟩:∃ d,decide (r1.look=k)=d:=⟨_,rfl⟩
   rw[hd]at hna
   have hdr:l.drop i=r1::l.drop (i+1):=by
    rw[zF0 hlt]
    rw[zA6 hlt]at hr1
    rw[Option.some.inj hr1]
   rw[hdr,spanR]at hbd
   simp (maxDischargeDepth:=6) only[g0,g1,g7,g8,hb,hc,i1,b1,n1l,q1,qk_old,ruW,putL,Nat.reduceLeDiff,xF,ruU,entryE,Nat.reduceLT,Nat.reduceAdd,Nat.reduceMul,Nat.reduceEqDiff]
   refine w_callV (f:=80) (ca:=[.pointer (some ⟨q,0,none⟩)]) (by simp only[ruU,entryE,Nat.reduceLT,Nat.reduceAdd,Nat.reduceMul,Nat.reduceEqDiff]) (by simp only[g1,ruU,entryE,Nat.reduceLT,Nat.reduceAdd,Nat.reduceMul,Nat.reduceEqDiff]) (by simp only[ruU,entryE,Nat.reduceLT,Nat.reduceAdd,Nat.reduceMul,Nat.reduceEqDiff]) (by kernel_rfl) ?_
   simp only[ruU,entryE,Nat.reduceLT,Nat.reduceAdd,Nat.reduceMul,Nat.reduceEqDiff]
   refine (show CallS Tryd.prog 80 _ (ext H []) _ (ext H []) from hna).to ?_
   cases d with
   |true =>
    simp (maxDischargeDepth:=6) only[g0,g1,g7,g8,zC8,wrap_succ (show i<1000000 by omega),ruW,putL,Nat.reduceLeDiff,xF,ruU,entryE,Nat.reduceLT,Nat.reduceAdd,Nat.reduceMul,Nat.reduceEqDiff]
    refine loopC_next ⟨i+1,by omega,rfl,?_,?_,?_,?_,by omega,fun j c hj hq2=>?_⟩
    ·simp only[g0,ruU,entryE,Nat.reduceLT,Nat.reduceAdd,Nat.reduceMul,Nat.reduceEqDiff]
    ·simp only[g1,ruU,entryE,Nat.reduceLT,Nat.reduceAdd,Nat.reduceMul,Nat.reduceEqDiff]
    ·simp only[g7,ruU,entryE,Nat.reduceLT,Nat.reduceAdd,Nat.reduceMul,Nat.reduceEqDiff]
    ·simp only[g8,ruU,entryE,Nat.reduceLT,Nat.reduceAdd,Nat.reduceMul,Nat.reduceEqDiff]
    ·rcases zC4 j i with h|h
     ·exact hpre j c h hq2
     ·obtain rfl:j=i:=by omega
      rw[hr1]at hq2
      cases hq2
      exact of_decide_eq_true hd
   |false =>
    rw[if_neg (of_decide_eq_false hd),zC1]at hbd
    simp (maxDischargeDepth:=6) only[g0,g1,g7,g8,zD6,joinR_ret,Tryd.results79,ruW,putL,Nat.reduceLeDiff,xF,ruU,entryE,Nat.reduceLT,Nat.reduceAdd,Nat.reduceMul,Nat.reduceEqDiff]
    exact Fin.pureE (by rw[ixR,hbd,if_pos hlt]) rfl
 ·rintro E H' ⟨hH,hbd⟩
  rw[hH]
  simp (maxDischargeDepth:=6) only[Tryd.results79,ruW,putL,Nat.reduceLeDiff,xF,ruU,entryE,Nat.reduceLT,Nat.reduceAdd,Nat.reduceMul,Nat.reduceEqDiff]
  exact Fin.pureE (by rw[ixR,if_neg (by omega)]) rfl
def ExQ (H:AHeap) (n:Nat) (s:Option Nat):Prop:=s=some 0∨(s=none∧∃ b,bk H n=some b)
def SlE (H:AHeap) (sz:Nat) (u:Value) (L:List Value) (cnt:Nat):Prop :=
 ∃ n off s c e o M,u=.slice (some ⟨n,off,s⟩) cnt (cnt+c)∧ExQ H n s∧rk H n=some ⟨e,o,M⟩∧n<H.next∧off+cnt*sz≤M.length∧(M.drop off).take (cnt*sz)=L
section
variable {H G : AHeap} {u : Value} {L : List Value} {sz cnt : Nat}
theorem ExQ.of {n:Nat} {s:Option Nat} (h:ExQ H n s) (hg:G.get n=H.get n):ExQ G n s:=h.imp id fun⟨h1,b,h2⟩=>⟨h1,b,(bk_get hg).trans h2⟩
theorem SlE.of (h:SlE H sz u L cnt) (hn:H.next≤G.next) (hg:∀ n∈idsV u,G.get n=H.get n):SlE G sz u L cnt:=by
 obtain⟨n,off,s,c,e,o,M,rfl,h1,h2,h3,h4,h5⟩:=h
 have:=hg n (by simp[idsV])
 exact⟨n,off,s,c,e,o,M,rfl,h1.of this,(rk_get this).trans h2,by omega,h4,h5⟩
theorem SlE.ne (h:SlE H sz u L cnt):∀ n∈idsV u,H.get n≠none∧n<H.next:=by
 obtain⟨n,off,s,c,e,o,M,rfl,h1,h2,h3,h4,h5⟩:=h
 intro m hm
 simp only[idsV,zA8]at hm
 subst hm
 exact⟨rk_ne h2,h3⟩
theorem SlE.mod0 (h:SlE H sz u L cnt) (m:Mod [] H G):SlE G sz u L cnt:=h.of m.next fun n hn=>m.get n (h.ne n hn).2 (by simp)
theorem SlE.sc (h:SlE H sz u L cnt):scb H.next u=true:=by
 obtain⟨n,off,s,c,e,o,M,rfl,h1,h2,h3,h4,h5⟩:=h
 exact blt_of h3
theorem SlE.slice {P:Program} {t e:TypeId} (hu:P.underlying t=some (.slice e)) (hsz:szOf P e=some sz) (h0:sz≠0) (h:SlE H sz u L cnt) {x y:Option Value} {lo hi:Nat} (hx:bound 0 x=some lo) (hy:bound cnt y=some hi) (h1:lo≤hi) (h2:hi≤cnt) :
  ∃ u',(∀ G:AHeap,(∀ n∈idsV u,G.get n=H.get n)→aSlice P G t u x y none=some (u',G))∧(lo<hi→SlE H sz u' ((L.drop (lo*sz)).take ((hi-lo)*sz)) (hi-lo))∧(∃ a c,u'=.slice a (hi-lo) c)∧(∀ n∈idsV u',n∈idsV u)∧(∀ n,scb n u=true→scb n u'=true):=by
 obtain⟨n,off,s,c,e',o,M,rfl,hex,hb,hlt,hle,ht⟩:=h
 have hM:∀ k,k=lo→(M.drop (off+k*sz)).take ((hi-lo)*sz)=(L.drop (lo*sz)).take ((hi-lo)*sz):=fun k e=>by
  subst e
  have h3:(hi-k)*sz≤cnt*sz-k*sz:=by rw[←Nat.sub_mul]; exact Nat.mul_le_mul_right _ (by omega)
  rw[←ht,List.drop_take,List.drop_drop,List.take_take,Nat.min_eq_left h3]
 have hlen:off+lo*sz+(hi-lo)*sz≤M.length:=by
  have:lo*sz+(hi-lo)*sz=hi*sz:=by rw[←Nat.add_mul]; congr 1; omega
  have h3:hi*sz≤cnt*sz:=Nat.mul_le_mul_right _ h2
  omega
 have hq:∃ q:Bool,(∀ G:AHeap,G.get n=H.get n→exactAt G ⟨n,off,s⟩=some q):=by
  rcases hex with rfl|⟨rfl,b,hb'⟩
  ·exact⟨true,fun G hg=>rfl⟩
  ·exact⟨!b.o,fun G hg=>by simp only[exactAt,isOpen_bk ((bk_get hg).trans hb'),zA7]⟩
 obtain⟨q,hq⟩:=hq
 cases q with
 |true =>
  refine⟨.slice (some ⟨n,if cnt+c=lo then off else off+lo*sz,some 0⟩) (hi-lo) (cnt+c-lo),fun G hg=>?_,fun hlh=>?_,⟨_,_,rfl⟩,fun q hq=>by simpa[idsV]using hq,fun q hq=>by simpa[scb]using hq⟩
  ·simp only[aSlice,hu,hsz,zA1,zA3,aSlice2,hx,hy,hq G (hg n (by simp[idsV]))]
   rw[if_pos ⟨by omega,h1⟩]
  ·rw[if_neg (by omega)]
   exact⟨n,_,some 0,cnt+c-hi,e',o,M,by rw[show hi-lo+(cnt+c-hi)=cnt+c-lo by omega],.inl rfl,hb,hlt,hlen,hM lo rfl⟩
 |false =>
  obtain⟨rfl,b,hb'⟩:s=none∧∃ b,bk H n=some b:=by
   rcases hex with rfl|h
   ·have:=hq H rfl
    simp[exactAt]at this
   ·exact h
  by_cases hl0:lo=0
  ·subst hl0
   refine⟨.slice (some ⟨n,off,none⟩) hi (cnt+c),fun G hg=>?_,fun hlh=>?_,⟨_,_,by rw[Nat.sub_zero]⟩,fun q hq=>by simpa[idsV]using hq,fun q hq=>by simpa[scb]using hq⟩
   ·simp only[aSlice,hu,hsz,zA1,zA3,aSlice2,hx,hy,hq G (hg n (by simp[idsV]))]
    rw[if_pos ⟨by omega,h1⟩]
    simp only[if_true]
   ·have hM0:=hM 0 rfl
    rw[zE1]at hlen hM0
    exact⟨n,off,none,cnt+c-hi,e',o,M,by rw[Nat.sub_zero,show hi+(cnt+c-hi)=cnt+c by omega],.inr ⟨rfl,b,hb'⟩,hb,hlt,hlen,by rw[zE1]; exact hM0⟩
  ·by_cases hlc:lo<cnt+c
   ·refine⟨.slice (some ⟨n,off+lo*sz,none⟩) (hi-lo) (cnt+c-lo),fun G hg=>?_,fun hlh=>?_,⟨_,_,rfl⟩,fun q hq=>by simpa[idsV]using hq,fun q hq=>by simpa[scb]using hq⟩
    ·simp only[aSlice,hu,hsz,zA1,zA3,aSlice2,hx,hy,hq G (hg n (by simp[idsV]))]
     rw[if_pos ⟨by omega,h1⟩,if_neg hl0,if_pos hlc]
    ·exact⟨n,_,none,cnt+c-hi,e',o,M,by rw[show hi-lo+(cnt+c-hi)=cnt+c-lo by omega],.inr ⟨rfl,b,hb'⟩,hb,hlt,hlen,hM lo rfl⟩
   ·refine⟨.slice (some ⟨n,off+lo*sz,some (off+1)⟩) 0 0,fun G hg=>?_,fun hlh=>absurd hlh (by omega),⟨_,0,by rw[show hi-lo=0 by omega]⟩,fun q hq=>by simpa[idsV]using hq,fun q hq=>by simpa[scb]using hq⟩
    simp only[aSlice,hu,hsz,zA1,zA3,aSlice2,hx,hy,hq G (hg n (by simp[idsV]))]
    rw[if_pos ⟨by omega,h1⟩,if_neg hl0,if_neg hlc,if_neg h0]
end
def RowS (H:AHeap) (v:Value) (l:List Ce):Prop:=(l=[]∧∃ a c,v=.slice a 0 c)∨(l≠[]∧SlE H 6 v (csOf l) l.length)
def GridS (H:AHeap) (v:Value) (g:List (List Ce)):Prop :=
 (g=[]∧∃ a c,v=.slice a 0 c)∨(g≠[]∧∃ rvs,rvs.length=g.length∧SlE H 1 v rvs g.length∧∀ (k:Nat) (row:List Ce),g[k]?=some row→∃ rv,rvs[k]?=some rv∧RowS H rv row)
section
variable {H G : AHeap} {v : Value} {l : List Ce} {g : List (List Ce)}
theorem RowS.at_ (h:RowS H v l):RowAt H v l:=by
 rcases h with h|⟨h0,n,off,s,c,e,o,M,rfl,h1,h2,h3,h4,h5⟩
 ·exact .inl h
 ·exact .inr ⟨h0,n,off,s,_,e,o,M,rfl,h2,h3,h4,h5⟩
theorem RowS.of (h:RowS H v l) (hn:H.next≤G.next) (hg:∀ n∈idsV v,G.get n=H.get n):RowS G v l:=h.imp id fun⟨h0,h1⟩=>⟨h0,h1.of hn hg⟩
theorem RowS.mod0 (h:RowS H v l) (m:Mod [] H G):RowS G v l:=h.imp id fun⟨h0,h1⟩=>⟨h0,h1.mod0 m⟩
theorem RowS.sl (h:RowS H v l):∃ a c,v=.slice a l.length c:=h.at_.sl
theorem GridS.at_ (h:GridS H v g):GridAt H v g:=by
 rcases h with h|⟨h0,rvs,hl,⟨n,off,s,c,e,o,M,rfl,h1,h2,h3,h4,h5⟩,hr⟩
 ·exact .inl h
 ·refine .inr ⟨h0,n,off,s,_,e,o,M,rfl,h2,h3,by omega,fun k row hk=>?_⟩
  obtain⟨rv,h6,h7⟩:=hr k row hk
  refine⟨rv,?_,h7.at_⟩
  rw[←h5,List.getElem?_take,if_pos (by have:=(zE2.1 hk).1; omega),List.getElem?_drop]at h6
  exact h6
theorem GridS.mod0 (h:GridS H v g) (m:Mod [] H G):GridS G v g:=h.imp id fun⟨h0,rvs,h1,h2,h3⟩=>⟨h0,rvs,h1,h2.mod0 m,fun k row hk=>let ⟨rv,h4,h5⟩:=h3 k row hk; ⟨rv,h4,h5.mod0 m⟩⟩
theorem csOf_part (l:List Ce) (lo hi:Nat):((csOf l).drop (lo*6)).take ((hi-lo)*6)=csOf ((l.take hi).drop lo):=by
 have e1:∀ (l:List Ce) (k:Nat),(csOf l).drop (k*6)=csOf (l.drop k):=fun l k=>by
  rcases zC4 k l.length with h|h
  ·have e:l=l.take k++l.drop k:=(List.take_append_drop k l).symm
   have hk:(csOf (l.take k)).length=k*6:=by rw[csOf_length,zF6]; omega
   conv=>lhs; rw[e,csOf_append]
   rw[←hk,List.drop_left]
  ·rw[zE7 (by rw[csOf_length]; omega),zE7 h]; rfl
 have e2:∀ (l:List Ce) (k:Nat),(csOf l).take (k*6)=csOf (l.take k):=fun l k=>by
  rcases zC4 k l.length with h|h
  ·have e:l=l.take k++l.drop k:=(List.take_append_drop k l).symm
   have hk:(csOf (l.take k)).length=k*6:=by rw[csOf_length,zF6]; omega
   conv=>lhs; rw[e,csOf_append]
   rw[←hk,List.take_left]
  ·rw[zE6 (by rw[csOf_length]; omega),zE6 h]
 rw[e1,e2,List.drop_take]
theorem RowS.slice (h:RowS H v l) (hne:l≠[]) {x y:Option Value} {lo hi:Nat} (hx:bound 0 x=some lo) (hy:bound l.length y=some hi) (h1:lo≤hi) (h2:hi≤l.length) :
  ∃ u',(∀ G:AHeap,(∀ n∈idsV v,G.get n=H.get n)→aSlice Tryd.prog G 56 v x y none=some (u',G))∧RowS H u' ((l.take hi).drop lo)∧(∀ n∈idsV u',n∈idsV v)∧(∀ n,scb n v=true→scb n u'=true):=by
 rcases h with⟨h,_⟩|⟨_,h⟩
 ·exact absurd h hne
 obtain⟨u',ha,hb,⟨a,c,hc⟩,hd,he⟩:=h.slice (P:=Tryd.prog) (t:=56) (e:=55) (by kernel_rfl) (by kernel_rfl) (by omega) hx hy h1 h2
 have hl:((l.take hi).drop lo).length=hi-lo:=by simp; omega
 refine⟨u',ha,?_,hd,he⟩
 by_cases hz:lo=hi
 ·exact .inl ⟨zC5 (by omega),a,c,by rw[hc,show hi-lo=0 by omega]⟩
 ·refine .inr ⟨fun e=>by rw[e]at hl; simp at hl; omega,?_⟩
  have:=hb (by omega)
  rw[csOf_part]at this
  rw[hl]
  exact this
theorem GridS.slice (h:GridS H v g) (hne:g≠[]) {x y:Option Value} {lo hi:Nat} (hx:bound 0 x=some lo) (hy:bound g.length y=some hi) (h1:lo≤hi) (h2:hi≤g.length) :
  ∃ u',(∀ G:AHeap,(∀ n∈idsV v,G.get n=H.get n)→aSlice Tryd.prog G 22 v x y none=some (u',G))∧GridS H u' ((g.take hi).drop lo)∧(∀ n∈idsV u',n∈idsV v)∧(∀ n,scb n v=true→scb n u'=true):=by
 rcases h with⟨h,_⟩|⟨_,rvs,hlr,h,hr⟩
 ·exact absurd h hne
 obtain⟨u',ha,hb,⟨a,c,hc⟩,hd,he⟩:=h.slice (P:=Tryd.prog) (t:=22) (e:=56) (by kernel_rfl) (by kernel_rfl) (by omega) hx hy h1 h2
 have hl:((g.take hi).drop lo).length=hi-lo:=by simp; omega
 refine⟨u',ha,?_,hd,he⟩
 by_cases hz:lo=hi
 ·exact .inl ⟨zC5 (by omega),a,c,by rw[hc,show hi-lo=0 by omega]⟩
 ·refine .inr ⟨fun e=>by rw[e]at hl; simp at hl; omega,(rvs.drop lo).take (hi-lo),by simp; omega,?_,fun k row hk=>?_⟩
  ·have:=hb (by omega)
   rw[Nat.mul_one,Nat.mul_one]at this
   rw[hl]
   exact this
  ·rw[List.getElem?_drop,List.getElem?_take]at hk
   split at hk
   ·rename_i hk2
    obtain⟨rv,h3,h4⟩:=hr _ _ hk
    exact⟨rv,by rw[List.getElem?_take,if_pos (by omega),List.getElem?_drop]; exact h3,h4⟩
   ·cases hk
theorem OwnRow.rowS {N:Nat} {rv:Value} (h:OwnRow N H rv l):RowS H rv l:=by
 obtain⟨n,t,c,o,rfl,hb,h1,h2⟩:=h
 by_cases hl:l=[]
 ·subst hl; exact .inl ⟨rfl,_,_,rfl⟩
 ·refine .inr ⟨hl,n,0,spOf t,c,_,o,csOf l,rfl,?_,rk_of hb,h2,by rw[csOf_length]; omega,by rw[zD3,zE6 (by rw[csOf_length]; exact zA5 _)]⟩
  cases t with
  |false=>exact .inl rfl
  |true=>exact .inr ⟨rfl,_,hb⟩
end
def OpsW (H:AHeap) (v:Value) (l:List Op):Prop:=VsAt H 47 10 v (opsOf l) l.length
theorem OpsW.nil {H:AHeap}:OpsW H (.slice none 0 0) []:=VsAt.nil
theorem OpsW.of {H G:AHeap} {v:Value} {l:List Op} (h:OpsW H v l) (hn:H.next≤G.next) (hg:∀ n∈idsV v,G.get n=H.get n):OpsW G v l:=VsAt.of h hn hg
theorem OpsW.ne {H:AHeap} {v:Value} {l:List Op} (h:OpsW H v l):∀ n∈idsV v,H.get n≠none∧n<H.next:=VsAt.ne h
theorem OpsW.sc {H:AHeap} {v:Value} {l:List Op} (h:OpsW H v l):scb H.next v=true:=VsAt.sc h
theorem OpsW.len {H:AHeap} {v:Value} {l:List Op} (h:OpsW H v l):∃ a,v=.slice a l.length l.length:=VsAt.len h
theorem OpsW.mod0 {H G:AHeap} {v:Value} {l:List Op} (h:OpsW H v l) (m:Mod [] H G):OpsW G v l:=h.of m.next fun n hn=>m.get n (h.ne n hn).2 (by simp)
theorem OpsW.at_ {H:AHeap} {v:Value} {l:List Op} (h:OpsW H v l):OpsAt H v l:=by
 obtain⟨h1,h2,⟨h3,rfl⟩|⟨h3,n,rfl,hb,hn⟩⟩:=h
 ·exact .inl ⟨zC5 h3,_,_,rfl⟩
 ·refine .inr ⟨fun e=>by rw[e]at h3; simp at h3,n,0,none,_,_,_,_,rfl,rk_of hb,hn,by rw[opsOf_len]; omega,?_⟩
  rw[zD3,zE6 (by rw[opsOf_len]; exact zA5 _)]
theorem opsW_app {H:AHeap} {v u:Value} {l l2:List Op} (h:OpsW H v l) (hp:OpsAt H u l2) (hok:H.base≤H.next) (hl:l.length+l2.length≤100000) :
  ∃ v' G,aBuiltin Tryd.prog H .append ⟨[28,28]⟩ [v,u]=some (v',G)∧OpsW G v' (l++l2)∧Mod (idsV v) H G∧∀ n∈idsV v',n∈idsV v∨H.next≤n:=by
 by_cases h0:l=[]
 ·subst h0
  obtain⟨h1,h2,⟨h3,rfl⟩|⟨h3,n,e,hb,hn⟩⟩:=h
  ·rw[zB8]
   by_cases h2:l2=[]
   ·subst h2
    obtain⟨a,c,rfl⟩:=hp.sl
    have hle:Go.Ax.lenV (.slice a ([]:List Op).length c)=some 0:=rfl
    have hfi:firstC H 10 0 (.slice a ([]:List Op).length c)=some []:=by
     cases a with
     |none=>rfl
     |some a=>simp only[firstC,if_true]
    exact⟨_,H,app_nn (P:=Tryd.prog) (st:=28) (xt:=28) o_und o_sz o_by o_zero rfl o_int hle hfi,OpsW.nil,Mod.refl,fun n hn=>.inl hn⟩
   ·rcases hp with⟨e,_⟩|⟨_,n,off,s,c,e,o,L,rfl,hb,hnl,hle,ht⟩
    ·exact absurd e h2
    have hpos:0<l2.length:=List.length_pos_iff.2 h2
    obtain⟨G,ga,gb,gc,gd,ge⟩:=vs_app (P:=Tryd.prog) (H:=H) (st:=28) (xt:=28) (e:=47) (sz:=10) (by1:=72) (n:=n) (off:=off) (cnt2:=l2.length) (cap:=c) (s:=s) (x:=H.next) (ws:=opsOf l2) (b:=⟨e,o,L⟩)
     o_und o_sz o_by o_zero rfl o_int (VsAt.nil (H:=H) (e:=47) (sz:=10)) hb hle ht (ops_one l2) hpos (o_small (by simpa using hl)) rfl (scbL_append rfl (ops_sc _ _))
    rw[zC1,zB8]at gb
    rw[zC1]at ga
    exact⟨_,G,ga,gb,gc hok,fun q hq=>.inr (by simp only[idsV,zA8]at hq; omega)⟩
  ·simp at h3
 ·obtain⟨v',G,ga,gb,gc,gd⟩:=opsV_app (m:=0) (.inr ⟨h0,h⟩) hp hok hl
  refine⟨v',G,ga,?_,gc,gd⟩
  rcases gb with⟨e,_⟩|⟨_,gb⟩
  ·simp[h0]at e
  ·exact gb
section
variable {Z : AHeap} {N : Nat} {E : Env} {ds : List Deferred} {ops : Array Oper} {anc : List Nat} {ty : TypeId} {pos : String} {after : Array Edge} {rest : List Oper} {i d : Nat} {fps : List Fp} {Q : AAct → AHeap → Prop} {v u : Value} {l l2 : List Op}
theorem genV_appW {args:List Operand} (h:OpsW Z v l) (hp:OpsAt Z u l2) (hnu:∀ n∈idsV u,l2≠[]→n<Z.next∧Z.get n≠none) (hok:Z.base≤Z.next) (hl:l.length+l2.length≤100000)
  (hd:d<N) (ha:args.all (opOk Tryd.prog N)=true) (hv:args.map (opv E)=[v,u]) (hm:∀ r∈fps,(anc.getD i 0).testBit r.i=true∨(r.hi≤r.lo∧(∀ n∈r.W,n∉idsV v++idsV u)∧(∀ n∈r.F,n∉idsV v)))
  (hk:∀ v' Z' D F,Mod (idsV v) Z Z'→OpsW Z' v' (l++l2)→(∀ n∈idsV v',n∈idsV v∨Z.next≤n)→(∀ n∈D,n∈idsV v)→wkD Tryd.prog ops anc rest (i+1) (⟨i,F,D,Z.next,Z'.next⟩::fps) (mkA N (upd E d v') ds) Z' Q) :
  genV Tryd.prog ops anc ⟨some d,.call ⟨.builtin .append,⟨args⟩,⟨[28,28]⟩⟩,ty,pos,after,none⟩ rest i fps (mkA N E ds) Z Q:=by
 obtain⟨W,hW⟩:∃ W,W=if l2=[] then [] else idsV u:=⟨_,rfl⟩
 have hrn:=restrict_next Z (idsV v++W)
 have hg:∀ n,n∈idsV v++W→(Z.restrict (idsV v++W)).get n=Z.get n:=fun n hn=>by rw[restrict_get,if_pos hn]
 have hpR:OpsAt (Z.restrict (idsV v++W)) u l2:=by
  by_cases h2:l2=[]
  ·obtain⟨a,c,e⟩:=hp.sl
   subst h2
   exact .inl ⟨rfl,a,c,e⟩
  ·exact hp.of (by rw[hrn.1]; exact zA5 _) fun n hn=>hg n (zD5 _ (by rw[hW,if_neg h2]; exact hn))
 obtain⟨v',G,ga,gb,gc,gd⟩:=opsW_app (h.of (G:=Z.restrict (idsV v++W)) (by rw[hrn.1]; exact zA5 _) fun n hn=>hg n (zD4 _ hn)) hpR (by rw[hrn.1,hrn.2.1]; exact zA5 _) hl
 rw[hrn.1]at gd
 have hWn:∀ n∈W,n<Z.next∧Z.get n≠none:=fun n hn=>by
  rw[hW]at hn
  split at hn
  ·simp at hn
  ·rename_i h2; exact hnu n hn h2
 refine genV_modO (W:=idsV v) (idsV v++W) hok (fun n hn=>?_) (fun n hn=>?_) (fun n hn=>zD4 _ hn) (app_op (v:=v') (G:=G) ha (by rw[hv]; exact ga)) gc (fun r hr=>(hm r hr).imp id fun h=>⟨h.1,fun n hn hF=>h.2.1 n hn (by
   rcases zB4.1 hF with h3|h3
   ·exact zD4 _ h3
   ·refine zD5 _ ?_
    rw[hW]at h3
    split at h3
    ·simp at h3
    ·exact h3),h.2.2⟩) ?_
 ·rcases zB4.1 hn with hn|hn
  ·exact (h.ne n hn).1
  ·exact (hWn n hn).2
 ·rcases zB4.1 hn with hn|hn
  ·exact (h.ne n hn).2
  ·exact (hWn n hn).1
 intro Z' D m1 m2 m3 m4 m5
 have gl:=gc.next
 rw[hrn.1]at gl
 have hv':OpsW Z' v' (l++l2):=gb.of (by omega) fun n hn=>by
  rcases gd n hn with h5|h5
  ·exact m2 n (zD4 _ h5)
  ·exact m3 n h5 (gb.ne n hn).2
 have:=hk v' Z' D (idsV v++W) m1 hv' gd m5
 rw[m4]at this
 rw[put_some N E ds d v' hd]
 rw[←m4]at this ⊢
 exact this
end
def KpN (N:Nat) (F:List Nat) (H X:AHeap):Prop:=∃ W:List Nat,(∀ n∈W,N≤n∧n∉F)∧Mod W H X
section
variable {N : Nat} {F : List Nat} {H X Y : AHeap}
theorem KpN.refl:KpN N F H H:=⟨[],by simp,Mod.refl⟩
theorem KpN.of0 (m:Mod [] H X):KpN N F H X:=⟨[],by simp,m⟩
theorem KpN.trans (m:KpN N F H X) (k:KpN N F X Y):KpN N F H Y:=by
 obtain⟨W,h1,m⟩:=m
 obtain⟨V,h2,k⟩:=k
 exact⟨W++V,fun n hn=>(zB4.1 hn).elim (h1 n) (h2 n),(m.mono fun n h=>zD4 _ h).trans (k.mono fun n h=>zD5 _ h)⟩
theorem KpN.next (m:KpN N F H X):H.next≤X.next:=let ⟨_,_,m⟩:=m; m.next
theorem KpN.ok (m:KpN N F H X) (h:H.base≤H.next):X.base≤X.next:=let ⟨_,_,m⟩:=m; m.ok h
theorem KpN.get (m:KpN N F H X) {n:Nat} (hl:n<H.next) (h:n<N∨n∈F):X.get n=H.get n:=by
 obtain⟨W,h1,m⟩:=m
 refine m.get n hl fun hw=>?_
 rcases h with h|h
 ·have:=(h1 n hw).1; omega
 ·exact (h1 n hw).2 h
theorem KpN.mod {G:AHeap} (m:KpN N F H X) (g:Mod [] G H) (hok:G.base≤G.next) (hN:G.next≤N):Mod [] G X:=by
 obtain⟨W,h1,m⟩:=m
 exact g.step m hok fun n hn=>.inr (zD9 hN (h1 n hn).1)
theorem RowS.kp {v:Value} {l:List Ce} (h:RowS H v l) (m:KpN N F H X) (hi:∀ n∈idsV v,n<N∨n∈F):RowS X v l:=by
 rcases id h with⟨h0,h1⟩|⟨h0,h1⟩
 ·exact .inl ⟨h0,h1⟩
 ·exact h.of m.next fun n hn=>m.get (h1.ne n hn).2 (hi n hn)
end
structure WrAt (N:Nat) (F:List Nat) (H:AHeap) (p:Nat) (v:Value) (l:List Op) (k:Lk):Prop where
 cell:bk H p=some ⟨64,false,[v,.int .i64 k.fore,.int .i64 k.back,.bool k.bold,.bool k.under,.bool k.inv]⟩
 ops:OpsW H v l
 apart:p∉idsV v
 lt:p<H.next
 lo:N≤p
 pF:p∉F
 ids:∀ n∈idsV v,N≤n∧n∉F
 fl:∀ n∈F,n<H.next
theorem WrAt.of {N:Nat} {F:List Nat} {H G:AHeap} {p:Nat} {v:Value} {l:List Op} {k:Lk} (a:WrAt N F H p v l k) (m:Mod [] H G):WrAt N F G p v l k :=
 ⟨(m.bk a.lt (by simp)).trans a.cell,a.ops.mod0 m,a.apart,m.lt a.lt,a.lo,a.pF,a.ids,fun n hn=>m.lt (a.fl n hn)⟩
theorem put_c (N:Nat) (F:List Nat) (H:AHeap) (p:Nat) (v:Value) (l:List Op) (k:Lk) (o:Op) (a:WrAt N F H p v l k) (hok:H.base≤H.next) (hl:l.length≤90000) (hN:N≤H.next) :
  CallA Tryd.prog 37 [.pointer (some ⟨p,0,none⟩),o.val] H (fun out X=>out=.ok (.tuple #[])∧∃ v',WrAt N F X p v' (l++[o]) k∧KpN N F H X):=by
 obtain⟨x,hx⟩:∃ x,H.next=x:=⟨_,rfl⟩
 have hxb:H.base≤x:=hx▸hok
 have hp:=a.lt
 rw[hx]at hp
 refine callE_fn mixed Tryd.func37 rfl Tryd.ntmps37 (zA9 rfl) ?_
 simp (maxDischargeDepth:=6) only[Op.val,Op.cells,hx,hxb,ruW,putL,Nat.reduceLeDiff,xF,ruU,entryE,Nat.reduceLT,Nat.reduceAdd,Nat.reduceMul,Nat.reduceEqDiff]
 generalize hX:ext H _=X
 have mX:Mod [] H X:=hX▸Mod.ext hok
 have nX:X.next=x+1:=by rw[←hX,ext_next,hx]; rfl
 have kX:bk X (x+0)=some ⟨47,false,o.cells⟩:=by rw[←hX,bk_at hx (by simp)]; rfl
 have okX:=mX.ok hok
 have aX:=a.of mX
 have kp:=aX.cell
 have hpX:p<x+1:=by omega
 have hxX:x+0<x+1:=by omega
 rw[show X=ext X [] from rfl]
 refine w_drawB [(7,4),(7,5),(7,6),(10,4),(10,5),(10,6),(10,7)] [] (by kernel_rfl) (by kernel_rfl) rfl fun ops anc hA hG=>?_
 simp only[all2_cons]at hA
 simp only[Op.cells]at kX
 simp (maxDischargeDepth:=6) only[nX,kX,kp,hpX,hxX,hA,ruD,ruW,putL,Nat.reduceLeDiff,xF,ruU,entryE,Nat.reduceLT,Nat.reduceAdd,Nat.reduceMul,Nat.reduceEqDiff]
 rw[wd_app (by simp only[ruU,entryE,Nat.reduceLT,Nat.reduceAdd,Nat.reduceMul,Nat.reduceEqDiff])]
 generalize hY:ext X _=Y
 have mY:Mod [] X Y:=hY▸Mod.ext okX
 have nY:Y.next=x+2:=by rw[←hY,ext_next,nX]; rfl
 have kY:bk Y (x+1+0)=some ⟨47,false,o.cells⟩:=by rw[←hY,bk_at nX (by simp)]; rfl
 have okY:=mY.ok okX
 have aY:=aX.of mY
 have hu:OpsAt Y (.slice (some ⟨x+1+0,0,some 0⟩) 1 1) [o]:=.inr ⟨by simp,_,0,some 0,1,_,_,_,rfl,rk_of kY,by omega,by simp[Op.cells],by simp[opsOf,Op.cells]⟩
 refine genV_appW (l2:=[o]) aY.ops hu (fun n hn _=>?_) okY (by simp only[List.length_singleton]; omega) (by decide) (by simp only[ruU,entryE,Nat.reduceLT,Nat.reduceAdd,Nat.reduceMul,Nat.reduceEqDiff]) (by simp only[ruU,entryE,Nat.reduceLT,Nat.reduceAdd,Nat.reduceMul,Nat.reduceEqDiff]) (by simp only[all2_cons,all2_nil,hA,true_or,and_true]) ?_
 ·simp only[idsV,zA8]at hn
  subst hn
  exact⟨by omega,bk_ne kY⟩
 intro v' Z D F' mZ hZ hid hD
 have kZ:bk Z p=some ⟨64,false,[v,.int .i64 k.fore,.int .i64 k.back,.bool k.bold,.bool k.under,.bool k.inv]⟩:=(mZ.bk aY.lt aY.apart).trans aY.cell
 obtain⟨z,hz⟩:∃ z,Z.next=z:=⟨_,rfl⟩
 have hpz:p<z:=by have:=mZ.next; omega
 obtain⟨av,ev⟩:=hZ.len
 have hsc:=hZ.sc
 have hid':=hid
 have hZ':=hZ
 subst ev
 rw[hz]at hsc
 rw[show Z=ext Z [] from rfl]
 simp (maxDischargeDepth:=6) only[hz,kZ,hpz,hsc,hA,Tryd.results37,ruD,ruW,putL,Nat.reduceLeDiff,xF,ruU,entryE,Nat.reduceLT,Nat.reduceAdd,Nat.reduceMul,Nat.reduceEqDiff]
 generalize hU:uw Z p 0 _=U
 have mU:Mod [p] Z U:=hU▸Mod.uw (by simp)
 have hU2:bk U p=some ⟨64,false,[.slice av (l++[o]).length (l++[o]).length,.int .i64 k.fore,.int .i64 k.back,.bool k.bold,.bool k.under,.bool k.inv]⟩:=by rw[←hU,bk_uw_eq,kZ]; rfl
 have hyz:=mZ.next
 have hpl:=a.lt
 refine⟨⟨fun _=>.inr (.inl (by omega)),.inr (.inl (by omega))⟩,⟨fun _=>.inr (.inl (by omega)),.inr (.inl (by omega))⟩,.slice av (l++[o]).length (l++[o]).length,⟨hU2,?_,?_,mU.lt (by omega),a.lo,a.pF,?_,fun n hn=>?_⟩,?_⟩
 ·refine hZ'.of mU.next fun n hn=>mU.get n (hZ'.ne n hn).2 (fun e=>?_)
  rw[zA8]at e
  subst e
  rcases hid' n hn with h|h
  ·exact aY.apart h
  ·have:=aY.lt; omega
 ·intro h
  rcases hid' p h with h|h
  ·exact aY.apart h
  ·have:=aY.lt; omega
 ·intro n hn
  rcases hid' n hn with h|h
  ·exact a.ids n h
  ·exact⟨by omega,fun hf=>by have:=aY.fl n hf; omega⟩
 ·have:=a.fl n hn
  rw[ext_next]
  have:=mU.next
  omega
 ·have m1:KpN N F H Y:=KpN.of0 (mX.trans mY)
  have m2:KpN N F Y Z:=⟨_,aY.ids,mZ⟩
  exact (m1.trans m2).trans ⟨[p],fun n hn=>by rw[zA8]at hn; subst hn; exact⟨a.lo,a.pF⟩,mU⟩
set_option maxRecDepth 100000
theorem xD :
  (∀ n off:Nat,aFieldAddr Tryd.prog 64 (.pointer (some ⟨n,off,none⟩)) 1=some (.pointer (some ⟨n,off+1,none⟩))) ∧
  (szOf Tryd.prog 62=some 1) ∧
  (aggT Tryd.prog 62=some false) ∧
  (aggT Tryd.prog 64=some true) ∧
  (zeroOf Tryd.prog 62=some (.pointer none)) ∧
  (zeroOf Tryd.prog 64=some (.agg #[.slice none 0 0,.int .i64 0,.int .i64 0,.bool false,.bool false,.bool false])) ∧
  (hasBody Tryd.prog 54=true) ∧
  (hasBody Tryd.prog 55=true) ∧
  (hasBody Tryd.prog 56=true) ∧
  (hasBody Tryd.prog 57=true) ∧
  (hasBody Tryd.prog 59=true) ∧
  (hasBody Tryd.prog 60=true) ∧
  (hasBody Tryd.prog 78=true) ∧
  (hasBody Tryd.prog 80=true) ∧
  (hasBody Tryd.prog 81=true) ∧
  (hasBody Tryd.prog 82=true) ∧
  (aBuild Tryd.prog 47 []=some (.agg #[.int .i64 0,.int .i64 0,.int .i64 0,.int .i64 0,.int .i64 0,.int .i64 0,.bool false,.bool false,.bool false,.string .empty])) ∧
  (∀ (x:Int) (s:ByteArray),aBuild Tryd.prog 47 [(0,.int .i64 x),(5,.string s)]=some (.agg #[.int .i64 x,.int .i64 0,.int .i64 0,.int .i64 0,.int .i64 0,.int .i64 0,.bool false,.bool false,.bool false,.string s])):=by
 refine⟨?_,?_,?_,?_,?_,?_,?_,?_,?_,?_,?_,?_,?_,?_,?_,?_,?_,?_⟩
 all_goals first|trivial|(intros; kernel_rfl)
section
variable {N q p : Nat} {F : List Nat} {H X : AHeap} {v : Value} {l : List Op} {k : Lk}
theorem WrAt.weak (a:WrAt N (q::F) H p v l k):WrAt N F H p v l k :=
 ⟨a.cell,a.ops,a.apart,a.lt,a.lo,fun h=>a.pF (zB3 _ h),fun n hn=>⟨(a.ids n hn).1,fun h=>(a.ids n hn).2 (zB3 _ h)⟩,fun n hn=>a.fl n (zB3 _ hn)⟩
theorem KpN.weak (m:KpN N (q::F) H X):KpN N F H X:=let ⟨W,h,m⟩:=m; ⟨W,fun n hn=>⟨(h n hn).1,fun hf=>(h n hn).2 (zB3 _ hf)⟩,m⟩
theorem WrAt.more (a:WrAt N F H p v l k) (m:Mod [] H X) (h1:H.next≤q) (h2:q<X.next):WrAt N (q::F) X p v l k:=by
 have a':=a.of m
 refine⟨a'.cell,a'.ops,a'.apart,a'.lt,a'.lo,fun h=>?_,fun n hn=>⟨(a.ids n hn).1,fun h=>?_⟩,fun n hn=>?_⟩
 ·rcases zB2.1 h with h|h
  ·have:=a.lt; omega
  ·exact a.pF h
 ·rcases zB2.1 h with h|h
  ·have:=(a.ops.ne n hn).2; omega
  ·exact (a.ids n hn).2 h
 ·rcases zB2.1 hn with h|h
  ·omega
  ·exact a'.fl n h
theorem WrAt.pen {U:AHeap} {j:Lk} (a:WrAt N F H p v l k) (m:Mod [p] H U) (h:bk U p=some ⟨64,false,[v,.int .i64 j.fore,.int .i64 j.back,.bool j.bold,.bool j.under,.bool j.inv]⟩):WrAt N F U p v l j :=
 ⟨h,a.ops.of m.next fun n hn=>m.get n (a.ops.ne n hn).2 (fun e=>a.apart (by rw[zA8]at e; exact e▸hn)),a.apart,m.lt a.lt,a.lo,a.pF,a.ids,fun n hn=>m.lt (a.fl n hn)⟩
theorem KpN.ofp {U:AHeap} (a:WrAt N F H p v l k) (m:Mod [p] H U):KpN N F H U:=⟨[p],fun n hn=>by rw[zA8]at hn; subst hn; exact⟨a.lo,a.pF⟩,m⟩
end
theorem writeR_nil (f:Nat) (k:Lk):writeR f [] k=([],k):=by cases f<;>rfl
theorem runesR_len (l:List Ce):(runesR l).length≤l.length:=by
 refine zD9 (List.length_filter_le _ _) ?_
 rw[List.length_map]; exact zA5 _
theorem runesR_take {l:List Ce} {j:Nat} {c:Ce} (h:l[j]?=some c):runesR (l.take (j+1))=runesR (l.take j)++(if c.rune=-1 then [] else [c.rune]):=by
 rw[List.take_add_one,h]
 simp only[runesR,List.map_append,List.filter_append,Option.toList_some,zB7,zF2]
 by_cases hc:c.rune=-1<;>simp[hc]
theorem piece56_c (N:Nat) (F:List Nat) (H:AHeap) (p:Nat) (v u:Value) (l:List Op) (k:Lk) (cs:List Ce) (row i:Nat) (a:WrAt N F H p v l k) (hr:RowS H u cs) (hi:∀ n∈idsV u,n<N∨n∈F) (hok:H.base≤H.next) (hN:N≤H.next) (hl:l.length+2*cs.length≤80000) (hcs:cs.length≤10000) (hc:∀ c∈cs,c.rune≠-1→isR c.rune=true) :
  CallA Tryd.prog 56 [.pointer (some ⟨p,0,none⟩),.int .i64 (row:Int),.int .i64 (i:Int),u] H (fun out X=>out=.ok (.tuple #[])∧∃ v',WrAt N F X p v' (l++(runsR row i cs k).1) (runsR row i cs k).2∧KpN N F H X):=by
 refine callE_fn mixed Tryd.func56 rfl Tryd.ntmps56 (zA9 rfl) ?_
 simp (maxDischargeDepth:=6) only[xD,ruW,putL,Nat.reduceLeDiff,xF,ruU,entryE,Nat.reduceLT,Nat.reduceAdd,Nat.reduceMul,Nat.reduceEqDiff]
 refine (put_c N F (ext H []) p v l k (opM row i) a hok (by omega) hN).mono ?_
 rintro _ X ⟨rfl,v1,a1,kp1⟩
 replace kp1:KpN N F H X:=kp1
 obtain⟨L,hL⟩:∃ L,l++(runsR row i cs k).1=L:=⟨_,rfl⟩
 obtain⟨K,hK⟩:∃ K,(runsR row i cs k).2=K:=⟨_,rfl⟩
 rw[hL,hK]
 simp only[runsR]at hL hK
 rw[show X=ext X [] from rfl]
 simp (maxDischargeDepth:=6) only[xD,ruW,putL,Nat.reduceLeDiff,xF,ruU,entryE,Nat.reduceLT,Nat.reduceAdd,Nat.reduceMul,Nat.reduceEqDiff]
 refine w_env fun E hE=>?_
 have g0:E 0=.pointer (some ⟨p,0,none⟩):=by rw[hE]; simp only[ruU,entryE,Nat.reduceLT,Nat.reduceAdd,Nat.reduceMul,Nat.reduceEqDiff]
 have g3:E 3=u:=by rw[hE]; simp only[ruU,entryE,Nat.reduceLT,Nat.reduceAdd,Nat.reduceMul,Nat.reduceEqDiff]
 clear hE
 ·refine w_loop (fun (q:Nat × List Ce × Value × Value × List Op × Lk) E' Y=>E' 0=.pointer (some ⟨p,0,none⟩)∧E' 3=q.2.2.1∧WrAt N F Y p q.2.2.2.1 q.2.2.2.2.1 q.2.2.2.2.2∧KpN N F H Y∧RowS Y q.2.2.1 q.2.1∧(∀ n∈idsV q.2.2.1,n<N∨n∈F)∧q.2.1.length≤q.1∧q.2.2.2.2.1++(writeR q.1 q.2.1 q.2.2.2.2.2).1=L∧(writeR q.1 q.2.1 q.2.2.2.2.2).2=K∧q.2.2.2.2.1.length+2*q.2.1.length≤80001∧q.2.1.length≤10000∧(∀ c∈q.2.1,c.rune≠-1→isR c.rune=true)) (fun q=>q.1) (cs.length,cs,u,v1,l++[opM row i],k)
   ⟨g0,g3,a1,kp1,hr.kp kp1 hi,hi,zA5 _,by rw[←hL]; simp,hK,by simp only[zB6,List.length_singleton]; omega,hcs,hc⟩ ?_
  clear g0 g3 hL hK a a1 kp1 hr hi hl hcs hc E
  clear v1 v u l k cs
  rintro⟨f,cs,u,v,l,k⟩ E X ⟨g0,g3,a,kp,hr,hi,hf,hL,hK,hl,hcs,hc⟩
  simp only at g3 a hr hi hf hL hK hl hcs hc
  obtain⟨x,hx⟩:∃ x,X.next=x:=⟨_,rfl⟩
  have okX:=kp.ok hok
  have hxb:X.base≤x:=hx▸okX
  have hNx:N≤x:=by have:=kp.next; omega
  obtain⟨as1,c1,e1⟩:=hr.sl
  have g3':=g3
  rw[e1]at g3'
  rw[show X=ext X [] from rfl]
  by_cases hne:cs=[]
  ·have hc0:decide ((0:Int)<((cs.length:Nat):Int))=false:=by rw[hne]; decide
   rw[hne,writeR_nil]at hL hK
   simp (maxDischargeDepth:=6) only[g0,g3',hc0,Tryd.results56,xD,ruW,putL,Nat.reduceLeDiff,xF,ruU,entryE,Nat.reduceLT,Nat.reduceAdd,Nat.reduceMul,Nat.reduceEqDiff]
   exact⟨trivial,v,by rw[←hL,←hK]; simp only[zD0]; exact a,kp⟩
  obtain⟨c,cs',hcc⟩:=List.exists_cons_of_ne_nil hne
  have hpos:0<cs.length:=List.length_pos_iff.2 hne
  obtain⟨f',rfl⟩:∃ f',f=f'+1:=⟨f-1,by omega⟩
  have hcs0:cs[0]?=some c:=by rw[hcc]; rfl
  have hd0:decide ((0:Int)<((cs.length:Nat):Int))=true:=decide_eq_true (by omega)
  obtain⟨n,hn⟩:∃ n,spanR c.look cs=n:=⟨_,rfl⟩
  have hnl:n≤cs.length:=hn▸spanR_le c.look cs
  have hn1:1≤n:=by rw[←hn,hcc]; exact spanR_pos c cs'
  have hw:writeR (f'+1) cs k=((if c.look=k then [] else [opL c.look])++opT (strR (runesR (cs.take n)))::(writeR f' (cs.drop n) c.look).1,(writeR f' (cs.drop n) c.look).2):=by
   rw[←hn,hcc]; rfl
  rw[hw]at hL hK
  clear hw
  simp only at hL hK
  rcases id hr.at_ with⟨h,_⟩|⟨_,n1,o1,s1,x1,t1,p1,L1,ev1,b1,n1l,le1,tk1⟩
  ·exact absurd h hne
  have i1:=row_ia (n:=n1) (off:=o1) (s:=s1) (cap:=x1) (len:=cs.length) (i:=((0:Nat):Int)) rfl hpos
  have q1:=look_load (e:=t1) (o:=p1) hcs0 le1 tk1
  rw[zE1]at i1 q1
  rw[zC7,show ((0:Nat):Int)=0 from rfl]at i1
  rw[zC1]at q1
  rw[hx]at n1l
  have g3'':=g3
  rw[ev1]at g3''
  simp (maxDischargeDepth:=6) only[g0,g3'',hx,hxb,hd0,i1,b1,n1l,q1,qk_old,Lk.val,xD,ruW,putL,Nat.reduceLeDiff,xF,ruU,entryE,Nat.reduceLT,Nat.reduceAdd,Nat.reduceMul,Nat.reduceEqDiff]
  generalize hY:ext X _=Y
  have mY:Mod [] X Y:=hY▸Mod.ext okX
  have nY:Y.next=x+1:=by rw[←hY,ext_next,hx]; rfl
  have kY:bk Y (x+0)=some ⟨45,false,c.look.cells⟩:=by rw[←hY,bk_at hx (by simp)]; rfl
  have okY:=mY.ok okX
  have aY:=a.more (q:=x+0) mY (by omega) (by omega)
  have hrY:=hr.mod0 mY
  rw[show Y=ext Y [] from rfl]
  rw[←ev1]
  refine (index79_c (ext Y []) u cs c.look (x+0) hrY.at_ (by omega) kY).to ?_
  obtain⟨d,hd⟩:∃ d,decide (ixR c.look cs<0)=d:=⟨_,rfl⟩
  simp (maxDischargeDepth:=6) only[g0,g3'',nY,hd,xD,ruW,putL,Nat.reduceLeDiff,xF,ruU,entryE,Nat.reduceLT,Nat.reduceAdd,Nat.reduceMul,Nat.reduceEqDiff]
  refine condC_meet (fun E' Z=>Z=ext Y []∧E' 0=.pointer (some ⟨p,0,none⟩)∧E' 3=u∧E' 8=.pointer (some ⟨x+0,0,none⟩)∧E' 9=.int .i64 (n:Int)) ?_ ?_
  ·rw[ixR,hn]at hd
   cases d with
   |true =>
    have hd':=of_decide_eq_true hd
    split at hd'
    ·omega
    have hnn:n=cs.length:=by omega
    simp (maxDischargeDepth:=6) only[g0,g3'',xD,ruW,putL,Nat.reduceLeDiff,xF,ruU,entryE,Nat.reduceLT,Nat.reduceAdd,Nat.reduceMul,Nat.reduceEqDiff]
    exact joinR_normal ⟨rfl,by simp only[g0,ruU,entryE,Nat.reduceLT,Nat.reduceAdd,Nat.reduceMul,Nat.reduceEqDiff],by simp only[g3,ruU,entryE,Nat.reduceLT,Nat.reduceAdd,Nat.reduceMul,Nat.reduceEqDiff],by simp only[ruU,entryE,Nat.reduceLT,Nat.reduceAdd,Nat.reduceMul,Nat.reduceEqDiff],by simp only[hnn,ruU,entryE,Nat.reduceLT,Nat.reduceAdd,Nat.reduceMul,Nat.reduceEqDiff]⟩
   |false =>
    have hd':=of_decide_eq_false hd
    split at hd'
    case isFalse=>omega
    rename_i hlt
    simp (maxDischargeDepth:=6) only[g0,g3'',xD,ruW,putL,Nat.reduceLeDiff,xF,ruU,entryE,Nat.reduceLT,Nat.reduceAdd,Nat.reduceMul,Nat.reduceEqDiff]
    exact joinR_normal ⟨rfl,by simp only[g0,ruU,entryE,Nat.reduceLT,Nat.reduceAdd,Nat.reduceMul,Nat.reduceEqDiff],by simp only[g3,ruU,entryE,Nat.reduceLT,Nat.reduceAdd,Nat.reduceMul,Nat.reduceEqDiff],by simp only[ruU,entryE,Nat.reduceLT,Nat.reduceAdd,Nat.reduceMul,Nat.reduceEqDiff],by simp only[ixR,hn,if_pos hlt,ruU,entryE,Nat.reduceLT,Nat.reduceAdd,Nat.reduceMul,Nat.reduceEqDiff]⟩
  clear g0 g3 g3' g3'' hd d E
  rintro E Z ⟨hZ,g0,g3,g8,g9⟩
  rw[hZ]
  clear hZ Z
  obtain⟨d,hd⟩:∃ d,decide (c.look=k)=d:=⟨_,rfl⟩
  have kp0:=aY.cell
  have hpY:=aY.lt
  rw[nY]at hpY
  have hxY:x+0<x+1:=by omega
  simp (maxDischargeDepth:=6) only[g0,g3,g8,g9,nY,xD,ruW,putL,Nat.reduceLeDiff,xF,ruU,entryE,Nat.reduceLT,Nat.reduceAdd,Nat.reduceMul,Nat.reduceEqDiff]
  refine w_drawB [] [] (by kernel_rfl) rfl rfl fun ops anc hA hG=>?_
  simp only[Lk.cells]at kY
  simp (maxDischargeDepth:=6) only[g0,g3,g8,g9,nY,kY,kp0,hpY,hxY,xD,ruD,ruW,putL,Nat.reduceLeDiff,xF,ruU,entryE,Nat.reduceLT,Nat.reduceAdd,Nat.reduceMul,Nat.reduceEqDiff]
  refine wd_eqS (ts:=[3,3,4,4,4]) (xs:=c.look.cells) (ys:=k.cells) (r:=!decide (c.look=k)) fl45 ag45 gd45 (by rw[lk_eqL]; rfl) (by simp only[ruU,entryE,Nat.reduceLT,Nat.reduceAdd,Nat.reduceMul,Nat.reduceEqDiff]) (by simp only[ruU,entryE,Nat.reduceLT,Nat.reduceAdd,Nat.reduceMul,Nat.reduceEqDiff]) (by decide) (by simp only[ruU,entryE,Nat.reduceLT,Nat.reduceAdd,Nat.reduceMul,Nat.reduceEqDiff]; rfl) (by simp only[ruU,entryE,Nat.reduceLT,Nat.reduceAdd,Nat.reduceMul,Nat.reduceEqDiff]; rfl) (lk_fits _) (lk_fits _) ?_
  simp (maxDischargeDepth:=6) only[hd,xD,ruD,ruW,putL,Nat.reduceLeDiff,xF,ruU,entryE,Nat.reduceLT,Nat.reduceAdd,Nat.reduceMul,Nat.reduceEqDiff]
  refine condC_meet (fun E' Z=>E' 0=.pointer (some ⟨p,0,none⟩)∧E' 3=u∧E' 9=.int .i64 (n:Int)∧∃ v2,WrAt N F Z p v2 (l++if c.look=k then [] else [opL c.look]) c.look∧KpN N F Y Z) ?_ ?_
  ·cases d with
   |false =>
    have hne2:=of_decide_eq_false hd
    simp (maxDischargeDepth:=6) only[g0,g3,g8,nY,kY,hxY,zD6,xD,ruW,putL,Nat.reduceLeDiff,xF,ruU,entryE,Nat.reduceLT,Nat.reduceAdd,Nat.reduceMul,Nat.reduceEqDiff]
    refine (put_c N ((x+0)::F) (ext Y []) p v l k (opL c.look) aY okY (by omega) (by rw[ext_next]; omega)).mono ?_
    rintro _ Z ⟨rfl,v2,a2,kp2⟩
    replace kp2:KpN N ((x+0)::F) Y Z:=kp2
    have kZ:=(bk_get (kp2.get (n:=x+0) (by omega) (.inr (by simp)))).trans kY
    obtain⟨z,hz⟩:∃ z,Z.next=z:=⟨_,rfl⟩
    have hyz:=kp2.next
    have hxz:x+0<z:=by omega
    have hpz:p<z:=by omega
    have kZp:=a2.cell
    rw[show Z=ext Z [] from rfl]
    simp (maxDischargeDepth:=6) only[g0,g3,g8,hz,kZ,kZp,hxz,hpz,xD,ruW,putL,Nat.reduceLeDiff,xF,ruU,entryE,Nat.reduceLT,Nat.reduceAdd,Nat.reduceMul,Nat.reduceEqDiff]
    generalize hU:uw Z p 1 _=U
    have mU:Mod [p] Z U:=hU▸Mod.uw (by simp)
    have hU2:bk U p=some ⟨64,false,[v2,.int .i64 c.look.fore,.int .i64 c.look.back,.bool c.look.bold,.bool c.look.under,.bool c.look.inv]⟩:=by rw[←hU,bk_uw_eq,kZp]; rfl
    refine joinR_normal ⟨by simp only[g0,ruU,entryE,Nat.reduceLT,Nat.reduceAdd,Nat.reduceMul,Nat.reduceEqDiff],by simp only[g3,ruU,entryE,Nat.reduceLT,Nat.reduceAdd,Nat.reduceMul,Nat.reduceEqDiff],by simp only[g9,ruU,entryE,Nat.reduceLT,Nat.reduceAdd,Nat.reduceMul,Nat.reduceEqDiff],v2,?_,?_⟩
    ·rw[if_neg hne2]
     exact (a2.pen mU hU2).weak
    ·exact (kp2.trans (KpN.ofp a2 mU)).weak
   |true =>
    have he:=of_decide_eq_true hd
    simp (maxDischargeDepth:=6) only[g0,g3,zC8,xD,ruW,putL,Nat.reduceLeDiff,xF,ruU,entryE,Nat.reduceLT,Nat.reduceAdd,Nat.reduceMul,Nat.reduceEqDiff]
    refine joinR_normal ⟨by simp only[g0,ruU,entryE,Nat.reduceLT,Nat.reduceAdd,Nat.reduceMul,Nat.reduceEqDiff],by simp only[g3,ruU,entryE,Nat.reduceLT,Nat.reduceAdd,Nat.reduceMul,Nat.reduceEqDiff],by simp only[g9,ruU,entryE,Nat.reduceLT,Nat.reduceAdd,Nat.reduceMul,Nat.reduceEqDiff],v,?_,KpN.refl⟩
    rw[if_pos he,zD0,he]
    exact aY.weak
  clear g0 g3 g8 g9 hd d E hA hG ops anc
  rintro E Z ⟨g0,g3,g9,v2,a2,kp2⟩
  have okZ:=kp2.ok okY
  have hrZ:=hrY.kp kp2 hi
  obtain⟨u2,sl2,r2,-,-⟩:=hrZ.slice hne (x:=none) (y:=some (.int .i64 (n:Int))) (lo:=0) (hi:=n) rfl (by simp[bound]) (zB0 _) hnl
  rw[zD3]at r2
  have hTl:(cs.take n).length=n:=by rw[zF6]; omega
  obtain⟨a2',c2,e2⟩:=r2.sl
  rw[hTl]at e2
  have hTc:∀ c∈cs.take n,c.rune≠-1→isR c.rune=true:=fun c h=>hc c (zE4 h)
  obtain⟨T,hT⟩:∃ T,cs.take n=T:=⟨_,rfl⟩
  rw[hT]at r2 hTl hTc hL
  obtain⟨z,hz⟩:∃ z,Z.next=z:=⟨_,rfl⟩
  have hyz:=kp2.next
  have hsl:=sl2 (ext Z []) (fun _ _=>rfl)
  rw[e2]at hsl
  rw[show Z=ext Z [] from rfl]
  simp (maxDischargeDepth:=6) only[g0,g3,g9,hsl,xD,ruW,putL,Nat.reduceLeDiff,xF,ruU,entryE,Nat.reduceLT,Nat.reduceAdd,Nat.reduceMul,Nat.reduceEqDiff]
  rw[←e2]
  refine w_env fun E' hE=>?_
  have r0:E' 0=.pointer (some ⟨p,0,none⟩):=by rw[hE]; simp only[g0,ruU,entryE,Nat.reduceLT,Nat.reduceAdd,Nat.reduceMul,Nat.reduceEqDiff]
  have r3:E' 3=u:=by rw[hE]; simp only[g3,ruU,entryE,Nat.reduceLT,Nat.reduceAdd,Nat.reduceMul,Nat.reduceEqDiff]
  have r9:E' 9=.int .i64 (n:Int):=by rw[hE]; simp only[g9,ruU,entryE,Nat.reduceLT,Nat.reduceAdd,Nat.reduceMul,Nat.reduceEqDiff]
  have r10:E' 10=.slice none 0 0:=by rw[hE]; simp only[ruU,entryE,Nat.reduceLT,Nat.reduceAdd,Nat.reduceMul,Nat.reduceEqDiff]
  have r50:E' 50=u2:=by rw[hE]; simp only[ruU,entryE,Nat.reduceLT,Nat.reduceAdd,Nat.reduceMul,Nat.reduceEqDiff]
  have r51:E' 51=.int .i64 (n:Int):=by rw[hE]; simp only[ruU,entryE,Nat.reduceLT,Nat.reduceAdd,Nat.reduceMul,Nat.reduceEqDiff]
  have r52:E' 52=.int .i64 ((0:Nat):Int):=by rw[hE]; (simp only[ruU,entryE,Nat.reduceLT,Nat.reduceAdd,Nat.reduceMul,Nat.reduceEqDiff]<;>rfl)
  clear hE g0 g3 g9 E
  refine blockC_meet (fun E' W=>E' 0=.pointer (some ⟨p,0,none⟩)∧E' 3=u∧E' 9=.int .i64 (n:Int)∧∃ t,E' 10=t∧Mod [] Z W∧VsAt W 3 1 t (iv (runesR T)) (runesR T).length) ?_ ?_
  ·refine w_loop (fun (q:Nat × Value) E' W=>E' 0=.pointer (some ⟨p,0,none⟩)∧E' 3=u∧E' 9=.int .i64 (n:Int)∧E' 10=q.2∧E' 50=u2∧E' 51=.int .i64 (n:Int)∧E' 52=.int .i64 (q.1:Int)∧q.1≤n∧Mod [] Z W∧VsAt W 3 1 q.2 (iv (runesR (T.take q.1))) (runesR (T.take q.1)).length∧∀ m∈idsV q.2,z≤m) (fun q=>n-q.1) (0,.slice none 0 0)
    ⟨r0,r3,r9,r10,r50,r51,r52,zB0 _,Mod.refl,VsAt.nil,fun m hm=>by simp[idsV]at hm⟩ ?_
   clear r0 r3 r9 r10 r50 r51 r52
   rintro⟨j,t⟩ E W ⟨g0,g3,g9,g10,g50,g51,g52,hj,mW,ht,hid⟩
   simp only at g10 g52 hj ht hid
   obtain⟨w,hw⟩:∃ w,W.next=w:=⟨_,rfl⟩
   have okW:=mW.ok okZ
   have hwb:W.base≤w:=hw▸okW
   have hzw:=mW.next
   rw[show W=ext W [] from rfl]
   by_cases hjn:j=n
   ·have hc0:decide ((j:Int)<(n:Int))=false:=by simp[hjn]
    rw[hjn,zE6 (by omega)]at ht
    simp (maxDischargeDepth:=6) only[g0,g3,g9,g10,g50,g51,g52,hc0,xD,ruW,putL,Nat.reduceLeDiff,xF,ruU,entryE,Nat.reduceLT,Nat.reduceAdd,Nat.reduceMul,Nat.reduceEqDiff]
    exact joinR_normal ⟨by simp only[g0,ruU,entryE,Nat.reduceLT,Nat.reduceAdd,Nat.reduceMul,Nat.reduceEqDiff],by simp only[g3,ruU,entryE,Nat.reduceLT,Nat.reduceAdd,Nat.reduceMul,Nat.reduceEqDiff],by simp only[g9,ruU,entryE,Nat.reduceLT,Nat.reduceAdd,Nat.reduceMul,Nat.reduceEqDiff],t,by simp only[g10,ruU,entryE,Nat.reduceLT,Nat.reduceAdd,Nat.reduceMul,Nat.reduceEqDiff],mW,ht⟩
   have hc0:decide ((j:Int)<(n:Int))=true:=decide_eq_true (by omega)
   obtain⟨cj,hcj⟩:∃ r,T[j]?=some r:=⟨_,zA6 (by omega)⟩
   rcases id (r2.mod0 mW).at_ with⟨h,_⟩|⟨_,n2,o2,s2,x2,t2,p2,L2,ev2,b2,n2l,le2,tk2⟩
   ·rw[h]at hTl; simp at hTl; omega
   have i2:=row_ia (n:=n2) (off:=o2) (s:=s2) (cap:=x2) (len:=T.length) (i:=(j:Int)) rfl (by omega)
   have q2:=row_load (e:=t2) (o:=p2) hcj le2 tk2
   rw[hw]at n2l
   have g50':=g50
   rw[ev2]at g50'
   have htl:=runesR_take hcj
   have hrl:=zD9 (runesR_len (T.take j)) (List.length_take_le j T)
   obtain⟨d,hd⟩:∃ d,decide (¬cj.rune=-1)=d:=⟨_,rfl⟩
   simp (maxDischargeDepth:=6) only[g0,g3,g9,g10,g50',g51,g52,hw,hwb,hc0,i2,b2,n2l,q2,qk_old,Ce.val,hd,xD,ruW,putL,Nat.reduceLeDiff,xF,ruU,entryE,Nat.reduceLT,Nat.reduceAdd,Nat.reduceMul,Nat.reduceEqDiff]
   generalize hV:ext W _=V
   have mV:Mod [] W V:=hV▸Mod.ext okW
   have nV:V.next=w+1:=by rw[←hV,ext_next,hw]; rfl
   have kV:bk V (w+0)=some ⟨55,false,cj.cells⟩:=by rw[←hV,bk_at hw (by simp)]; rfl
   have okV:=mV.ok okW
   have hVb:V.base≤w+1:=nV▸okV
   rw[show V=ext V [] from rfl]
   have htV:VsAt V 3 1 t (iv (runesR (T.take j))) (runesR (T.take j)).length:=ht.of mV.next fun m hm=>mV.get m (ht.ne m hm).2 (by simp)
   cases d with
   |false =>
    have he:cj.rune=-1:=by simpa using of_decide_eq_false hd
    rw[if_pos he,zD0]at htl
    simp (maxDischargeDepth:=6) only[g0,g3,g9,g10,g50,g51,g52,wrap_succ (show j<1000000 by omega),xD,ruW,putL,Nat.reduceLeDiff,xF,ruU,entryE,Nat.reduceLT,Nat.reduceAdd,Nat.reduceMul,Nat.reduceEqDiff]
    refine loopC_next ⟨(j+1,t),by simp only; omega,by simp only[g0,ruU,entryE,Nat.reduceLT,Nat.reduceAdd,Nat.reduceMul,Nat.reduceEqDiff],by simp only[g3,ruU,entryE,Nat.reduceLT,Nat.reduceAdd,Nat.reduceMul,Nat.reduceEqDiff],by simp only[g9,ruU,entryE,Nat.reduceLT,Nat.reduceAdd,Nat.reduceMul,Nat.reduceEqDiff],by simp only[g10,ruU,entryE,Nat.reduceLT,Nat.reduceAdd,Nat.reduceMul,Nat.reduceEqDiff],by simp only[g50,ruU,entryE,Nat.reduceLT,Nat.reduceAdd,Nat.reduceMul,Nat.reduceEqDiff],by simp only[g51,ruU,entryE,Nat.reduceLT,Nat.reduceAdd,Nat.reduceMul,Nat.reduceEqDiff],by simp only[ruU,entryE,Nat.reduceLT,Nat.reduceAdd,Nat.reduceMul,Nat.reduceEqDiff],by simp only; omega,mW.trans mV,?_,hid⟩
    simp only[htl]
    exact htV
   |true =>
    have he:¬cj.rune=-1:=of_decide_eq_true hd
    rw[if_neg he]at htl
    obtain⟨G,k1,k2,k3,k4⟩:=int_app (c:=cj.rune) htV nV okV (by omega)
    have hwV:w+0<w+1:=by omega
    simp only[Ce.cells]at kV
    simp (maxDischargeDepth:=6) only[g0,g3,g9,g10,g50,g51,g52,nV,hVb,kV,hwV,k1,wrap_succ (show j<1000000 by omega),xD,ruW,putL,Nat.reduceLeDiff,xF,ruU,entryE,Nat.reduceLT,Nat.reduceAdd,Nat.reduceMul,Nat.reduceEqDiff]
    refine loopC_next ⟨(j+1,.slice (some ⟨w+1+1,0,none⟩) ((runesR (T.take j)).length+1) ((runesR (T.take j)).length+1)),by simp only; omega,by simp only[g0,ruU,entryE,Nat.reduceLT,Nat.reduceAdd,Nat.reduceMul,Nat.reduceEqDiff],by simp only[g3,ruU,entryE,Nat.reduceLT,Nat.reduceAdd,Nat.reduceMul,Nat.reduceEqDiff],by simp only[g9,ruU,entryE,Nat.reduceLT,Nat.reduceAdd,Nat.reduceMul,Nat.reduceEqDiff],by simp only[ruU,entryE,Nat.reduceLT,Nat.reduceAdd,Nat.reduceMul,Nat.reduceEqDiff],by simp only[g50,ruU,entryE,Nat.reduceLT,Nat.reduceAdd,Nat.reduceMul,Nat.reduceEqDiff],by simp only[g51,ruU,entryE,Nat.reduceLT,Nat.reduceAdd,Nat.reduceMul,Nat.reduceEqDiff],by simp only[ruU,entryE,Nat.reduceLT,Nat.reduceAdd,Nat.reduceMul,Nat.reduceEqDiff],by simp only; omega,?_,?_,?_⟩
    ·exact (mW.trans mV).step k3 okZ fun m hm=>.inr (by rw[hz]; exact hid m hm)
    ·simp only[htl]
     exact k2
    ·intro m hm
     simp only[idsV,zA8]at hm
     omega
  clear r0 r3 r9 r10 r50 r51 r52 E'
  rintro E W ⟨g0,g3,g9,t,g10,mW,ht⟩
  have hall:∀ c∈runesR T,isR c=true:=fun c h=>by
   simp only[runesR,List.mem_filter,List.mem_map,decide_eq_true_eq]at h
   obtain⟨⟨e,h1,rfl⟩,h2⟩:=h
   exact hTc e h1 h2
  have hrl:=runesR_len T
  have okW:=mW.ok okZ
  have hzw:=mW.next
  have a3:=a2.of mW
  rw[show W=ext W [] from rfl]
  simp (maxDischargeDepth:=6) only[g0,g3,g9,g10,xD,ruW,putL,Nat.reduceLeDiff,xF,ruU,entryE,Nat.reduceLT,Nat.reduceAdd,Nat.reduceMul,Nat.reduceEqDiff]
  refine (ptext_c (ext W []) t (runesR T) ht (by omega) hall).to ?_
  simp (maxDischargeDepth:=6) only[g0,g3,g9,xD,ruW,putL,Nat.reduceLeDiff,xF,ruU,entryE,Nat.reduceLT,Nat.reduceAdd,Nat.reduceMul,Nat.reduceEqDiff]
  have hl3:(l++if c.look=k then [] else [opL c.look]).length≤l.length+1:=by
   rw[zB6]
   split<;>simp
  refine (put_c N F (ext W []) p v2 _ c.look (opT (strR (runesR T))) a3 okW (by omega) (by rw[ext_next]; simp only[zC3]; omega)).mono ?_
  rintro _ X5 ⟨rfl,v5,a5,kp5⟩
  replace kp5:KpN N F W X5:=kp5
  have hr5:=(hrZ.mod0 mW).kp kp5 hi
  obtain⟨u5,sl5,r5,id5,-⟩:=hr5.slice hne (x:=some (.int .i64 (n:Int))) (y:=none) (lo:=n) (hi:=cs.length) (by simp[bound]) rfl hnl (zA5 _)
  rw[zF7]at r5
  have hsl5:=sl5 (ext X5 []) (fun _ _=>rfl)
  rw[show X5=ext X5 [] from rfl]
  simp (maxDischargeDepth:=6) only[g0,g3,g9,hsl5,xD,ruW,putL,Nat.reduceLeDiff,xF,ruU,entryE,Nat.reduceLT,Nat.reduceAdd,Nat.reduceMul,Nat.reduceEqDiff]
  refine loopC_next ⟨(f',cs.drop n,u5,v5,_,c.look),zC6 _,by simp only[g0,ruU,entryE,Nat.reduceLT,Nat.reduceAdd,Nat.reduceMul,Nat.reduceEqDiff],by simp only[ruU,entryE,Nat.reduceLT,Nat.reduceAdd,Nat.reduceMul,Nat.reduceEqDiff],a5,?_,r5,fun m hm=>hi m (id5 m hm),?_,?_,hK,?_,?_,fun e he=>hc e (zE5 he)⟩
  ·exact (((kp.trans (KpN.of0 mY)).trans kp2).trans (KpN.of0 mW)).trans kp5
  ·simp only[zD8]; omega
  ·rw[←hL]; simp
  ·simp only[zB6,List.length_singleton,zD8]at hl3 ⊢
   omega
  ·simp only[zD8]; omega
end Go.Proofs.YtaojjfebkldmnaaDoor
