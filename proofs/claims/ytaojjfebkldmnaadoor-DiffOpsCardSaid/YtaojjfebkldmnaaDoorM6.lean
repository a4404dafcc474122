/- Parts of the proof, one behind the other. -/
import Derived.Test.YtaojjfebkldmnaaDoorM3
import Derived.Test.YtaojjfebkldmnaaDoorM5
import Derived.Test.YtaojjfebkldmnaaDoorM4
import Derived.Test.YtaojjfebkldmnaaDoorRows
import Derived.Shelf.Unicode.ValidAny
import Derived.Lib.ValidLaws
import Derived.Lib.TrimUEq
set_option linter.all false
set_option maxRecDepth 10000
set_option maxHeartbeats 16000000
open And renaming intro → zA0
open Option renaming bind_eq_bind → zA1, bind_eq_some_iff → zA2, bind_some → zA3, map_some → zA9, map_eq_some_iff → zB2
open List renaming mem_singleton → zA4, getElem?_eq_getElem → zA6, mem_append → zB1, mem_cons → zB3, mem_cons_of_mem → zB4, length_cons → zB6, length_append → zB7, length_nil → zB8, mem_of_getElem? → zB9, nil_append → zC1, append_nil → zC5, mem_append_left → zC7, map_cons → zC8, all_eq_true → zC9, mem_append_right → zD0, drop_zero → zD1, mem_of_mem_take → zD4, mem_of_mem_drop → zD5, mem_cons_self → zD6, eq_nil_of_length_eq_zero → zD8, mem_flatMap → zE1, getD_eq_getElem?_getD → zE2, drop_eq_nil_of_le → zE3, take_length → zE4, getElem?_eq_none → zE5, take_of_length_le → zE6, length_take → zE7, getElem?_eq_some_iff → zE8, drop_eq_getElem_cons → zF0, length_drop → zF1, take_add_one → zF2, mem_range → zF3, getElem?_cons_zero → zF4, map_nil → zF5, append_assoc → zF6, flatMap_cons → zF7, length_singleton → zF8, length_replicate → zF9, getElem?_cons_succ → zG0
open Nat renaming le_refl → zA5, le_of_ble_eq_true → zA7, zero_le → zB0, zero_add → zC2, lt_or_ge → zC4, le_of_eq → zC6, lt_succ_self → zD2, add_zero → zD3, le_trans → zD7, lt_of_lt_of_le → zD9, zero_mul → zE9
open Bool renaming and_eq_true → zA8, not_true → zB5, not_false → zC0, false_eq_true → zC3, and_self → zE0

namespace Go.Proofs.YtaojjfebkldmnaaDoor
open Go.Ax
abbrev Ce.zero:Ce:=⟨0,0,0,false,false,false⟩
theorem zeros_cs (n:Nat):zerosL Ce.zero.cells n=csOf (List.replicate n Ce.zero):=by
 induction n with
 |zero=>rfl
 |succ n ih=>rw[zerosL,ih,List.replicate_succ,csOf_cons]
theorem mkCells {X:AHeap} {w:Nat} (h:w≤1000):aMakeSlice Tryd.prog X 56 (.int .i64 (w:Int)) (.int .i64 (w:Int))=(aNew X 55 (csOf (List.replicate w Ce.zero)) false).map fun g=>(.slice (some ⟨X.next,0,some 0⟩) w w,g):=by
 rw[mk_slice (e:=55) (sz:=6) (by1:=32) (z:=Ce.zero.val) (by kernel_rfl) (by kernel_rfl) (by kernel_rfl) (by kernel_rfl) rfl (by simp only[small,zA8,Nat.ble_eq]; omega)]
 rw[show Ce.zero.val.cells.toList=Ce.zero.cells from rfl,zeros_cs]
theorem wrap_u64 {n:Nat} (h:n<100000):IntKind.u64.wrap (n:Int)=n:=by
 simp only[IntKind.wrap,IntKind.signed,IntKind.bits]
 simp
 omega
theorem csOf_take (l:List Ce) (k:Nat):(csOf l).take (k*6)=csOf (l.take k):=by
 induction l generalizing k with
 |nil=>simp[csOf]
 |cons c l ih =>
  cases k with
  |zero=>simp[csOf]
  |succ k=>rw[csOf_cons,List.take_succ_cons,csOf_cons,show (k+1)*6=c.cells.length+k*6 by simp[Ce.cells]; omega,List.take_append,zE6 (by omega),Nat.add_sub_cancel_left,ih]
theorem csOf_drop (l:List Ce) (k:Nat):(csOf l).drop (k*6)=csOf (l.drop k):=by
 induction l generalizing k with
 |nil=>simp[csOf]
 |cons c l ih =>
  cases k with
  |zero=>simp[csOf]
  |succ k=>rw[csOf_cons,List.drop_succ_cons,show (k+1)*6=c.cells.length+k*6 by simp[Ce.cells]; omega,List.drop_append,zE3 (by omega),zC1,Nat.add_sub_cancel_left,ih]
theorem csOf_put (pre new old:List Ce) (h:new.length≤old.length):putL (csOf (pre++old)) (pre.length*6) (csOf new)=csOf (pre++(new++old.drop new.length)):=by
 have e:pre.length*6=(csOf pre).length:=(csOf_length pre).symm
 rw[csOf_append,e,putL_at _ _ _ (by rw[csOf_length,csOf_length]; omega),csOf_length,csOf_drop,csOf_append,csOf_append]
theorem cp56 {G:AHeap} {q off dl dc n off2 sl sc:Nat} {s2:Option Nat} {b bq:Bl} (hq:bk G q=some bq) (hlt:q<G.next) (hb:bk G n=some b) {l:List Ce} (hle:off2+Nat.min sl dl*6≤b.l.length) (hl:(b.l.drop off2).take (Nat.min sl dl*6)=csOf l) (hw:off+Nat.min sl dl*6≤bq.l.length) (hll:l.length=Nat.min sl dl) :
  aBuiltin Tryd.prog G .copy ⟨[56,56]⟩ [.slice (some ⟨q,off,some 0⟩) dl dc,.slice (some ⟨n,off2,s2⟩) sl sc]=some (goInt (Nat.min sl dl),uw G q off (csOf l)):=by
 rw[cp_slice (e:=55) (sz:=6) (by kernel_rfl) (by kernel_rfl) rfl hb hle,hl]
 have:=write_old (H:=G) (L:=[]) (vs:=csOf l) hlt hq (by rw[csOf_length,hll]; exact hw) (csOf_one l) (csOf_sc l _)
 rw[ext_nil,ext_nil]at this
 rw[this]
 rfl
theorem repeat_c (w:Nat) (h1:1≤w) (hw:w≤1000) (c:Ce) (n:Nat) (s:Option Nat) (H:AHeap) (hn:bk H n=some ⟨55,false,c.cells⟩) :
  CallS Tryd.prog 66 [.slice (some ⟨n,0,s⟩) 1 1,.int .i64 (w:Int)] H (.ok (.slice (some ⟨H.next,0,some 0⟩) w w)) (ext H [⟨55,false,csOf (List.replicate w c)⟩]):=by
 refine callS_one (fun wf hsc=>?_) (fun _ _=>csOf_sc _ _)
 obtain⟨b,hb⟩:∃ b,H.next=b:=⟨_,rfl⟩
 have hbase:H.base≤b:=hb▸wf.base
 have hnb:n<b:=hb▸wf.lt hn
 have hneg:decide ((w:Int)<0)=false:=decide_eq_false (by omega)
 have hcv:∀ (X:AHeap) (k:IntKind) (m:Int),aConvert Tryd.prog X 3 118 (.int k m)=some (.int .u64 (IntKind.u64.wrap m),X):=fun X k m=>cv_int (u:=.int .i64) (by kernel_rfl) (by kernel_rfl)
 have hcv2:∀ (X:AHeap) (k:IntKind) (m:Int),aConvert Tryd.prog X 118 3 (.int k m)=some (.int .i64 (IntKind.i64.wrap m),X):=fun X k m=>cv_int (u:=.int .u64) (by kernel_rfl) (by kernel_rfl)
 have u1:IntKind.u64.wrap ((1:Nat):Int)=1:=by decide
 have huw:IntKind.u64.wrap (w:Int)=w:=wrap_u64 (by omega)
 have iw:IntKind.i64.wrap (w:Int)=w:=wrap_sm (by omega) (by omega)
 have z1:decide ((0:Int)>0)=false:=by decide
 have z2:decide ((w:Int)>9223372036854775807)=false:=decide_eq_false (by omega)
 refine callE_fn mixed Tryd.func66 rfl Tryd.ntmps66 (zA7 rfl) ?_
 simp (maxDischargeDepth:=6) only[hneg,w_convert,hcv,u1,huw,ruW,putL,Nat.reduceLeDiff,xF,ruU,entryE,Nat.reduceLT,Nat.reduceAdd,Nat.reduceMul,Nat.reduceEqDiff]
 refine (mul_c (ext H []) w (by omega)).to ?_
 simp (maxDischargeDepth:=6) only[w_convert,hcv2,iw,z1,z2,mkCells (show w≤1000 by omega),csOf_sc,hb,ruW,putL,Nat.reduceLeDiff,xF,ruU,entryE,Nat.reduceLT,Nat.reduceAdd,Nat.reduceMul,Nat.reduceEqDiff]
 generalize hG:ext H [_]=G
 have mG:Mod [] H G:=hG▸Mod.ext wf.base
 have hGn:G.next=b+1:=by rw[←hG,ext_next,hb]; rfl
 have hq:bk G (b+0)=some ⟨55,false,csOf (List.replicate w Ce.zero)⟩:=by rw[←hG,bk_at hb (by simp)]; rfl
 have hnG:=(mG.bk (hb▸hnb) (by simp)).trans hn
 have m1:Nat.min 1 w=1:=Nat.min_eq_left h1
 have hcp:=cp56 (G:=G) (q:=b+0) (off:=0) (dl:=w) (dc:=w) (n:=n) (off2:=0) (sl:=1) (sc:=1) (s2:=s) (l:=[c]) hq (by omega) hnG (by rw[m1]; simp[Ce.cells]) (by rw[m1]; rfl) (by rw[m1,csOf_length,zF9]; omega) (by rw[m1]; rfl)
 rw[m1]at hcp
 simp (maxDischargeDepth:=6) only[hcp,ruW,putL,Nat.reduceLeDiff,xF,ruU,entryE,Nat.reduceLT,Nat.reduceAdd,Nat.reduceMul,Nat.reduceEqDiff]
 generalize hK:uw G (b+0) 0 _=K
 have mK:Mod [b+0] G K:=hK▸Mod.uw (by simp)
 have okK:=mK.ok (mG.ok wf.base)
 have hKn:K.next=b+1:=by rw[←hK,uw_next,hGn]
 have hKq:bk K (b+0)=some ⟨55,false,csOf (List.replicate 1 c++List.replicate (w-1) Ce.zero)⟩:=by
  rw[←hK,bk_uw_eq,hq]
  have:=csOf_put [] [c] (List.replicate w Ce.zero) (by simp; omega)
  simp only[zC1,zB8,zE9,zB6,List.drop_replicate]at this
  show some (Bl.mk 55 false (putL (csOf (List.replicate w Ce.zero)) 0 (csOf [c])))=_
  rw[this]
  rfl
 have mHK:Mod [] H K:=mG.step mK wf.base (fun k hk=>.inr (by simp only[zA4]at hk; omega))
 refine w_env fun E hE=>?_
 have g7:E 7=.slice (some ⟨b+0,0,some 0⟩) w w:=by rw[hE]; simp only[ruU,entryE,Nat.reduceLT,Nat.reduceAdd,Nat.reduceMul,Nat.reduceEqDiff]
 have g8:E 8=.int .i64 ((1:Nat):Int):=by rw[hE]; (simp only[ruU,entryE,Nat.reduceLT,Nat.reduceAdd,Nat.reduceMul,Nat.reduceEqDiff]<;>rfl)
 clear hE
 refine blockC_meet (fun E' H'=>Mod [] H H'∧bk H' (b+0)=some ⟨55,false,csOf (List.replicate w c)⟩∧E' 7=.slice (some ⟨b+0,0,some 0⟩) w w) ?_ ?_
 ·refine w_loop (fun (m:Nat) E' H'=>Mod [] H H'∧b+0<H'.next∧1≤m∧m≤w∧bk H' (b+0)=some ⟨55,false,csOf (List.replicate m c++List.replicate (w-m) Ce.zero)⟩∧E' 7=.slice (some ⟨b+0,0,some 0⟩) w w∧E' 8=.int .i64 (m:Int)) (fun m=>w-m) 1
   ⟨mHK,by omega,zA5 _,h1,hKq,g7,g8⟩ ?_
  clear g7 g8
  rintro m E X ⟨mX,lX,hm1,hmw,hqX,g7,g8⟩
  rw[show X=ext X [] from rfl]
  by_cases hme:m=w
  ·have hc:decide ((m:Int)<(w:Int))=false:=by simp[hme]
   simp (maxDischargeDepth:=6) only[g7,g8,hc,ruW,putL,Nat.reduceLeDiff,xF,ruU,entryE,Nat.reduceLT,Nat.reduceAdd,Nat.reduceMul,Nat.reduceEqDiff]
   refine joinR_normal ⟨mX,?_,?_⟩
   ·rw[ext_nil,hqX,hme,Nat.sub_self]; simp
   ·simp only[g7,ruU,entryE,Nat.reduceLT,Nat.reduceAdd,Nat.reduceMul,Nat.reduceEqDiff]
  ·have hlt:m<w:=by omega
   have hc:decide ((m:Int)<(w:Int))=true:=decide_eq_true (by omega)
   have okX:=mX.ok wf.base
   simp (maxDischargeDepth:=6) only[g7,g8,hc,ruW,putL,Nat.reduceLeDiff,xF,ruU,entryE,Nat.reduceLT,Nat.reduceAdd,Nat.reduceMul,Nat.reduceEqDiff]
   refine w_drawB [(7,3),(7,6),(9,7)] [] (by kernel_rfl) (by kernel_rfl) rfl fun ops anc hA hG2=>?_
   simp only[all2_cons]at hA
   simp (maxDischargeDepth:=6) only[g7,g8,ruD,ruW,putL,Nat.reduceLeDiff,xF,ruU,entryE,Nat.reduceLT,Nat.reduceAdd,Nat.reduceMul,Nat.reduceEqDiff]
   have hbm:bound 0 (some (.int .i64 (m:Int)))=some m:=by simp[bound]
   have hbm2:bound w (some (.int .i64 (m:Int)))=some m:=by simp[bound]
   rw[wd_slice]
   refine genV_val (v:=.slice (some ⟨b+0,0+m*6,some 0⟩) (w-m) (w-m)) rfl (by decide) (fun G=>slice_aop (by simp (maxDischargeDepth:=6) only[ruU,entryE,Nat.reduceLT,Nat.reduceAdd,Nat.reduceMul,Nat.reduceEqDiff]) (by simp (maxDischargeDepth:=6) only[ruU,entryE,Nat.reduceLT,Nat.reduceAdd,Nat.reduceMul,Nat.reduceEqDiff,bndsOk_some]) rfl rfl ?_) (by simp (maxDischargeDepth:=6) only[ruD,ruW,putL,Nat.reduceLeDiff,xF,ruU,entryE,Nat.reduceLT,Nat.reduceAdd,Nat.reduceMul,Nat.reduceEqDiff]) ?_
   ·simp only[g7,g8,bnds_some,bnds_none,ruU,entryE,Nat.reduceLT,Nat.reduceAdd,Nat.reduceMul,Nat.reduceEqDiff]
    exact sl_exact (e:=55) (sz:=6) (by kernel_rfl) (by kernel_rfl) hbm rfl (zA5 _) hmw hlt
   simp (maxDischargeDepth:=6) only[g7,g8,ruD,ruW,putL,Nat.reduceLeDiff,xF,ruU,entryE,Nat.reduceLT,Nat.reduceAdd,Nat.reduceMul,Nat.reduceEqDiff]
   rw[wd_slice]
   refine genV_val (v:=.slice (some ⟨b+0,0+0*6,some 0⟩) (m-0) (w-0)) rfl (by decide) (fun G=>slice_aop (by simp (maxDischargeDepth:=6) only[ruU,entryE,Nat.reduceLT,Nat.reduceAdd,Nat.reduceMul,Nat.reduceEqDiff]) rfl (by simp (maxDischargeDepth:=6) only[ruU,entryE,Nat.reduceLT,Nat.reduceAdd,Nat.reduceMul,Nat.reduceEqDiff,bndsOk_some]) rfl ?_) (by simp (maxDischargeDepth:=6) only[ruD,ruW,putL,Nat.reduceLeDiff,xF,ruU,entryE,Nat.reduceLT,Nat.reduceAdd,Nat.reduceMul,Nat.reduceEqDiff]) ?_
   ·simp only[g7,g8,bnds_some,bnds_none,ruU,entryE,Nat.reduceLT,Nat.reduceAdd,Nat.reduceMul,Nat.reduceEqDiff]
    exact sl_exact (e:=55) (sz:=6) (by kernel_rfl) (by kernel_rfl) rfl hbm2 hmw (zB0 _) (by omega)
   simp (maxDischargeDepth:=6) only[g7,g8,ruD,ruW,putL,Nat.reduceLeDiff,xF,ruU,entryE,Nat.reduceLT,Nat.reduceAdd,Nat.reduceMul,Nat.reduceEqDiff]
   rw[wd_copy (by simp only[ruU,entryE,Nat.reduceLT,Nat.reduceAdd,Nat.reduceMul,Nat.reduceEqDiff])]
   have hrn:=restrict_next X [b+0]
   have hqR:bk (X.restrict [b+0]) (b+0)=some ⟨55,false,csOf (List.replicate m c++List.replicate (w-m) Ce.zero)⟩:=(bk_get (by rw[restrict_get,if_pos (by simp)])).trans hqX
   obtain⟨j,hj⟩:∃ j,Nat.min m (w-m)=j:=⟨_,rfl⟩
   have hjm:j≤m∧j≤w-m∧0<j:=by rw[←hj]; exact⟨Nat.min_le_left _ _,Nat.min_le_right _ _,Nat.lt_min.2 ⟨by omega,by omega⟩⟩
   have hcl:(csOf (List.replicate m c++List.replicate (w-m) Ce.zero)).length=w*6:=by rw[csOf_length]; simp; omega
   have hcp2:=cp56 (G:=X.restrict [b+0]) (q:=b+0) (off:=0+m*6) (dl:=w-m) (dc:=w-m) (n:=b+0) (off2:=0+0*6) (sl:=m-0) (sc:=w-0) (s2:=some 0) (l:=List.replicate j c) hqR (by rw[hrn.1]; exact lX) hqR
    (by rw[Nat.sub_zero,hj,hcl]; omega) (by rw[Nat.sub_zero,hj,zE9,zC2,zD1,csOf_take,List.take_append,List.take_replicate,zF9,show j-m=0 by omega,Nat.min_eq_left hjm.1]; simp) (by rw[Nat.sub_zero,hj,hcl]; omega) (by rw[Nat.sub_zero,hj,zF9])
   rw[Nat.sub_zero,hj]at hcp2
   refine genV_modO (W:=[b+0]) [b+0] okX (fun k hk=>by simp only[zA4]at hk; subst hk; exact bk_ne hqX) (fun k hk=>by simp only[zA4]at hk; subst hk; exact lX) (fun _ h=>h)
    (builtin_op (v:=goInt j) (by simp only[ruU,entryE,Nat.reduceLT,Nat.reduceAdd,Nat.reduceMul,Nat.reduceEqDiff]) (by simp only[ruU,entryE,Nat.reduceLT,Nat.reduceAdd,Nat.reduceMul,Nat.reduceEqDiff]; rw[Nat.sub_zero]; exact hcp2)) (Mod.uw (by simp)) (by simp only[all2_cons,all2_nil,hA,true_or,and_true]) ?_
   intro H1 D mH1 hF1 _ _ _
   have hw8:IntKind.i64.wrap ((m:Int)+(j:Int))=((m+j:Nat):Int):=by
    have:=wrap_sm (n:=(m:Int)+(j:Int)) (by omega) (by omega)
    rw[show IntKind.i64.wrap ((m:Int)+(j:Int))=_ from this]; omega
   rw[show H1=ext H1 [] from rfl]
   simp (maxDischargeDepth:=6) only[g7,g8,goInt,hA,hw8,implies_true,ruD,ruW,putL,Nat.reduceLeDiff,xF,ruU,entryE,Nat.reduceLT,Nat.reduceAdd,Nat.reduceMul,Nat.reduceEqDiff]
   have hq1:bk H1 (b+0)=some ⟨55,false,csOf (List.replicate (m+j) c++List.replicate (w-(m+j)) Ce.zero)⟩:=by
    rw[bk_get (hF1 (b+0) (by simp)),bk_uw_eq,show bk ((ext X []).restrict [b+0]) (b+0)=_ from hqR]
    have:=csOf_put (List.replicate m c) (List.replicate j c) (List.replicate (w-m) Ce.zero) (by simp; omega)
    rw[zF9,zF9,List.drop_replicate]at this
    show some (Bl.mk 55 false (putL (csOf _) (0+m*6) (csOf (List.replicate j c))))=_
    rw[zC2,this,←zF6,List.replicate_append_replicate,show w-m-j=w-(m+j) by omega]
   refine loopC_next ⟨m+j,by omega,(mX.step mH1 wf.base (fun k hk=>.inr (by simp only[zA4]at hk; omega))),mH1.lt lX,by omega,by omega,hq1,?_,?_⟩<;>simp only[g7,g8,ruU,entryE,Nat.reduceLT,Nat.reduceAdd,Nat.reduceMul,Nat.reduceEqDiff]
 ·clear g7 g8
  rintro E X ⟨mX,hqX,g7⟩
  rw[show X=ext X [] from rfl]
  simp (maxDischargeDepth:=6) only[g7,Tryd.results66,ruW,putL,Nat.reduceLeDiff,xF,ruU,entryE,Nat.reduceLT,Nat.reduceAdd,Nat.reduceMul,Nat.reduceEqDiff]
  exact⟨b+0,rfl,by omega,hqX,mX⟩
def bt (l:List UInt8) (i:Nat):Int:=((l.getD i 0).toNat:Int)
def tl (l:List UInt8) (i:Nat):Bool:=decide (i<l.length)&&decide (128≤bt l i)&&decide (bt l i<192)
def ptR (l:List UInt8):Int × Int :=
 cond (decide (bt l 0<128)) (bt l 0,1) <|
 cond (decide (194≤bt l 0)&&decide (bt l 0<224)&&tl l 1) ((bt l 0-192)*64+bt l 1-128,2) <|
 cond (decide (224≤bt l 0)&&decide (bt l 0<240)&&tl l 1&&tl l 2)
  (cond (decide (2048≤((bt l 0-224)*64+bt l 1-128)*64+bt l 2-128)&&isR (((bt l 0-224)*64+bt l 1-128)*64+bt l 2-128)) (((bt l 0-224)*64+bt l 1-128)*64+bt l 2-128,3) (0,0)) <|
 cond (decide (240≤bt l 0)&&decide (bt l 0<245)&&tl l 1&&tl l 2&&tl l 3)
  (cond (decide (65536≤(((bt l 0-240)*64+bt l 1-128)*64+bt l 2-128)*64+bt l 3-128)&&isR ((((bt l 0-240)*64+bt l 1-128)*64+bt l 2-128)*64+bt l 3-128)) ((((bt l 0-240)*64+bt l 1-128)*64+bt l 2-128)*64+bt l 3-128,4) (0,0))
 (0,0)
def ptsF:Nat→List UInt8→Option (List Int)
 |0,l=>if l=[] then some [] else none
 |n+1,l=>if l=[] then some [] else if (ptR l).2=0 then none else (ptsF n (l.drop (ptR l).2.toNat)).map ((ptR l).1::·)
def ptsR (l:List UInt8):Option (List Int):=ptsF l.length l
def iv (l:List Int):List Value:=l.map (Value.int .i64)
theorem iv_sc (l:List Int) (n:Nat):scbL n (iv l)=true:=by induction l with|nil=>rfl|cons a l ih=>simp only[iv,zC8,scbL]at ih ⊢; rw[ih]; rfl
theorem int_app {X:AHeap} {v:Value} {l:List Int} {c:Int} {x:Nat} (h:VsAt X 3 1 v (iv l) l.length) (hx:X.next=x) (hb:X.base≤X.next) (hlen:l.length≤1000000) :
  ∃ G,aBuiltin Tryd.prog (ext X [⟨3,false,[.int .i64 c]⟩]) .append ⟨[109,109]⟩ [v,.slice (some ⟨x+0,0,some 0⟩) 1 1]=some (.slice (some ⟨x+1,0,none⟩) (l.length+1) (l.length+1),ext G [])∧VsAt G 3 1 (.slice (some ⟨x+1,0,none⟩) (l.length+1) (l.length+1)) (iv (l++[c])) (l++[c]).length∧Mod (idsV v) X G∧G.next=x+2:=by
 have h2:VsAt (ext X [⟨3,false,[.int .i64 c]⟩]) 3 1 v (iv l) l.length:=h.of (by rw[ext_next]; omega) (fun n hn=>ext_get_old (h.ne n hn).2)
 have hk:bk (ext X [⟨3,false,[.int .i64 c]⟩]) (x+0)=some ⟨3,false,[.int .i64 c]⟩:=by rw[bk_at hx (by simp)]; rfl
 have hsm:small (l.length+1) 8=true:=by simp only[small,zA8,Nat.ble_eq]; omega
 obtain⟨G,k1,k2,k3,k4,_⟩:=vs_app (P:=Tryd.prog) (H:=ext X [⟨3,false,[.int .i64 c]⟩]) (st:=109) (xt:=109) (e:=3) (sz:=1) (by1:=8) (z:=.int .i64 0) (n:=x+0) (off:=0) (cnt2:=1) (cap:=1) (s:=some 0) (x:=x+1) (ws:=[.int .i64 c]) (b:=⟨3,false,[.int .i64 c]⟩)
  (by kernel_rfl) (by kernel_rfl) (by kernel_rfl) (by kernel_rfl) rfl (by kernel_rfl) h2 (rk_of hk) (by simp) rfl rfl (by decide) hsm (by rw[ext_next,hx]; rfl) (scbL_append (iv_sc _ _) rfl)
 have e1:iv l++[.int .i64 c]=iv (l++[c]):=by simp[iv]
 rw[e1]at k2
 refine⟨G,k1,by rw[zB7]; exact k2,(Mod.ext hb).trans (k3 ((Mod.ext (W:=[]) hb).ok hb)),k4⟩
def St.text (W:Nat) (r:Option (List Int)) (x:St):Option St:=match r with
 |none=>none
 |some l=>if St.fits W l x.col=true then
   some {x with grid:=x.grid.set x.row.toNat (putAll x.pen l (x.grid.getD x.row.toNat []) x.col.toNat).1,col:=((putAll x.pen l (x.grid.getD x.row.toNat []) x.col.toNat).2:Nat)}
  else none
theorem fits_cons {W:Nat} {c:Int} {l:List Int} {n:Int} (h:St.fits W (c::l) n=true):cellsR c≠0∧n+cellsR c≤W∧St.fits W l (n+cellsR c)=true:=by
 rw[St.fits]at h
 split at h
 ·cases h
 ·rename_i hh
  simp only[Bool.or_eq_true,decide_eq_true_eq,not_or,Int.not_lt]at hh
  exact⟨hh.1,hh.2,h⟩
theorem putC_len (pen:Lk) (l:List Ce) (k:Nat) (c:Int):(putC pen l k c).length=l.length:=by
 unfold putC
 split<;>simp[setL_len]
set_option maxRecDepth 100000
theorem St.Ok.setRow {x:St} {W i:Nat} {l:List Ce} (ok:x.Ok W) (hl:l.length=W):(x.setRow i l).Ok W:=by
 refine⟨?_,?_,ok.w1,ok.w2,?_,ok.row0,?_,ok.col0,ok.col1⟩
 ·simp only[St.setRow,List.length_set]; exact ok.h1
 ·simp only[St.setRow,List.length_set]; exact ok.h2
 ·intro q hq
  rcases List.mem_or_eq_of_mem_set hq with h|h
  ·exact ok.wid q h
  ·rw[h]; exact hl
 ·simp only[St.setRow,List.length_set]; exact ok.row1
def St.clear (W:Nat) (x:St):Option St:=if x.col<W then some {x with grid:=x.grid.set x.row.toNat (clearL (x.grid.getD x.row.toNat []) x.col.toNat (W-x.col.toNat))} else none
end Go.Proofs.YtaojjfebkldmnaaDoor
namespace Go.Ax
section
variable {P : Program} {H : AHeap} {N : Nat} {E : Env} {ds : List Deferred} {ops : Array Oper} {anc : List Nat} {d : Nat} {ty : TypeId} {pos : String} {after : Array Edge} {rest : List Oper} {i : Nat} {fps : List Fp} {Q : AAct → AHeap → Prop}
theorem genV_extV {f:FuncId} {x:Operand} {args:List Operand} {ts:Array TypeId} {v:Value} {M:List Bl} {ca:List Value} (F:List Nat) (hx:opOk P N x=true) (hv:opv E x=.func (.func f) ⟨[]⟩ ⟨ca⟩) (ha:args.all (opOk P N)=true) (hb:hasBody P f=true) (hd:d<N) (hF:∀ n∈F,H.get n≠none)
  (hc:∀ G:AHeap,G.next=H.next→(∀ n∈F,G.get n=H.get n)→CallS P f (args.map (opv E)++ca) G (.ok v) (ext G M)) (hm:∀ r∈fps,Meets (anc.getD i 0) F [] (idsV v++M.flatMap fun x=>idsL x.l) r)
  (h:wkD P ops anc rest (i+1) (⟨i,F,[],H.next,H.next+M.length⟩::fps) (mkA N (upd E d v) ds) (ext H M) Q):genV P ops anc ⟨some d,.call ⟨.value x,⟨args⟩,ts⟩,ty,pos,after,none⟩ rest i fps (mkA N E ds) H Q :=
 genV_extO (v:=v) (M:=M) F rfl hd hF (fun G h1 h2=>by
  refine opS_of (x:=.enter f (args.map (opv E)++ca)) (g:=G) ?_ (hc G h1 h2)
  simp only[aop,xCall,aevals_opv ha,aeval_opv hx,hv,zA1,zA3,callV,aInvoke,enterN,hb,if_true,zC1,zA9]) hm h
theorem genV_sl {t:TypeId} {x:Operand} {lo hi mx:Option Operand} {v:Value} (F:List Nat) (hx:opOk P N x=true) (h1:bndsOk P N lo=true) (h2:bndsOk P N hi=true) (h3:bndsOk P N mx=true) (hd:d<N) (hF:∀ n∈F,H.get n≠none)
  (hc:∀ G:AHeap,(∀ n∈F,G.get n=H.get n)→aSlice P G t (opv E x) (bnds E lo) (bnds E hi) (bnds E mx)=some (v,G)) (hm:∀ r∈fps,Meets (anc.getD i 0) F [] (idsV v++([]:List Bl).flatMap fun x=>idsL x.l) r)
  (h:wkD P ops anc rest (i+1) (⟨i,F,[],H.next,H.next⟩::fps) (mkA N (upd E d v) ds) (ext H []) Q):genV P ops anc ⟨some d,.slice t x lo hi mx,ty,pos,after,none⟩ rest i fps (mkA N E ds) H Q :=
 genV_extO (v:=v) (M:=[]) F rfl hd hF (fun G _ h4=>opS_of (x:=.value v) (g:=G) (slice_aop hx h1 h2 h3 (hc G h4)) ⟨rfl,rfl⟩) hm h
end
end Go.Ax
namespace Go.Proofs.YtaojjfebkldmnaaDoor
open Go.Ax
theorem blank39_c (H:AHeap) (w:Nat) (h1:1≤w) (hw:w≤1000):CallS Tryd.prog 46 [.int .i64 (w:Int)] H (.ok (.slice (some ⟨H.next,0,some 0⟩) w w)) (ext H [⟨55,false,csOf (List.replicate w Ce.sp)⟩]):=by
 obtain⟨b,hb⟩:∃ b,H.next=b:=⟨_,rfl⟩
 refine callS_one (fun wf hsc=>?_) (fun _ _=>csOf_sc _ _)
 have hok:H.base≤H.next:=wf.base
 have hbase:H.base≤b:=hb▸wf.base
 refine callE_fn mixed Tryd.func46 rfl Tryd.ntmps46 (zA7 rfl) ?_
 simp (maxDischargeDepth:=6) only[hb,hbase,ruW,putL,Nat.reduceLeDiff,xF,ruU,entryE,Nat.reduceLT,Nat.reduceAdd,Nat.reduceMul,Nat.reduceEqDiff]
 refine (repeat_c w h1 hw Ce.sp (b+0) (some 0) (ext H [⟨55,false,Ce.sp.cells⟩]) (by rw[bk_at hb (by simp)]; rfl)).to ?_
 simp (maxDischargeDepth:=6) only[hb,Tryd.results46,ruW,putL,Nat.reduceLeDiff,xF,ruU,entryE,Nat.reduceLT,Nat.reduceAdd,Nat.reduceMul,Nat.reduceEqDiff]
 exact⟨b+1,rfl,by omega,by rw[bk_at hb (by simp)]; rfl,Mod.ext hok⟩
theorem scbL_sub {N:Nat} {L M:List Value} (h:scbL N L=true) (hs:∀ v∈M,v∈L):scbL N M=true:=scbL_iff.2 fun v hv=>scbL_iff.1 h v (hs v hv)
theorem one_sub {L M:List Value} (h:L.all one=true) (hs:∀ v∈M,v∈L):M.all one=true:=zC9.2 fun v hv=>zC9.1 h v (hs v hv)
theorem two_c (H:AHeap) (u1 u2:Value) (L1 L2:List Value) (n x:Nat) (hx:H.next=x) (P1:Part H u1 L1) (P2:Part H u2 L2) (h1:L1.all one=true) (h2:L2.all one=true) (s1:scbL H.next L1=true) (s2:scbL H.next L2=true) (hn:(L1++L2).length=n) (h0:0<n) (hn1:n≤10000) :
  CallS Tryd.prog 109 [.slice (some ⟨x+0,0,some 0⟩) 2 2] (ext H [⟨22,false,[u1,u2]⟩]) (.ok (.slice (some ⟨x+1,0,none⟩) n n)) (ext H [⟨22,false,[u1,u2]⟩,⟨56,true,L1++L2⟩]):=by
 have hnx:(ext H [⟨22,false,[u1,u2]⟩]).next=x+1:=by rw[ext_next,hx]; rfl
 have:=concat_c (ext H [⟨22,false,[u1,u2]⟩]) (x+0) (some 0) 2 22 false [(u1,L1),(u2,L2)] n (by rw[bk_at hx (by simp)]; rfl) (by omega) (fun q hq=>?_) (by simpa using hn) h0 hn1 (by simp)
 ·rw[hnx]at this
  simpa[ext_append]using this
 ·have le:H.next≤(ext H [⟨22,false,[u1,u2]⟩]).next:=by omega
  simp only[zB3,List.not_mem_nil,or_false]at hq
  rcases hq with rfl|rfl
  ·exact⟨P1.ext,h1,scbL_mono le _ s1⟩
  ·exact⟨P2.ext,h2,scbL_mono le _ s2⟩
theorem remove1_c (H:AHeap) (u1 u2:Value) (L1 L2:List Value) (b:Nat) (o:Op) (P1:Part H u1 L1) (P2:Part H u2 L2) (h1:L1.all one=true) (h2:L2.all one=true) (s1:scbL H.next L1=true) (s2:scbL H.next L2=true) (hb:bk H b=some ⟨47,false,o.cells⟩) (hbl:b<H.next)
  (k:Nat) (hk:o.n=(k:Int)) (hk0:0<k) (hk1:k≤L1.length) (h2l:L2.length=k) (hl:L1.length≤1000) :
  CallS Tryd.prog 108 [u1,u2,.pointer (some ⟨b,0,none⟩)] H (.ok (.slice (some ⟨H.next,0,none⟩) L1.length L1.length)) (ext H [⟨56,true,mid true L1 L2 k⟩]):=by
 obtain⟨x,hx⟩:∃ x,H.next=x:=⟨_,rfl⟩
 obtain⟨u3,hsl,P3,_⟩:=P1.slice (by intro e; rw[e]at hk1; simp at hk1; omega) (x:=some (.int .i64 (k:Int))) (y:=none) (lo:=k) (hi:=L1.length) (by simp[bound]) rfl hk1 (zA5 _)
 rw[zE4]at P3
 have hmid:mid true L1 L2 k=[(u3,L1.drop k),(u2,L2)].flatMap Prod.snd:=by simp[mid]
 refine callS_one (fun wf hsc=>?_) (fun _ _=>?_)
 ·rw[hx]
  rw[hx]at hbl
  have hok:H.base≤H.next:=wf.base
  have hbx:H.base≤x:=hx▸hok
  have sc1:=P3.sc
  have sc2:=P2.sc
  have tw:=two_c H u3 u2 (L1.drop k) L2 L1.length x hx P3 P2 (one_sub h1 fun v hv=>zD5 hv) h2 (scbL_sub s1 fun v hv=>zD5 hv) s2 (by simp only[zB7,zF1]; omega) (by omega) (by omega)
  rw[hx]at sc1 sc2
  obtain⟨a3,c3,e3⟩:=P3.len
  obtain⟨a2,c2,e2⟩:=P2.len
  subst e3 e2
  refine callE_fn mixed Tryd.func108 rfl Tryd.ntmps108 (zA7 rfl) ?_
  simp (maxDischargeDepth:=6) only[hx,hbl,hb,Op.cells,hk,hsl (ext H []) (fun _ _=>rfl),sc1,sc2,hbx,ruW,putL,Nat.reduceLeDiff,xF,ruU,entryE,Nat.reduceLT,Nat.reduceAdd,Nat.reduceMul,Nat.reduceEqDiff]
  refine tw.to ?_
  simp (maxDischargeDepth:=6) only[hx,Tryd.results108,ruW,putL,Nat.reduceLeDiff,xF,ruU,entryE,Nat.reduceLT,Nat.reduceAdd,Nat.reduceMul,Nat.reduceEqDiff]
  exact⟨x+1,rfl,by omega,by rw[bk_at hx (by simp)]; rfl,Mod.ext hok⟩
 ·exact scbL_append (scbL_sub s1 fun v hv=>zD5 hv) s2
theorem insert1_c (H:AHeap) (u1 u2:Value) (L1 L2:List Value) (b:Nat) (o:Op) (P1:Part H u1 L1) (P2:Part H u2 L2) (h1:L1.all one=true) (h2:L2.all one=true) (s1:scbL H.next L1=true) (s2:scbL H.next L2=true) (hb:bk H b=some ⟨47,false,o.cells⟩) (hbl:b<H.next)
  (k:Nat) (hk:o.n=(k:Int)) (hk0:0<k) (hk1:k≤L1.length) (h2l:L2.length=k) (hl:L1.length≤1000) :
  CallS Tryd.prog 110 [u1,u2,.pointer (some ⟨b,0,none⟩)] H (.ok (.slice (some ⟨H.next,0,none⟩) L1.length L1.length)) (ext H [⟨56,true,mid false L1 L2 k⟩]):=by
 obtain⟨x,hx⟩:∃ x,H.next=x:=⟨_,rfl⟩
 obtain⟨u3,hsl,P3,_⟩:=P1.slice (by intro e; rw[e]at hk1; simp at hk1; omega) (x:=none) (y:=some (.int .i64 ((L1.length-k:Nat):Int))) (lo:=0) (hi:=L1.length-k) rfl (by simp only[bound]; rw[if_pos (by omega)]; simp) (zB0 _) (by omega)
 rw[zD1]at P3
 have hwr:IntKind.i64.wrap ((L1.length:Int)-(k:Int))=((L1.length-k:Nat):Int):=(wrap_sm (by omega) (by omega)).trans (by omega)
 have hmid:mid false L1 L2 k=[(u2,L2),(u3,L1.take (L1.length-k))].flatMap Prod.snd:=by simp[mid]
 refine callS_one (fun wf hsc=>?_) (fun _ _=>?_)
 ·rw[hx]
  rw[hx]at hbl
  have hok:H.base≤H.next:=wf.base
  have hbx:H.base≤x:=hx▸hok
  have sc1:=P3.sc
  have sc2:=P2.sc
  have tw:=two_c H u2 u3 L2 (L1.take (L1.length-k)) L1.length x hx P2 P3 h2 (one_sub h1 fun v hv=>zD4 hv) s2 (scbL_sub s1 fun v hv=>zD4 hv) (by simp only[zB7,zE7]; omega) (by omega) (by omega)
  rw[hx]at sc1 sc2
  obtain⟨a1,c1,e1⟩:=P1.len
  obtain⟨a3,c3,e3⟩:=P3.len
  obtain⟨a2,c2,e2⟩:=P2.len
  subst e1 e3 e2
  refine callE_fn mixed Tryd.func110 rfl Tryd.ntmps110 (zA7 rfl) ?_
  simp (maxDischargeDepth:=6) only[hx,hbl,hb,Op.cells,hk,hwr,hsl (ext H []) (fun _ _=>rfl),sc1,sc2,hbx,ruW,putL,Nat.reduceLeDiff,xF,ruU,entryE,Nat.reduceLT,Nat.reduceAdd,Nat.reduceMul,Nat.reduceEqDiff]
  refine tw.to ?_
  simp (maxDischargeDepth:=6) only[hx,Tryd.results110,ruW,putL,Nat.reduceLeDiff,xF,ruU,entryE,Nat.reduceLT,Nat.reduceAdd,Nat.reduceMul,Nat.reduceEqDiff]
  exact⟨x+1,rfl,by omega,by rw[bk_at hx (by simp)]; rfl,Mod.ext hok⟩
 ·exact scbL_append s2 (scbL_sub s1 fun v hv=>zD4 hv)
def St.roll (W:Nat) (x:St) (o:Op) (up:Bool):Option St :=
 if (decide (0≤o.row)&&decide (o.row≤o.col)&&decide (o.col<x.grid.length)&&decide (1≤o.n)&&decide (o.n≤o.col-o.row+1))=true then
   some {x with grid:=rollR W x.grid o.row.toNat o.col.toNat o.n.toNat up} else none
theorem scrolls_c (N:Nat) (H:AHeap) (p W:Nat) (v:Value) (rvs:List Value) (x:St) (o:Op) (up:Bool) (f b0:Nat) (hb:hasBody Tryd.prog f=true) (a:StAt 76 N H p v rvs x) (sl:Slc v) (hok:H.base≤H.next) (ok:x.Ok W)
  (ho:bk H b0=some ⟨47,false,o.cells⟩) (hob:b0<H.next)
  (hf:∀ (G:AHeap) (u1 u2:Value) (L1 L2:List Value),Part G u1 L1→Part G u2 L2→L1.all one=true→L2.all one=true→scbL G.next L1=true→scbL G.next L2=true→bk G b0=some ⟨47,false,o.cells⟩→b0<G.next →
   ∀ k:Nat,o.n=(k:Int)→0<k→k≤L1.length→L2.length=k→L1.length≤1000→CallS Tryd.prog f [u1,u2,.pointer (some ⟨b0,0,none⟩)] G (.ok (.slice (some ⟨G.next,0,none⟩) L1.length L1.length)) (ext G [⟨56,true,mid up L1 L2 k⟩])) :
  CallA Tryd.prog 107 [.pointer (some ⟨p,0,none⟩),o.val,.func (.func f) ⟨[]⟩ ⟨[.pointer (some ⟨b0,0,none⟩)]⟩] H (StepR 76 N p (x.roll W o up) H):=by
 obtain⟨b,hbn⟩:∃ b,H.next=b:=⟨_,rfl⟩
 have hpl:=a.lt
 rw[hbn]at hpl hob
 have hcell:=a.cell
 simp only[St.cells]at hcell
 have m0:Mod [] H (ext H [⟨47,false,o.cells⟩]):=Mod.ext hok
 have aX:=a.mod0 m0
 obtain⟨d1,h1⟩:∃ d,decide (0≤o.row)=d:=⟨_,rfl⟩
 obtain⟨d2,h2⟩:∃ d,decide (o.row≤o.col)=d:=⟨_,rfl⟩
 obtain⟨d3,h3⟩:∃ d,decide (o.col<x.grid.length)=d:=⟨_,rfl⟩
 obtain⟨d4,h4⟩:∃ d,decide (1≤o.n)=d:=⟨_,rfl⟩
 obtain⟨d5,h5⟩:∃ d,decide (o.n≤o.col-o.row+1)=d:=⟨_,rfl⟩
 obtain⟨mb,hb',ev⟩:=id sl
 have ehb:hb'=x.grid.length:=by
  rcases aX.own.at_ with⟨h,_⟩|⟨_,_,_,_,h,_⟩
  ·have:=ok.h1; rw[h]at this; simp at this
  ·rw[ev]at h; cases h; rfl
 subst ehb
 unfold St.roll
 rw[h1,h2,h3,h4,h5]
 refine callE_fn mixed Tryd.func107 rfl Tryd.ntmps107 (zA7 rfl) ?_
 simp (maxDischargeDepth:=6) only[Op.val,Op.cells,hbn,ruW,putL,Nat.reduceLeDiff,xF,ruU,entryE,Nat.reduceLT,Nat.reduceAdd,Nat.reduceMul,Nat.reduceEqDiff]
 by_cases hall:(d1&&d2&&d3&&d4&&d5)=true
 ·rw[if_pos hall]
  simp only[zA8]at hall
  obtain⟨⟨⟨⟨rfl,rfl⟩,rfl⟩,rfl⟩,rfl⟩:=hall
  have i1:=of_decide_eq_true h1
  have i2:=of_decide_eq_true h2
  have i3:=of_decide_eq_true h3
  have i4:=of_decide_eq_true h4
  have i5:=of_decide_eq_true h5
  have hh:=ok.h2
  have hw1:IntKind.i64.wrap (o.col-o.row)=o.col-o.row:=wrap_sm (by omega) (by omega)
  have hw2:IntKind.i64.wrap (o.col-o.row+1)=o.col-o.row+1:=wrap_sm (by omega) (by omega)
  rw[ev]at hcell
  refine w_drawB [] [(3,10),(10,17),(21,28),(26,33)] (by kernel_rfl) rfl (by kernel_rfl) fun ops anc hA hG=>?_
  simp only[all2_cons]at hG
  simp (maxDischargeDepth:=6) only[hbn,hpl,hcell,h1,h2,h3,h4,h5,hw1,hw2,hG,ruD,ruW,putL,Nat.reduceLeDiff,xF,ruU,entryE,Nat.reduceLT,Nat.reduceAdd,Nat.reduceMul,Nat.reduceEqDiff]
  refine genV_quiet (v:=.tuple ⟨[]⟩) [] rfl rfl (zA7 rfl) (by simp) (fun G hn hg=>needs_t G) (by simp[Meets]) ?_
  simp (maxDischargeDepth:=6) only[hbn,hpl,hcell,ruD,ruW,putL,Nat.reduceLeDiff,xF,ruU,entryE,Nat.reduceLT,Nat.reduceAdd,Nat.reduceMul,Nat.reduceEqDiff]
  refine w_env fun E hE=>?_
  have g0:E 0=.pointer (some ⟨p,0,none⟩):=by rw[hE]; simp only[ruU,entryE,Nat.reduceLT,Nat.reduceAdd,Nat.reduceMul,Nat.reduceEqDiff]
  have g2:E 2=.func (.func f) ⟨[]⟩ ⟨[.pointer (some ⟨b0,0,none⟩)]⟩:=by rw[hE]; simp only[ruU,entryE,Nat.reduceLT,Nat.reduceAdd,Nat.reduceMul,Nat.reduceEqDiff]
  have g4:E 4=.pointer (some ⟨b+0,0,none⟩):=by rw[hE]; simp only[ruU,entryE,Nat.reduceLT,Nat.reduceAdd,Nat.reduceMul,Nat.reduceEqDiff]
  have g6:E 6=.slice none 0 0:=by rw[hE]; simp only[ruU,entryE,Nat.reduceLT,Nat.reduceAdd,Nat.reduceMul,Nat.reduceEqDiff]
  have g46:E 46=.int .i64 o.n:=by rw[hE]; simp only[ruU,entryE,Nat.reduceLT,Nat.reduceAdd,Nat.reduceMul,Nat.reduceEqDiff]
  have g47:E 47=.int .i64 ((0:Nat):Int):=by rw[hE]; (simp only[ruU,entryE,Nat.reduceLT,Nat.reduceAdd,Nat.reduceMul,Nat.reduceEqDiff]<;>rfl)
  clear hE
  obtain⟨X,hX⟩:∃ X,ext H [⟨47,false,o.cells⟩]=X:=⟨_,rfl⟩
  have hXo:bk X (b+0)=some ⟨47,false,o.cells⟩:=by rw[←hX,bk_at hbn (by simp)]; rfl
  have hXn:X.next=b+1:=by rw[←hX,ext_next,hbn]; rfl
  have hXb:bk X b0=some ⟨47,false,o.cells⟩:=(m0.bk (by omega) (by simp)).trans ho |> fun h=>by rw[←hX]; exact h
  rw[show ext H [⟨47,false,o.cells⟩]=X from hX]at aX m0
  simp only[Op.cells]at hX
  rw[hX]
  have okX:=m0.ok hok
  obtain⟨n,hn'⟩:∃ n:Nat,o.n=n:=⟨o.n.toNat,by omega⟩
  rw[hn']at g46
  refine blockC_meet (fun E' Y=>Mod [] X Y∧E' 0=.pointer (some ⟨p,0,none⟩)∧E' 2=.func (.func f) ⟨[]⟩ ⟨[.pointer (some ⟨b0,0,none⟩)]⟩∧E' 4=.pointer (some ⟨b+0,0,none⟩)∧∃ u fr,E' 6=u∧Grow (b+1) Y u fr (List.replicate n (List.replicate W Ce.sp))) ?_ ?_
  ·rw[show X=ext X [] from rfl]
   refine w_loop (fun (q:Nat × Value × List Value) E' Y=>Mod [] X Y∧E' 0=.pointer (some ⟨p,0,none⟩)∧E' 2=.func (.func f) ⟨[]⟩ ⟨[.pointer (some ⟨b0,0,none⟩)]⟩∧E' 4=.pointer (some ⟨b+0,0,none⟩)∧E' 6=q.2.1∧E' 46=.int .i64 (n:Int)∧E' 47=.int .i64 (q.1:Int)∧q.1≤n∧Grow (b+1) Y q.2.1 q.2.2 (List.replicate q.1 (List.replicate W Ce.sp))) (fun q=>n-q.1) (0,.slice none 0 0,[])
    ⟨Mod.refl,g0,g2,g4,g6,g46,g47,zB0 _,Grow.nil⟩ ?_
   clear g0 g2 g4 g6 g46 g47
   rintro⟨k,u,fr⟩ E Y ⟨mY,g0,g2,g4,g6,g46,g47,hk,gr⟩
   simp only at g6 g47 hk gr
   rw[show Y=ext Y [] from rfl]
   by_cases hkn:k=n
   ·have hc:decide ((k:Int)<(n:Int))=false:=by simp[hkn]
    simp (maxDischargeDepth:=6) only[g46,g47,hc,ruW,putL,Nat.reduceLeDiff,xF,ruU,entryE,Nat.reduceLT,Nat.reduceAdd,Nat.reduceMul,Nat.reduceEqDiff]
    rw[hkn]at gr
    exact joinR_normal ⟨mY,by simp only[g0,ruU,entryE,Nat.reduceLT,Nat.reduceAdd,Nat.reduceMul,Nat.reduceEqDiff],by simp only[g2,ruU,entryE,Nat.reduceLT,Nat.reduceAdd,Nat.reduceMul,Nat.reduceEqDiff],by simp only[g4,ruU,entryE,Nat.reduceLT,Nat.reduceAdd,Nat.reduceMul,Nat.reduceEqDiff],u,fr,by simp only[g6,ruU,entryE,Nat.reduceLT,Nat.reduceAdd,Nat.reduceMul,Nat.reduceEqDiff],gr⟩
   ·have hc:decide ((k:Int)<(n:Int))=true:=decide_eq_true (by omega)
    have okY:=mY.ok okX
    have aY:=aX.mod0 mY
    obtain⟨_,_,_,_,hwd⟩:=dwidth_c aY ok
    have hwY:CallS Tryd.prog 50 [.pointer (some ⟨p,0,none⟩)] (ext Y []) (.ok (.int .i64 W)) (ext Y []):=hwd Y rfl (fun _ _=>rfl)
    obtain⟨y,hy⟩:∃ y,Y.next=y:=⟨_,rfl⟩
    have hyb:Y.base≤y:=hy▸okY
    have hby:b+1≤y:=by have:=mY.next; omega
    obtain⟨rv,hrv⟩:∃ rv,rv=Value.slice (some ⟨y+0,0,some 0⟩) W W:=⟨_,rfl⟩
    obtain⟨Y2,hY2⟩:∃ Y2,ext Y [⟨55,false,csOf (List.replicate W Ce.sp)⟩,⟨56,false,[rv]⟩]=Y2:=⟨_,rfl⟩
    have mY2:Mod [] Y Y2:=hY2▸Mod.ext okY
    have nY2:Y2.next=y+2:=by rw[←hY2,ext_next,hy]; rfl
    have b1:bk Y2 (y+0)=some ⟨55,false,csOf (List.replicate W Ce.sp)⟩:=by rw[←hY2,bk_at hy (by simp)]; rfl
    have b2:bk Y2 (y+1)=some ⟨56,false,[rv]⟩:=by rw[←hY2,bk_at hy (by simp)]; rfl
    have hone:one rv=true:=by rw[hrv]; rfl
    have hlr:(List.replicate k (List.replicate W Ce.sp)).length=k:=zF9
    have vs:=gr.at_.of (G:=Y2) mY2.next (fun q hq=>mY2.get q (gr.at_.ne q hq).2 (by simp))
    rw[hlr]at vs
    have hscr:scbL Y2.next (fr++[rv])=true:=scbL_append (scbL_mono mY2.next _ gr.sc) (by rw[hrv]; simp only[scbL,scb,Bool.and_true]; exact blt_of (by omega))
    obtain⟨Z,hap,hvs,hmd,hzn,_⟩:=vs_app (P:=Tryd.prog) (H:=Y2) (st:=22) (xt:=22) (e:=56) (sz:=1) (by1:=24) (z:=.slice none 0 0) (n:=y+1) (off:=0) (cnt2:=1) (cap:=1) (s:=some 0) (x:=Y2.next) (ws:=[rv]) (b:=⟨56,false,[rv]⟩)
     uRows szCells byCells zr rfl (by kernel_rfl) vs (rk_of b2) (by simp) rfl (by simp[hone]) (by decide) (smallC (by omega)) rfl hscr
    have mZ:=hmd (mY2.ok okY)
    rw[nY2]at hap hvs hzn
    have hbz:bk Z (y+2)=some ⟨56,true,fr++[rv]⟩:=by
     obtain⟨_,_,⟨h0,_⟩|⟨_,n,e,hbn,_⟩⟩:=hvs
     ·omega
     ·cases e; exact hbn
    have gr2:=gr.push (rv:=rv) (l:=List.replicate W Ce.sp) (Y:=Y2) (Z:=Z) mY2 (by omega) ⟨y+0,false,0,false,by rw[hrv,zF9]; rfl,b1,by omega,by omega⟩ (fun q hq=>by rw[hrv]at hq; simp only[idsV,zA4]at hq; omega) hone mZ (by rw[nY2]; exact hbz) (by omega)
    rw[nY2,hlr,show List.replicate k (List.replicate W Ce.sp)++[List.replicate W Ce.sp]=List.replicate (k+1) (List.replicate W Ce.sp) from (List.replicate_succ' ..).symm]at gr2
    simp (maxDischargeDepth:=6) only[g0,g6,g46,g47,hc,ruW,putL,Nat.reduceLeDiff,xF,ruU,entryE,Nat.reduceLT,Nat.reduceAdd,Nat.reduceMul,Nat.reduceEqDiff]
    refine hwY.to ?_
    simp (maxDischargeDepth:=6) only[g0,g6,g46,g47,hy,ruW,putL,Nat.reduceLeDiff,xF,ruU,entryE,Nat.reduceLT,Nat.reduceAdd,Nat.reduceMul,Nat.reduceEqDiff]
    refine (blank39_c (ext Y []) W ok.w1 ok.w2).to ?_
    simp (maxDischargeDepth:=6) only[hy,hyb,ruW,putL,Nat.reduceLeDiff,xF,ruU,entryE,Nat.reduceLT,Nat.reduceAdd,Nat.reduceMul,Nat.reduceEqDiff]
    rw[hrv]at hY2
    rw[hY2]
    simp (maxDischargeDepth:=6) only[hap,g47,wrap_succ (show k<1000000 by omega),ruW,putL,Nat.reduceLeDiff,xF,ruU,entryE,Nat.reduceLT,Nat.reduceAdd,Nat.reduceMul,Nat.reduceEqDiff]
    refine loopC_next ⟨(k+1,.slice (some ⟨y+2,0,none⟩) (k+1) (k+1),fr++[rv]),by simp only; omega,(mY.trans mY2).step mZ okX (fun q hq=>.inr (by have:=(gr.apart q hq).1; omega)),?_,?_,?_,?_,?_,?_,by simp only; omega,gr2⟩
    ·simp only[g0,ruU,entryE,Nat.reduceLT,Nat.reduceAdd,Nat.reduceMul,Nat.reduceEqDiff]
    ·simp only[g2,ruU,entryE,Nat.reduceLT,Nat.reduceAdd,Nat.reduceMul,Nat.reduceEqDiff]
    ·simp only[g4,ruU,entryE,Nat.reduceLT,Nat.reduceAdd,Nat.reduceMul,Nat.reduceEqDiff]
    ·simp only[ruU,entryE,Nat.reduceLT,Nat.reduceAdd,Nat.reduceMul,Nat.reduceEqDiff]
    ·simp only[g46,ruU,entryE,Nat.reduceLT,Nat.reduceAdd,Nat.reduceMul,Nat.reduceEqDiff]
    ·simp only[ruU,entryE,Nat.reduceLT,Nat.reduceAdd,Nat.reduceMul,Nat.reduceEqDiff]
  ·clear g0 g2 g4 g6 g46 g47
   rintro E Y ⟨mY,g0,g2,g4,u,fr,g6,gr⟩
   have okY:=mY.ok okX
   have aY:=aX.mod0 mY
   obtain⟨y,hy⟩:∃ y,Y.next=y:=⟨_,rfl⟩
   have hyb:Y.base≤y:=hy▸okY
   have hby:b+1≤y:=by have:=mY.next; omega
   have hpY:p<y:=by omega
   have hboY:b+0<y:=by omega
   have hb0Y:b0<y:=by omega
   have kp:=aY.cell
   simp only[St.cells]at kp
   rw[ev]at kp
   have kb:bk Y (b+0)=some ⟨47,false,o.cells⟩:=(mY.bk (by omega) (by simp)).trans hXo
   have kb0:bk Y b0=some ⟨47,false,o.cells⟩:=(mY.bk (by omega) (by simp)).trans hXb
   obtain⟨om,hbm,hmy⟩:∃ om,bk Y mb=some ⟨56,om,rvs⟩∧mb<y:=by
    rcases aY.own.at_ with⟨h,_⟩|⟨m,s,c,om,e,h1,_,h2,_⟩
    ·rw[h]at i3; simp at i3; omega
    ·rw[ev]at e; cases e; exact⟨om,h1,by omega⟩
   have hmp:mb≠p:=fun e=>a.apart (zC7 _ (by rw[ev,e]; simp[idsV]))
   have hlr:rvs.length=x.grid.length:=a.own.len
   obtain⟨top,htop⟩:∃ k:Nat,o.row=k:=⟨o.row.toNat,by omega⟩
   obtain⟨bot,hbot⟩:∃ k:Nat,o.col=k:=⟨o.col.toNat,by omega⟩
   have hvone:rvs.all one=true:=zC9.2 fun rv hrv=>by
    obtain⟨i,hi⟩:=List.getElem?_of_mem hrv
    obtain⟨l,_,n,s,c,o',rfl,_⟩:=aY.own.lOf hi
    rfl
   have hvsc:scbL Y.next rvs=true:=scbL_iff.2 fun rv hrv=>by
    obtain⟨i,hi⟩:=List.getElem?_of_mem hrv
    obtain⟨l,_,n,s,c,o',rfl,_,_,h⟩:=aY.own.lOf hi
    exact blt_of h
   have hne:rvs≠[]:=fun e=>by rw[e]at hlr; simp at hlr; omega
   have PV:Part Y v rvs:=⟨some ⟨mb,0,none⟩,x.grid.length,by rw[ev,hlr],by rw[ev]; exact blt_of (show mb<Y.next by omega),.inr ⟨zC6 hlr,mb,0,none,_,rfl,.inl rfl,hbm,by omega,by simp,by simp⟩⟩
   obtain⟨uA,slA,PA,iA⟩:=PV.slice hne (x:=none) (y:=some (.int .i64 (top:Int))) (lo:=0) (hi:=top) rfl (by simp[bound]) (zB0 _) (by omega)
   obtain⟨uB,slB,PB,iB⟩:=PV.slice hne (x:=some (.int .i64 (top:Int))) (y:=some (.int .i64 ((bot+1:Nat):Int))) (lo:=top) (hi:=bot+1) (by simp[bound]) (by simp only[bound]; rw[if_pos (by omega)]; simp) (by omega) (by omega)
   obtain⟨uC,slC,PC,iC⟩:=PV.slice hne (x:=some (.int .i64 ((bot+1:Nat):Int))) (y:=none) (lo:=bot+1) (hi:=rvs.length) (by simp only[bound]; rw[if_pos (by omega)]; simp) rfl (by omega) (zA5 _)
   rw[zD1]at PA
   rw[zE4]at PC
   rw[show (rvs.take (bot+1)).drop top=part rvs top bot from rfl]at PB
   have hwb:IntKind.i64.wrap ((bot:Int)+1)=((bot+1:Nat):Int):=wrap_succ (by omega)
   rw[ev]at slA slB slC iA iB iC
   have iv:idsV (.slice (some ⟨mb,0,none⟩) x.grid.length x.grid.length)=[mb]:=rfl
   rw[iv]at iA iB iC
   have hgl:(List.replicate n (List.replicate W Ce.sp)).length=n:=zF9
   obtain⟨hu1,hu2,⟨hu0,_⟩|⟨hu0,nu,eu,kbu,hnu⟩⟩:=gr.at_
   ·omega
   rw[hgl]at eu hu1
   subst eu
   have PU:Part Y (.slice (some ⟨nu,0,none⟩) n n) fr:=⟨_,_,by rw[show fr.length=n by omega],blt_of hnu,.inr ⟨by omega,nu,0,none,_,rfl,.inl rfl,kbu,hnu,by simp,by simp⟩⟩
   have hplen:=part_len (g:=rvs) (top:=top) (bot:=bot) (by omega)
   rw[show Y=ext Y [] from rfl]
   refine w_drawB [(32,8),(32,22),(32,31),(33,32),(33,22),(37,5),(37,8),(37,14),(37,20),(37,22),(37,27),(37,31),(37,32),(37,33)] [] (by kernel_rfl) (by kernel_rfl) rfl fun ops anc hA hG=>?_
   simp only[all2_cons]at hA
   simp only[htop,hbot,Op.cells]at kb
   simp (maxDischargeDepth:=6) only[g0,g2,g4,g6,hy,hyb,hpY,hboY,kp,kb,wd_slice,hA,ruD,ruW,putL,Nat.reduceLeDiff,xF,ruU,entryE,Nat.reduceLT,Nat.reduceAdd,Nat.reduceMul,Nat.reduceEqDiff]
   have hF1:∀ q∈[mb],(ext Y []).get q≠none:=fun q hq=>by rw[zA4.1 hq]; exact bk_ne hbm
   refine genV_sl (v:=uA) [mb] rfl rfl rfl rfl (zA7 rfl) hF1 (fun G hG=>by simp only[bnds_none,bnds_some,ruU,entryE,Nat.reduceLT,Nat.reduceAdd,Nat.reduceMul,Nat.reduceEqDiff]; exact slA G (fun q hq=>hG q hq)) (by simp[Meets]) ?_
   simp (maxDischargeDepth:=6) only[g0,g2,g4,g6,hy,hyb,hpY,hboY,kp,kb,hwb,wd_slice,hA,ruD,ruW,putL,Nat.reduceLeDiff,xF,ruU,entryE,Nat.reduceLT,Nat.reduceAdd,Nat.reduceMul,Nat.reduceEqDiff]
   refine genV_sl (v:=uB) [mb] rfl rfl rfl rfl (zA7 rfl) hF1 (fun G hG=>by simp only[bnds_none,bnds_some,ruU,entryE,Nat.reduceLT,Nat.reduceAdd,Nat.reduceMul,Nat.reduceEqDiff]; exact slB G (fun q hq=>hG q hq)) (by simp[Meets]) ?_
   simp (maxDischargeDepth:=6) only[g0,g2,g4,g6,hy,hyb,hpY,hboY,kp,kb,hwb,wd_slice,hA,ruD,ruW,putL,Nat.reduceLeDiff,xF,ruU,entryE,Nat.reduceLT,Nat.reduceAdd,Nat.reduceMul,Nat.reduceEqDiff]
   have hfr1:fr.all one=true:=hu2
   have hF2:∀ q∈[mb,nu,b0],(ext Y []).get q≠none:=fun q hq=>by
    simp only[zB3,List.not_mem_nil,or_false]at hq
    rcases hq with rfl|rfl|rfl
    ·exact bk_ne hbm
    ·exact bk_ne kbu
    ·exact bk_ne kb0
   obtain⟨lb,hlb⟩:∃ lb,(part rvs top bot).length=lb:=⟨_,rfl⟩
   refine genV_extV (f:=f) (v:=.slice (some ⟨y,0,none⟩) lb lb) (M:=[⟨56,true,mid up (part rvs top bot) fr n⟩]) (ca:=[.pointer (some ⟨b0,0,none⟩)]) [mb,nu,b0] rfl (by simp only[ruU,entryE,Nat.reduceLT,Nat.reduceAdd,Nat.reduceMul,Nat.reduceEqDiff]) rfl hb (zA7 rfl) hF2 (fun G hn hG=>?_) (by simp[Meets]) ?_
   ·replace hn:G.next=Y.next:=hn
    have:=hf G uB (.slice (some ⟨nu,0,none⟩) n n) (part rvs top bot) fr (PB.of (by omega) fun q hq=>hG q (by have:=iB q hq; simp only[zA4]at this; simp[this])) (PU.of (by omega) fun q hq=>hG q (by simp only[idsV,zA4]at hq; simp[hq])) (one_sub hvone fun z hz=>zD4 (zD5 hz)) hfr1 (by rw[hn]; exact scbL_sub hvsc fun z hz=>zD4 (zD5 hz)) (by rw[hn]; exact gr.sc) ((bk_get (hG b0 (by simp))).trans kb0) (by omega) n hn' (by omega) (by omega) (by omega) (by omega)
    rw[hlb,hn,hy]at this
    simp only[ruU,entryE,Nat.reduceLT,Nat.reduceAdd,Nat.reduceMul,Nat.reduceEqDiff]
    exact this
   simp (maxDischargeDepth:=6) only[g0,g2,g4,g6,hy,hyb,hpY,hboY,kp,kb,hwb,wd_slice,hA,ruD,ruW,putL,Nat.reduceLeDiff,xF,ruU,entryE,Nat.reduceLT,Nat.reduceAdd,Nat.reduceMul,Nat.reduceEqDiff]
   refine⟨.inr (fun q hq=>by simp only[idsV,zA4]at hq; omega),?_⟩
   have hmb1:(ext Y [⟨56,true,mid up (part rvs top bot) fr n⟩]).get mb=Y.get mb:=ext_get_old (by omega)
   have hF3:∀ q∈[mb],(ext Y [⟨56,true,mid up (part rvs top bot) fr n⟩]).get q≠none:=fun q hq=>by rw[zA4.1 hq,hmb1]; exact bk_ne hbm
   refine genV_sl (v:=uC) [mb] rfl rfl rfl rfl (zA7 rfl) hF3 (fun G hG=>by simp only[bnds_none,bnds_some,ruU,entryE,Nat.reduceLT,Nat.reduceAdd,Nat.reduceMul,Nat.reduceEqDiff]; exact slC G (fun q hq=>by rw[hG q hq,zA4.1 hq,hmb1])) ?_ ?_
   ·simp only[meets_cons,meets_eq,meets_newer,meets_nil,nmem_one,nmem_nil,nmem_cons,and_true,implies_true,or_true,zA4,List.flatMap_nil,zC5]
    refine⟨.inr (by simp),.inr (by simp),.inr ⟨by simp,trivial,fun _=>⟨fun q hq=>.inl (by omega),fun q hq=>.inl (by have:=iC q hq; simp only[zA4]at this; omega)⟩⟩,?_⟩
    simp[Meets]
   obtain⟨aA,cA,eA⟩:=PA.len
   obtain⟨aC,cC,eC⟩:=PC.len
   have scA:=PA.sc
   have scC:=PC.sc
   rw[hy]at scA scC
   have iA':=iA
   have iC':=iC
   rw[eA]at scA iA'
   rw[eC]at scC iC'
   have hy01:y<y+1:=zD2 y
   simp (maxDischargeDepth:=6) only[g0,g2,g4,g6,hy,hyb,hpY,hboY,kp,kb,hwb,wd_slice,eA,eC,scA,scC,hy01,hA,ruD,ruW,putL,Nat.reduceLeDiff,xF,ruU,entryE,Nat.reduceLT,Nat.reduceAdd,Nat.reduceMul,Nat.reduceEqDiff]
   rw[←eA,←eC]
   have hmidl:(mid up (part rvs top bot) fr n).length=lb:=by rw[mid_len (by omega) (by omega),hlb]
   have hgln:(glue up rvs fr top bot n).length=x.grid.length:=by rw[glue_len (by omega) (by omega) (by omega) (by omega),hlr]
   obtain⟨Y3,hY3⟩:∃ Y3,ext Y [⟨56,true,mid up (part rvs top bot) fr n⟩,⟨22,false,[uA,.slice (some ⟨y,0,none⟩) lb lb,uC]⟩]=Y3:=⟨_,rfl⟩
   have mY3:Mod [] Y Y3:=hY3▸Mod.ext okY
   have nY3:Y3.next=y+2:=by rw[←hY3,ext_next,hy]; rfl
   have q0:bk Y3 (y+0)=some ⟨56,true,mid up (part rvs top bot) fr n⟩:=by rw[←hY3,bk_at hy (by simp)]; rfl
   have q1:bk Y3 (y+1)=some ⟨22,false,[uA,.slice (some ⟨y,0,none⟩) lb lb,uC]⟩:=by rw[←hY3,bk_at hy (by simp)]; rfl
   have qm:Y3.get mb=Y.get mb:=mY3.get mb (by omega) (by simp)
   rw[hY3]
   have hF4:∀ q∈[y+1,mb,y+0],Y3.get q≠none:=fun q hq=>by
    simp only[zB3,List.not_mem_nil,or_false]at hq
    rcases hq with rfl|rfl|rfl
    ·exact bk_ne q1
    ·rw[qm]; exact bk_ne hbm
    ·exact bk_ne q0
   have hmone:(mid up (part rvs top bot) fr n).all one=true:=zC9.2 fun z hz=>by
    rcases mid_mem hz with h|h
    ·exact zC9.1 hvone z (zD4 (zD5 h))
    ·exact zC9.1 hfr1 z h
   have hmsc:scbL Y.next (mid up (part rvs top bot) fr n)=true:=scbL_iff.2 fun z hz=>by
    rcases mid_mem hz with h|h
    ·exact scbL_iff.1 hvsc z (zD4 (zD5 h))
    ·exact scbL_iff.1 gr.sc z h
   refine genV_ext (H:=Y3) (v:=.slice (some ⟨y+2,0,none⟩) x.grid.length x.grid.length) (M:=[⟨56,true,glue up rvs fr top bot n⟩]) [y+1,mb,y+0] rfl (by kernel_rfl) (zA7 rfl) hF4 (fun G hn hG=>?_) ?_ ?_
   ·have hGn:G.next=y+2:=by rw[hn,nY3]
    have hP:∀ z∈[(uA,rvs.take top),(Value.slice (some ⟨y,0,none⟩) lb lb,mid up (part rvs top bot) fr n),(uC,rvs.drop (bot+1))],Part G z.1 z.2∧z.2.all one=true∧scbL G.next z.2=true:=fun z hz=>by
     have hle:Y.next≤G.next:=by omega
     simp only[zB3,List.not_mem_nil,or_false]at hz
     rcases hz with rfl|rfl|rfl
     ·exact⟨PA.of hle fun q hq=>by have:=iA q hq; simp only[zA4]at this; rw[hG q (by simp[this]),this,qm],one_sub hvone fun z hz=>zD4 hz,scbL_mono hle _ (scbL_sub hvsc fun z hz=>zD4 hz)⟩
     ·refine⟨⟨some ⟨y,0,none⟩,lb,by rw[hmidl],blt_of (show y<G.next by omega),.inr ⟨zC6 hmidl,y,0,none,_,rfl,.inl rfl,(bk_get (hG (y+0) (by simp))).trans q0,by omega,by simp,by simp⟩⟩,hmone,scbL_mono hle _ hmsc⟩
     ·exact⟨PC.of hle fun q hq=>by have:=iC q hq; simp only[zA4]at this; rw[hG q (by simp[this]),this,qm],one_sub hvone fun z hz=>zD5 hz,scbL_mono hle _ (scbL_sub hvsc fun z hz=>zD5 hz)⟩
    have:=concat_c G (y+1) (some 0) 3 22 false [(uA,rvs.take top),(Value.slice (some ⟨y,0,none⟩) lb lb,mid up (part rvs top bot) fr n),(uC,rvs.drop (bot+1))] x.grid.length ((bk_get (hG (y+1) (by simp))).trans q1) (by omega) hP (by simp only[zF7,List.flatMap_nil,zC5]; rw[←zF6]; exact hgln) (by omega) (by omega) (by simp)
    rw[hGn]at this
    simp only[zF7,List.flatMap_nil,zC5]at this
    rw[←zF6]at this
    simp only[ruU,entryE,Nat.reduceLT,Nat.reduceAdd,Nat.reduceMul,Nat.reduceEqDiff]
    exact this
   ·simp only[meets_cons,meets_eq,meets_newer,hA,true_or,true_and]
    simp
   have mpY3:bk Y3 p=_:=(mY3.bk (by omega) (by simp)).trans kp
   have hp3:p<y+2:=by omega
   have hlt2:y+2<y+3:=zD2 _
   simp (maxDischargeDepth:=6) only[g0,nY3,mpY3,hp3,hlt2,hA,ruD,ruW,putL,Nat.reduceLeDiff,xF,ruU,entryE,Nat.reduceLT,Nat.reduceAdd,Nat.reduceMul,Nat.reduceEqDiff]
   refine⟨⟨.inr (.inl (by omega)),.inr (.inl (by omega))⟩,⟨.inr (.inl (by omega)),.inr (.inl (by omega))⟩,⟨.inr (.inl (by omega)),.inr (.inl (by omega))⟩,by omega,⟨.inr (by omega),.inr (by omega),.inr (by omega),.inr (by omega)⟩,?_⟩
   simp (maxDischargeDepth:=6) only[Tryd.results107,ruW,putL,Nat.reduceLeDiff,xF,ruU,entryE,Nat.reduceLT,Nat.reduceAdd,Nat.reduceMul,Nat.reduceEqDiff]
   have okY3:=mY3.ok okY
   have mZ1:Mod [] Y (ext Y3 [⟨56,true,glue up rvs fr top bot n⟩]):=mY3.trans (Mod.ext okY3)
   have kz1:bk (ext Y3 [⟨56,true,glue up rvs fr top bot n⟩]) (y+2)=some ⟨56,true,glue up rvs fr top bot n⟩:=by
    rw[show y+2=y+2+0 from rfl,bk_at nY3 (by simp)]; rfl
   have nz1:(ext Y3 [⟨56,true,glue up rvs fr top bot n⟩]).next=y+3:=by rw[ext_next,nY3]; rfl
   have og:=aX.own.glue (gr:=hXn.symm▸gr) (m:=mY) (m2:=mZ1.mono (by simp)) (N:=N) (up:=up) (top:=top) (bot:=bot) (n:=n) (y:=y+2) (by have:=a.lo; omega) (by omega) (by omega) (by omega) hgl kz1 (by omega) (by omega)
   have mW:Mod [p] Y3 (ext (uw Y3 p 0 [Value.slice (some ⟨y+2,0,none⟩) x.grid.length x.grid.length]) [⟨56,true,glue up rvs fr top bot n⟩]):=by
    have m1:Mod [p] Y3 (uw Y3 p 0 [Value.slice (some ⟨y+2,0,none⟩) x.grid.length x.grid.length]):=Mod.uw (by simp)
    exact m1.trans (Mod.ext (m1.ok okY3))
   have kz:bk (ext (uw Y3 p 0 [Value.slice (some ⟨y+2,0,none⟩) x.grid.length x.grid.length]) [⟨56,true,glue up rvs fr top bot n⟩]) (y+2)=some ⟨56,true,glue up rvs fr top bot n⟩:=by
    rw[show y+2=y+2+0 from rfl,bk_at (by rw[uw_next,nY3]) (by simp)]; rfl
   have kzp:bk (ext (uw Y3 p 0 [Value.slice (some ⟨y+2,0,none⟩) x.grid.length x.grid.length]) [⟨56,true,glue up rvs fr top bot n⟩]) p=some ⟨76,false,St.cells {x with grid:=glue up x.grid (List.replicate n (List.replicate W Ce.sp)) top bot n} (.slice (some ⟨y+2,0,none⟩) x.grid.length x.grid.length)⟩:=by
    rw[bk_old (by rw[uw_next]; omega),bk_uw_eq,mpY3]; rfl
   have nz:(ext (uw Y3 p 0 [Value.slice (some ⟨y+2,0,none⟩) x.grid.length x.grid.length]) [⟨56,true,glue up rvs fr top bot n⟩]).next=y+3:=by rw[ext_next,uw_next,nY3]; rfl
   generalize ext (uw Y3 p 0 [Value.slice (some ⟨y+2,0,none⟩) x.grid.length x.grid.length]) [⟨56,true,glue up rvs fr top bot n⟩]=Z at mW kz kzp nz ⊢
   have hids:∀ q∈(glue up rvs fr top bot n).flatMap idsV,q≠p∧q<y:=fun q hq=>by
    obtain⟨rv,h4,h5⟩:=zE1.1 hq
    rcases glue_mem h4 with h6|h6
    ·have h7:=zE1.2 ⟨rv,h6,h5⟩
     have:=(aY.own.ids q h7).2.1
     exact⟨fun e=>a.apart (zD0 _ (e▸h7)),by omega⟩
    ·have h7:=gr.ids q (zE1.2 ⟨rv,h6,h5⟩)
     exact⟨by omega,by omega⟩
   rw[htop,hbot,hn',Int.toNat_natCast,Int.toNat_natCast,Int.toNat_natCast,glue_roll]
   refine⟨(ModN.of (Ws:=[]) ((m0.trans mY).trans mY3) (by simp)).trans (ModN.of mW (aY.mod0 mY3).pN),rfl,.slice (some ⟨y+2,0,none⟩) x.grid.length x.grid.length,glue up rvs fr top bot n,⟨_,_,rfl⟩,kzp,?_,?_,by omega,a.lo⟩
   ·have hgg:(glue up x.grid (List.replicate n (List.replicate W Ce.sp)) top bot n).length=x.grid.length:=glue_len (by omega) (by omega) (by omega) hgl
    refine⟨og.len,.inr ⟨y+2,none,x.grid.length,true,by rw[hgg],kz,by have:=a.lo; omega,by omega,fun h=>by have:=(hids _ h).2; omega⟩,fun i rv l h4 h5=>?_,og.nd⟩
    have h6:=og.row i rv l h4 h5
    refine h6.of (by omega) fun q hq=>?_
    have h7:=hids q (zE1.2 ⟨rv,zB9 h4,hq⟩)
    rw[mW.get q (by omega) (by simpa using h7.1),ext_get_old (by omega)]
   ·intro h
    rcases zB1.1 h with h|h
    ·simp only[idsV,zA4]at h; omega
    ·exact (hids p h).1 rfl
 ·rw[if_neg hall]
  rw[ev]at hcell
  have fin:StepR 76 N p none H (.error [refusedP]) (ext H [⟨47,false,o.cells⟩]):=⟨ModN.of (Ws:=[]) m0 (by simp),rfl⟩
  have hs:d1=false∨(d1=true∧d2=false)∨(d1=true∧d2=true∧d3=false)∨(d1=true∧d2=true∧d3=true∧d4=false)∨(d1=true∧d2=true∧d3=true∧d4=true∧d5=false):=by
   cases d1<;>cases d2<;>cases d3<;>cases d4<;>cases d5<;>simp_all
  have hh:=ok.h2
  rcases hs with rfl|⟨rfl,rfl⟩|⟨rfl,rfl,rfl⟩|⟨rfl,rfl,rfl,rfl⟩|⟨rfl,rfl,rfl,rfl,rfl⟩
  ·refine w_drawP [] [(3,10),(10,17),(21,28),(26,33)] (by kernel_rfl) (by kernel_rfl) rfl (by kernel_rfl) (fun ops anc hA hG=>?_) (by simp) ⟨rfl,rfl⟩
   simp only[all2_cons]at hG
   simp (maxDischargeDepth:=6) only[dropLast_more,dropLast_one,hbn,hpl,hcell,h1,hG,ruD,ruW,putL,Nat.reduceLeDiff,xF,ruU,entryE,Nat.reduceLT,Nat.reduceAdd,Nat.reduceMul,Nat.reduceEqDiff]
   simp (maxDischargeDepth:=6) only[lastO_cons,lastO_one,isDef_call,ff_eq,true_and,ruW,putL,Nat.reduceLeDiff,xF,ruU,entryE,Nat.reduceLT,Nat.reduceAdd,Nat.reduceMul,Nat.reduceEqDiff]
   refine CallS.panics (needs_f _) ?_
   simp only[opC_error,seqC_panic,endA_panic,lv_panic]
   exact fin
  ·refine w_drawP [] [(3,10),(10,17),(21,28),(26,33)] (by kernel_rfl) (by kernel_rfl) rfl (by kernel_rfl) (fun ops anc hA hG=>?_) (by simp) ⟨rfl,rfl⟩
   simp only[all2_cons]at hG
   simp (maxDischargeDepth:=6) only[dropLast_more,dropLast_one,hbn,hpl,hcell,h1,h2,hG,ruD,ruW,putL,Nat.reduceLeDiff,xF,ruU,entryE,Nat.reduceLT,Nat.reduceAdd,Nat.reduceMul,Nat.reduceEqDiff]
   simp (maxDischargeDepth:=6) only[lastO_cons,lastO_one,isDef_call,ff_eq,true_and,ruW,putL,Nat.reduceLeDiff,xF,ruU,entryE,Nat.reduceLT,Nat.reduceAdd,Nat.reduceMul,Nat.reduceEqDiff]
   refine CallS.panics (needs_f _) ?_
   simp only[opC_error,seqC_panic,endA_panic,lv_panic]
   exact fin
  ·refine w_drawP [] [(3,10),(10,17),(21,28),(26,33)] (by kernel_rfl) (by kernel_rfl) rfl (by kernel_rfl) (fun ops anc hA hG=>?_) (by simp) ⟨rfl,rfl⟩
   simp only[all2_cons]at hG
   simp (maxDischargeDepth:=6) only[dropLast_more,dropLast_one,hbn,hpl,hcell,h1,h2,h3,hG,ruD,ruW,putL,Nat.reduceLeDiff,xF,ruU,entryE,Nat.reduceLT,Nat.reduceAdd,Nat.reduceMul,Nat.reduceEqDiff]
   simp (maxDischargeDepth:=6) only[lastO_cons,lastO_one,isDef_call,ff_eq,true_and,ruW,putL,Nat.reduceLeDiff,xF,ruU,entryE,Nat.reduceLT,Nat.reduceAdd,Nat.reduceMul,Nat.reduceEqDiff]
   refine CallS.panics (needs_f _) ?_
   simp only[opC_error,seqC_panic,endA_panic,lv_panic]
   exact fin
  ·refine w_drawP [] [(3,10),(10,17),(21,28),(26,33)] (by kernel_rfl) (by kernel_rfl) rfl (by kernel_rfl) (fun ops anc hA hG=>?_) (by simp) ⟨rfl,rfl⟩
   simp only[all2_cons]at hG
   simp (maxDischargeDepth:=6) only[dropLast_more,dropLast_one,hbn,hpl,hcell,h1,h2,h3,h4,hG,ruD,ruW,putL,Nat.reduceLeDiff,xF,ruU,entryE,Nat.reduceLT,Nat.reduceAdd,Nat.reduceMul,Nat.reduceEqDiff]
   simp (maxDischargeDepth:=6) only[lastO_cons,lastO_one,isDef_call,ff_eq,true_and,ruW,putL,Nat.reduceLeDiff,xF,ruU,entryE,Nat.reduceLT,Nat.reduceAdd,Nat.reduceMul,Nat.reduceEqDiff]
   refine CallS.panics (needs_f _) ?_
   simp only[opC_error,seqC_panic,endA_panic,lv_panic]
   exact fin
  ·have i1:=of_decide_eq_true h1
   have i2:=of_decide_eq_true h2
   have i3:=of_decide_eq_true h3
   have hw1:IntKind.i64.wrap (o.col-o.row)=o.col-o.row:=wrap_sm (by omega) (by omega)
   have hw2:IntKind.i64.wrap (o.col-o.row+1)=o.col-o.row+1:=wrap_sm (by omega) (by omega)
   refine w_drawP [] [(3,10),(10,17),(21,28),(26,33)] (by kernel_rfl) (by kernel_rfl) rfl (by kernel_rfl) (fun ops anc hA hG=>?_) (by simp) ⟨rfl,rfl⟩
   simp only[all2_cons]at hG
   simp (maxDischargeDepth:=6) only[dropLast_more,dropLast_one,hbn,hpl,hcell,h1,h2,h3,h4,h5,hw1,hw2,hG,ruD,ruW,putL,Nat.reduceLeDiff,xF,ruU,entryE,Nat.reduceLT,Nat.reduceAdd,Nat.reduceMul,Nat.reduceEqDiff]
   simp (maxDischargeDepth:=6) only[lastO_cons,lastO_one,isDef_call,ff_eq,true_and,ruW,putL,Nat.reduceLeDiff,xF,ruU,entryE,Nat.reduceLT,Nat.reduceAdd,Nat.reduceMul,Nat.reduceEqDiff]
   refine CallS.panics (needs_f _) ?_
   simp only[opC_error,seqC_panic,endA_panic,lv_panic]
   exact fin
theorem remove_c (N:Nat) (H:AHeap) (p W:Nat) (v:Value) (rvs:List Value) (x:St) (o:Op) (a:StAt 76 N H p v rvs x) (sl:Slc v) (hok:H.base≤H.next) (ok:x.Ok W) :
  CallA Tryd.prog 93 [.pointer (some ⟨p,0,none⟩),o.val] H (StepR 76 N p (x.roll W o true) H):=by
 obtain⟨b,hb⟩:∃ b,H.next=b:=⟨_,rfl⟩
 have m0:Mod [] H (ext H [⟨47,false,o.cells⟩]):=Mod.ext hok
 have aX:=a.mod0 m0
 have hld:bk (ext H [⟨47,false,o.cells⟩]) (b+0)=some ⟨47,false,o.cells⟩:=by rw[bk_at hb (by simp)]; rfl
 have key:=scrolls_c N (ext H [⟨47,false,o.cells⟩]) p W v rvs x o true 108 (b+0) (by kernel_rfl) aX sl (m0.ok hok) ok hld (by rw[ext_next,hb]; simp) (fun G u1 u2 L1 L2 P1 P2 q1 q2 s1 s2 hbk hbl k hk hk0 hk1 h2l hl=>remove1_c G u1 u2 L1 L2 (b+0) o P1 P2 q1 q2 s1 s2 hbk hbl k hk hk0 hk1 h2l hl)
 refine callE_fn mixed Tryd.func93 rfl Tryd.ntmps93 (zA7 rfl) ?_
 simp (maxDischargeDepth:=6) only[Op.val,Op.cells,hb,ruW,putL,Nat.reduceLeDiff,xF,ruU,entryE,Nat.reduceLT,Nat.reduceAdd,Nat.reduceMul,Nat.reduceEqDiff]
 refine key.mono ?_
 rintro out X ⟨mX,ho⟩
 have mX':=(ModN.of (Ws:=[]) (N:=N) m0 (by simp)).trans mX
 generalize x.roll W o true=r at ho ⊢
 cases r with
 |none =>
  obtain rfl:=ho
  simp only[opC_error,endA_panic,lv_panic]
  exact⟨mX',rfl⟩
 |some y =>
  obtain⟨rfl,v',rvs',s',a'⟩:=ho
  rw[show X=ext X [] from rfl]
  simp (maxDischargeDepth:=6) only[Tryd.results93,ruW,putL,Nat.reduceLeDiff,xF,ruU,entryE,Nat.reduceLT,Nat.reduceAdd,Nat.reduceMul,Nat.reduceEqDiff]
  exact⟨mX',rfl,v',rvs',s',a'⟩
theorem insert_c (N:Nat) (H:AHeap) (p W:Nat) (v:Value) (rvs:List Value) (x:St) (o:Op) (a:StAt 76 N H p v rvs x) (sl:Slc v) (hok:H.base≤H.next) (ok:x.Ok W) :
  CallA Tryd.prog 94 [.pointer (some ⟨p,0,none⟩),o.val] H (StepR 76 N p (x.roll W o false) H):=by
 obtain⟨b,hb⟩:∃ b,H.next=b:=⟨_,rfl⟩
 have m0:Mod [] H (ext H [⟨47,false,o.cells⟩]):=Mod.ext hok
 have aX:=a.mod0 m0
 have hld:bk (ext H [⟨47,false,o.cells⟩]) (b+0)=some ⟨47,false,o.cells⟩:=by rw[bk_at hb (by simp)]; rfl
 have key:=scrolls_c N (ext H [⟨47,false,o.cells⟩]) p W v rvs x o false 110 (b+0) (by kernel_rfl) aX sl (m0.ok hok) ok hld (by rw[ext_next,hb]; simp) (fun G u1 u2 L1 L2 P1 P2 q1 q2 s1 s2 hbk hbl k hk hk0 hk1 h2l hl=>insert1_c G u1 u2 L1 L2 (b+0) o P1 P2 q1 q2 s1 s2 hbk hbl k hk hk0 hk1 h2l hl)
 refine callE_fn mixed Tryd.func94 rfl Tryd.ntmps94 (zA7 rfl) ?_
 simp (maxDischargeDepth:=6) only[Op.val,Op.cells,hb,ruW,putL,Nat.reduceLeDiff,xF,ruU,entryE,Nat.reduceLT,Nat.reduceAdd,Nat.reduceMul,Nat.reduceEqDiff]
 refine key.mono ?_
 rintro out X ⟨mX,ho⟩
 have mX':=(ModN.of (Ws:=[]) (N:=N) m0 (by simp)).trans mX
 generalize x.roll W o false=r at ho ⊢
 cases r with
 |none =>
  obtain rfl:=ho
  simp only[opC_error,endA_panic,lv_panic]
  exact⟨mX',rfl⟩
 |some y =>
  obtain⟨rfl,v',rvs',s',a'⟩:=ho
  rw[show X=ext X [] from rfl]
  simp (maxDischargeDepth:=6) only[Tryd.results94,ruW,putL,Nat.reduceLeDiff,xF,ruU,entryE,Nat.reduceLT,Nat.reduceAdd,Nat.reduceMul,Nat.reduceEqDiff]
  exact⟨mX',rfl,v',rvs',s',a'⟩
def kindF:List FuncId:=[88,89,90,91,92,93,94,95,96]
def fnV (f:FuncId):Value:=.func (.func f) ⟨[]⟩ ⟨[]⟩
def kindsV:List Value:=kindF.map fnV
theorem kinds_c (H:AHeap):CallS Tryd.prog 69 [] H (.ok (.agg ⟨kindsV⟩)) H:=by
 obtain⟨b,hb⟩:∃ b,H.next=b:=⟨_,rfl⟩
 refine callS_fn mixed Tryd.func69 rfl Tryd.ntmps69 (zA7 rfl) fun wf hsc=>?_
 have hbd:aBuild Tryd.prog 102 [(0,.func (.func 88) #[] #[]),(1,.func (.func 89) #[] #[]),(2,.func (.func 90) #[] #[]),(3,.func (.func 91) #[] #[]),(4,.func (.func 92) #[] #[]),(5,.func (.func 93) #[] #[]),(6,.func (.func 94) #[] #[]),(7,.func (.func 95) #[] #[]),(8,.func (.func 96) #[] #[])]=some (.agg ⟨kindsV⟩):=by kernel_rfl
 have hst:∀ (M:Nat) (l:List Value),l.length=9→stB Tryd.prog 102 M 0 (.agg ⟨kindsV⟩) (some ⟨102,false,l⟩)=some ⟨102,false,kindsV⟩:=fun M l h=>by
  have hv:(Value.agg ⟨kindsV⟩).cells.toList=kindsV:=rfl
  rw[stB_ok (by rw[hv]; kernel_rfl) (by rw[hv,h]; decide) (by rw[hv]; rfl) (by rw[hv]; rfl),hv,putL_head _ _ (by rw[h]; decide),zE3 (by rw[h]; decide),zC5]
 have hcl:(Value.agg ⟨kindsV⟩).cells.toList=kindsV:=rfl
 have hps:putL ([.nilFunc,.nilFunc,.nilFunc,.nilFunc,.nilFunc,.nilFunc,.nilFunc,.nilFunc,.nilFunc]:List Value) 0 kindsV=kindsV:=rfl
 have hbb:H.base≤b:=hb▸wf.base
 have hld:ldB Tryd.prog 102 0 (some ⟨102,false,kindsV⟩)=some (.agg ⟨kindsV⟩):=by kernel_rfl
 simp (maxDischargeDepth:=6) only[hb,hbb,hbd,hst,hcl,hps,hld,Tryd.results69,ruW,putL,Nat.reduceLeDiff,xF,ruU,entryE,Nat.reduceLT,Nat.reduceAdd,Nat.reduceMul,Nat.reduceEqDiff]
 exact Fin.pure rfl
section
variable {N : Nat} {H : AHeap} {p W : Nat} {v : Value} {rvs : List Value} {x : St}
end
end Go.Proofs.YtaojjfebkldmnaaDoor
namespace Go.Ax
section
variable {P : Program} {rec : Rec} {H H1 g : AHeap} {a a1 : AAct} {u u1 : FrameMode}
theorem runSeq_ok {top:Bool} {ops:Array Oper} {o:Oper} {rest:List Oper} {v:Value} (hw:wantA ops a o=some true) (ho:opF P rec a H o=some (.ok v,g)):runSeq P rec top ops (o::rest) a H=runSeq P rec top ops rest (a.put o.dst v) g:=by simp only[runSeq,hw,ho]
theorem runS_seq {x y:Code} (h:runS P rec x a u H=some (.normal,a1,u1,H1)):runS P rec (.seq x y) a u H=runS P rec y a1 u1 H1:=by simp only[runS,h]
theorem runS_reg {id:Nat} {ops:Array Oper} {e:Exit} (hn:(ops.toList.any fun o=>isRec o.op)=false) (h:rec.run none (.region id ops false) a H=some (e,a1,H1)):runS P rec (.region id ops false) a u H=some (e,a1,u,H1):=by
 simp only[runS,hn,h,zA9]
theorem runS_rec {id:Nat} {ops:Array Oper} (hn:(ops.toList.any fun o=>isRec o.op)=true):runS P rec (.region id ops false) a u H=runOpsS P ops ops.toList a u H:=by
 simp only[runS,hn]
theorem opF_store {o:Oper} {t:TypeId} {x y:Operand} {p v:Value} (ho:o.op=.store t x y) (hx:aeval P a x=some p) (hy:aeval P a y=some v) (h:aStore P H t p v=some g):opF P rec a H o=some (.ok undef,g):=by
 simp only[opF,ho,aop,xStore,hx,hy,zA1,zA3,h,ruh,zA9,doN]
end
end Go.Ax
namespace Go.Proofs.YtaojjfebkldmnaaDoor
open Go.Ax
def rg0:AAct:=⟨{RV.ofList []with n:=16},[]⟩
theorem st99 (H:AHeap) (hok:H.base≤H.next):aStore Tryd.prog (H.new (Bl.obj ⟨99,false,[]⟩)) 99 (.pointer (some ⟨H.next,0,none⟩)) (.agg #[])=some (ext H [⟨99,false,[]⟩]):=by
 have h:=store_new (P:=Tryd.prog) (H:=H) (L:=[⟨99,false,[]⟩]) (b:=H.next) (i:=0) (off:=0) (t:=99) (v:=.agg #[]) rfl hok (by decide)
 have hs:stB Tryd.prog 99 (H.next+1) 0 (.agg #[]) (some ⟨99,false,[]⟩)=some ⟨99,false,[]⟩:=by
  rw[stB_ok (v:=.agg #[]) (by kernel_rfl) (by decide) rfl rfl]
  rfl
 simp only[zF8,zF4,hs,zA9,List.set_cons_zero,zD3]at h
 exact h
theorem exec1_ret (H:AHeap) (hok:H.base≤H.next):enterD Tryd.prog (recX Tryd.prog) 68 [] .returning H=some (.ok (.tuple ⟨[]⟩),.returning,ext H [⟨99,false,[]⟩]):=by
 have hr:∃ e1,runS Tryd.prog (recX Tryd.prog) (Tryd.f68.body.getD .skip) rg0 .returning H=some (.normal,⟨e1,[]⟩,.returning,ext H [⟨99,false,[]⟩]):=by
  show ∃ e1,runS Tryd.prog (recX Tryd.prog) (.seq _ (.seq _ (.seq _ _))) rg0 .returning H=_
  apply Exists.intro
  refine (runS_seq ((runS_rec rfl).trans rfl)).trans ?_
  refine (runS_seq (runS_reg rfl (Eq.trans (show (recX Tryd.prog).run none _ _ H=runSeq Tryd.prog (exec Tryd.prog (fun _ _ _=>none) 59) true _ _ _ H from rfl) ((runSeq_ok rfl rfl).trans ((runSeq_ok rfl rfl).trans ((runSeq_ok rfl rfl).trans ((runSeq_ok rfl rfl).trans ((runSeq_ok rfl rfl).trans ((runSeq_ok rfl rfl).trans ((runSeq_ok rfl (opF_store rfl rfl rfl (st99 H hok))).trans ((runSeq_ok rfl rfl).trans rfl))))))))))).trans ?_
  refine (runS_seq (runS_reg rfl rfl)).trans ?_
  rfl
 obtain⟨e1,hr⟩:=hr
 have hb:Tryd.f68.body=some (Tryd.f68.body.getD .skip):=rfl
 simp only[enterD,Tryd.func68,zA1,zA3]
 rw[hb,zA3]
 show (runS Tryd.prog (recX Tryd.prog) (Tryd.f68.body.getD .skip) rg0 _ H).bind _=_
 rw[hr]
 rfl
theorem exec1_pan (H:AHeap) (hok:H.base≤H.next):enterD Tryd.prog (recX Tryd.prog) 68 [] (.panicking [refusedP]) H=some (.ok (.tuple ⟨[]⟩),.panicking [{refusedP with recovered:=true}],ext H [⟨99,false,[]⟩]):=by
 have hr:∃ e1,runS Tryd.prog (recX Tryd.prog) (Tryd.f68.body.getD .skip) rg0 (.panicking [refusedP]) H=some (.normal,⟨e1,[]⟩,.panicking [{refusedP with recovered:=true}],ext H [⟨99,false,[]⟩]):=by
  show ∃ e1,runS Tryd.prog (recX Tryd.prog) (.seq _ (.seq _ (.seq _ _))) rg0 (.panicking [refusedP]) H=_
  apply Exists.intro
  refine (runS_seq ((runS_rec rfl).trans rfl)).trans ?_
  refine (runS_seq (runS_reg rfl (Eq.trans (show (recX Tryd.prog).run none _ _ H=runSeq Tryd.prog (exec Tryd.prog (fun _ _ _=>none) 59) true _ _ _ H from rfl) ((runSeq_ok rfl rfl).trans ((runSeq_ok rfl rfl).trans ((runSeq_ok rfl rfl).trans ((runSeq_ok rfl rfl).trans ((runSeq_ok rfl rfl).trans ((runSeq_ok rfl rfl).trans ((runSeq_ok rfl (opF_store rfl rfl rfl (st99 H hok))).trans ((runSeq_ok rfl rfl).trans rfl))))))))))).trans ?_
  refine (runS_seq (runS_reg rfl rfl)).trans ?_
  rfl
 obtain⟨e1,hr⟩:=hr
 have hb:Tryd.f68.body=some (Tryd.f68.body.getD .skip):=rfl
 simp only[enterD,Tryd.func68,zA1,zA3]
 rw[hb,zA3]
 show (runS Tryd.prog (recX Tryd.prog) (Tryd.f68.body.getD .skip) rg0 _ H).bind _=_
 rw[hr]
 rfl
theorem settle_pan:settle (.panicking [{refusedP with recovered:=true}])=.returning:=by rfl
theorem vs_appP {H:AHeap} {v u:Value} {vs L:List Value} {cnt:Nat} (h:VsAt H 56 1 v vs cnt) (hp:Part H u L) (hok:H.base≤H.next) (h1:L.all one=true) (hs:scbL H.next L=true) (hs0:scbL H.next vs=true) (hl:cnt+L.length≤10000) :
  ∃ v' G,aBuiltin Tryd.prog H .append ⟨[22,22]⟩ [v,u]=some (v',G)∧VsAt G 56 1 v' (vs++L) (cnt+L.length)∧Mod (idsV v) H G∧∀ n∈idsV v',n∈idsV v∨H.next≤n:=by
 by_cases hL:L=[]
 ·subst hL
  have hle:=hp.lenV
  have hfi:=hp.first
  rw[zB8]at hle hfi
  rw[zC5,zB8,zD3]
  obtain⟨q1,q2,⟨rfl,rfl⟩|⟨h0,n,rfl,hb,hlt⟩⟩:=id h
  ·exact⟨_,H,app_nn (P:=Tryd.prog) (st:=22) (xt:=22) uRows szCells byCells zr rfl (by kernel_rfl) hle hfi,h,Mod.refl,fun n hn=>.inl hn⟩
  ·have hw:=write_old (H:=H) (L:=[]) (n:=n) (off:=0+cnt*1) (vs:=[]) hlt hb (by simp only[zB8]; omega) rfl rfl
   have ha:=app_in (P:=Tryd.prog) (H:=H) (st:=22) (xt:=22) (m:=n) (off:=0) (k:=cnt) (cap:=cnt) (sp:=none) uRows szCells byCells zr rfl (by kernel_rfl) hle hfi rfl (by omega) (smallC (by omega))
   rw[show aWrite H n (0+cnt*1) []=aWrite (ext H []) n (0+cnt*1) [] from rfl,hw,zA9]at ha
   refine⟨_,_,ha,?_,Mod.uw (by simp[idsV]),fun q hq=>.inl hq⟩
   refine⟨q1,q2,.inr ⟨h0,n,rfl,?_,by rw[ext_next,uw_next]; simpa using hlt⟩⟩
   show bk (uw H n (0+cnt*1) []) n=_
   rw[bk_uw_eq,hb]
   simp[putB,putL_nl]
 ·obtain⟨a,c,rfl,hsu,rfl|⟨hc,n,off,s,b,rfl,e1,e2,e3,e4,e5⟩⟩:=id hp
  ·exact absurd rfl hL
  have hpos:0<L.length:=List.length_pos_iff.2 hL
  obtain⟨G,ga,gb,gc,gd,ge⟩:=vs_app (P:=Tryd.prog) (H:=H) (st:=22) (xt:=22) (e:=56) (sz:=1) (by1:=24) (z:=nilS) (n:=n) (off:=off) (cnt2:=L.length) (cap:=c) (s:=s) (x:=H.next) (ws:=L) (b:=b)
   uRows szCells byCells zr rfl (by kernel_rfl) h (rk_of e2) (by omega) (by rw[Nat.mul_one]; exact e5) h1 hpos (smallC (by omega)) rfl (scbL_append hs0 hs)
  exact⟨_,G,ga,gb,gc hok,fun q hq=>.inr (by simp only[idsV,zA4]at hq; omega)⟩
section
variable {Z : AHeap} {N : Nat} {E : Env} {ds : List Deferred} {ops : Array Oper} {anc : List Nat} {ty : TypeId} {pos : String} {after : Array Edge} {rest : List Oper} {i d : Nat} {fps : List Fp} {Q : AAct → AHeap → Prop} {v u : Value} {vs L : List Value} {cnt : Nat}
theorem genV_append {args:List Operand} (h:VsAt Z 56 1 v vs cnt) (hp:Part Z u L) (hnu:∀ n∈idsV u,n<Z.next∧Z.get n≠none) (hok:Z.base≤Z.next) (h1:L.all one=true) (hs:scbL Z.next L=true) (hs0:scbL Z.next vs=true) (hl:cnt+L.length≤10000)
  (hd:d<N) (ha:args.all (opOk Tryd.prog N)=true) (hv:args.map (opv E)=[v,u]) (hm:∀ r∈fps,(anc.getD i 0).testBit r.i=true)
  (hk:∀ v' Z' D,Mod (idsV v) Z Z'→VsAt Z' 56 1 v' (vs++L) (cnt+L.length)→(∀ n∈idsV v',n∈idsV v∨Z.next≤n)→(∀ n∈D,n∈idsV v)→wkD Tryd.prog ops anc rest (i+1) (⟨i,idsV v++idsV u,D,Z.next,Z'.next⟩::fps) (mkA N (upd E d v') ds) Z' Q) :
  genV Tryd.prog ops anc ⟨some d,.call ⟨.builtin .append,⟨args⟩,⟨[22,22]⟩⟩,ty,pos,after,none⟩ rest i fps (mkA N E ds) Z Q:=by
 have hrn:=restrict_next Z (idsV v++idsV u)
 have hg:∀ n,n∈idsV v++idsV u→(Z.restrict (idsV v++idsV u)).get n=Z.get n:=fun n hn=>by rw[restrict_get,if_pos hn]
 obtain⟨v',G,ga,gb,gc,gd⟩:=vs_appP (h.of (G:=Z.restrict (idsV v++idsV u)) (by rw[hrn.1]; exact zA5 _) fun n hn=>hg n (zC7 _ hn)) (hp.of (by rw[hrn.1]; exact zA5 _) fun n hn=>hg n (zD0 _ hn)) (by rw[hrn.1,hrn.2.1]; exact zA5 _) h1 (by rw[hrn.1]; exact hs) (by rw[hrn.1]; exact hs0) hl
 rw[hrn.1]at gd
 refine genV_modO (W:=idsV v) (idsV v++idsV u) hok (fun n hn=>?_) (fun n hn=>?_) (fun n hn=>zC7 _ hn) (app_op (v:=v') (G:=G) ha (by rw[hv]; exact ga)) gc (fun r hr=>.inl (hm r hr)) ?_
 ·rcases zB1.1 hn with hn|hn
  ·exact (h.ne n hn).1
  ·exact (hnu n hn).2
 ·rcases zB1.1 hn with hn|hn
  ·exact (h.ne n hn).2
  ·exact (hnu n hn).1
 intro Z' D m1 m2 m3 m4 m5
 have gl:=gc.next
 rw[hrn.1]at gl
 have hv':VsAt Z' 56 1 v' (vs++L) (cnt+L.length):=gb.of (by omega) fun n hn=>by
  rcases gd n hn with h5|h5
  ·exact m2 n (zC7 _ h5)
  ·exact m3 n h5 (gb.ne n hn).2
 have:=hk v' Z' D m1 hv' gd m5
 rw[m4]at this
 rw[put_some N E ds d v' hd]
 exact this
end
def RefR (T:TypeId) (N p:Nat) (r:Option St) (H:AHeap) (out:Out) (X:AHeap):Prop :=
 ModN N H X∧out=.ok (.bool r.isSome)∧∀ y,r=some y→∃ v rvs,Slc v∧StAt T N X p v rvs y
theorem blanks47_c (H:AHeap) (n:Nat) (hn:n≤1000) (hok:H.base≤H.next):CallA Tryd.prog 47 [.int .i64 (n:Int)] H (fun out X=>∃ u,out=.ok u∧VsAt X 55 6 u (csOf (List.replicate n Ce.sp)) n∧Mod [] H X∧∀ q∈idsV u,H.next≤q):=by
 refine callE_fn mixed Tryd.func47 rfl Tryd.ntmps47 (zA7 rfl) ?_
 simp (maxDischargeDepth:=6) only[ruW,putL,Nat.reduceLeDiff,xF,ruU,entryE,Nat.reduceLT,Nat.reduceAdd,Nat.reduceMul,Nat.reduceEqDiff]
 refine w_env fun E hE=>?_
 have g0:E 0=.int .i64 (n:Int):=by rw[hE]; simp only[ruU,entryE,Nat.reduceLT,Nat.reduceAdd,Nat.reduceMul,Nat.reduceEqDiff]
 have g3:E 3=.slice none 0 0:=by rw[hE]; simp only[ruU,entryE,Nat.reduceLT,Nat.reduceAdd,Nat.reduceMul,Nat.reduceEqDiff]
 have g4:E 4=.int .i64 ((0:Nat):Int):=by rw[hE]; (simp only[ruU,entryE,Nat.reduceLT,Nat.reduceAdd,Nat.reduceMul,Nat.reduceEqDiff]<;>rfl)
 clear hE
 refine blockC_meet (fun E' Y=>∃ u,E' 3=u∧VsAt Y 55 6 u (csOf (List.replicate n Ce.sp)) n∧Mod [] H Y∧∀ q∈idsV u,H.next≤q) ?_ ?_
 ·refine w_loop (fun (q:Nat × Value) E' Y=>E' 0=.int .i64 (n:Int)∧E' 3=q.2∧E' 4=.int .i64 (q.1:Int)∧q.1≤n∧VsAt Y 55 6 q.2 (csOf (List.replicate q.1 Ce.sp)) q.1∧Mod [] H Y∧∀ z∈idsV q.2,H.next≤z) (fun q=>n-q.1) (0,.slice none 0 0)
   ⟨g0,g3,g4,zB0 _,VsAt.nil,Mod.refl,fun z hz=>by simp[idsV]at hz⟩ ?_
  clear g0 g3 g4
  rintro⟨k,u⟩ E Y ⟨g0,g3,g4,hk,vs,mY,hid⟩
  simp only at g3 g4 hk vs hid
  rw[show Y=ext Y [] from rfl]
  by_cases hkn:k=n
  ·have hc:decide ((k:Int)<(n:Int))=false:=by simp[hkn]
   simp (maxDischargeDepth:=6) only[g0,g4,hc,ruW,putL,Nat.reduceLeDiff,xF,ruU,entryE,Nat.reduceLT,Nat.reduceAdd,Nat.reduceMul,Nat.reduceEqDiff]
   rw[hkn]at vs
   exact joinR_normal ⟨u,by simp only[g3,ruU,entryE,Nat.reduceLT,Nat.reduceAdd,Nat.reduceMul,Nat.reduceEqDiff],vs,mY,hid⟩
  ·have hc:decide ((k:Int)<(n:Int))=true:=decide_eq_true (by omega)
   have okY:=mY.ok hok
   obtain⟨y,hy⟩:∃ y,Y.next=y:=⟨_,rfl⟩
   have hyb:Y.base≤y:=hy▸okY
   obtain⟨Y2,hY2⟩:∃ Y2,ext Y [⟨55,false,Ce.sp.cells⟩]=Y2:=⟨_,rfl⟩
   have mY2:Mod [] Y Y2:=hY2▸Mod.ext okY
   have nY2:Y2.next=y+1:=by rw[←hY2,ext_next,hy]; rfl
   have b1:bk Y2 (y+0)=some ⟨55,false,Ce.sp.cells⟩:=by rw[←hY2,bk_at hy (by simp)]; rfl
   have vs2:=vs.of mY2.next (fun q hq=>mY2.get q (vs.ne q hq).2 (by simp))
   have hcs:csOf (List.replicate (k+1) Ce.sp)=csOf (List.replicate k Ce.sp)++Ce.sp.cells:=by
    rw[List.replicate_succ']
    simp[csOf]
   obtain⟨Z,hap,hvs,hmd,hzn,_⟩:=vs_app (P:=Tryd.prog) (H:=Y2) (st:=56) (xt:=56) (e:=55) (sz:=6) (by1:=32) (z:=Ce.zero.val) (n:=y+0) (off:=0) (cnt2:=1) (cap:=1) (s:=some 0) (x:=Y2.next) (ws:=Ce.sp.cells) (b:=⟨55,false,Ce.sp.cells⟩)
    (by kernel_rfl) (by kernel_rfl) (by kernel_rfl) (by kernel_rfl) rfl (by kernel_rfl) vs2 (rk_of b1) (by simp[Ce.cells]) rfl rfl (by decide) (by simp[small]; omega) rfl (scbL_append (csOf_sc _ _) rfl)
   have mZ:=hmd (mY2.ok okY)
   rw[nY2]at hap hvs hzn
   rw[←hcs]at hvs
   simp (maxDischargeDepth:=6) only[g0,g3,g4,hc,hy,hyb,ruW,putL,Nat.reduceLeDiff,xF,ruU,entryE,Nat.reduceLT,Nat.reduceAdd,Nat.reduceMul,Nat.reduceEqDiff]
   simp only[Ce.cells,Ce.sp]at hY2
   rw[hY2]
   simp (maxDischargeDepth:=6) only[hap,g4,wrap_succ (show k<1000000 by omega),ruW,putL,Nat.reduceLeDiff,xF,ruU,entryE,Nat.reduceLT,Nat.reduceAdd,Nat.reduceMul,Nat.reduceEqDiff]
   refine loopC_next ⟨(k+1,.slice (some ⟨y+1,0,none⟩) (k+1) (k+1)),by simp only; omega,?_,?_,?_,by simp only; omega,hvs,(mY.trans mY2).step mZ hok (fun q hq=>.inr (hid q hq)),fun z hz=>by simp only[idsV,zA4]at hz; have:=mY.next; omega⟩
   ·simp only[g0,ruU,entryE,Nat.reduceLT,Nat.reduceAdd,Nat.reduceMul,Nat.reduceEqDiff]
   ·simp only[ruU,entryE,Nat.reduceLT,Nat.reduceAdd,Nat.reduceMul,Nat.reduceEqDiff]
   ·simp only[ruU,entryE,Nat.reduceLT,Nat.reduceAdd,Nat.reduceMul,Nat.reduceEqDiff]
 ·rintro E Y ⟨u,g3,vs,mY,hid⟩
  obtain⟨a,e⟩:=vs.len
  rw[show Y=ext Y [] from rfl]
  simp (maxDischargeDepth:=6) only[g3,Tryd.results47,ruW,putL,Nat.reduceLeDiff,xF,ruU,entryE,Nat.reduceLT,Nat.reduceAdd,Nat.reduceMul,Nat.reduceEqDiff]
  exact⟨u,rfl,vs,mY,hid⟩
theorem refScroll_c (N:Nat) (H:AHeap) (p W:Nat) (v:Value) (rvs:List Value) (x:St) (o:Op) (up:Bool) (a:StAt 79 N H p v rvs x) (sl:Slc v) (hok:H.base≤H.next) (ok:x.Ok W) :
  CallA Tryd.prog 73 [.pointer (some ⟨p,0,none⟩),.int .i64 o.row,.int .i64 o.col,.int .i64 o.n,.bool up] H (RefR 79 N p (x.roll W o up) H):=by
 obtain⟨b,hbn⟩:∃ b,H.next=b:=⟨_,rfl⟩
 have hpl:=a.lt
 rw[hbn]at hpl
 have hcell:=a.cell
 simp only[St.cells]at hcell
 obtain⟨d1,h1⟩:∃ d,decide (0≤o.row)=d:=⟨_,rfl⟩
 obtain⟨d2,h2⟩:∃ d,decide (o.row≤o.col)=d:=⟨_,rfl⟩
 obtain⟨d3,h3⟩:∃ d,decide (o.col<x.grid.length)=d:=⟨_,rfl⟩
 obtain⟨d4,h4⟩:∃ d,decide (1≤o.n)=d:=⟨_,rfl⟩
 obtain⟨d5,h5⟩:∃ d,decide (o.n≤o.col-o.row+1)=d:=⟨_,rfl⟩
 have e1:decide (o.row<0)=!d1:=by rw[←h1,←decide_not]; exact decide_eq_decide.2 (by omega)
 have e2:decide (o.col<o.row)=!d2:=by rw[←h2,←decide_not]; exact decide_eq_decide.2 (by omega)
 have e3:decide ((x.grid.length:Int)≤o.col)=!d3:=by rw[←h3,←decide_not]; exact decide_eq_decide.2 (by omega)
 have e4:decide (o.n<1)=!d4:=by rw[←h4,←decide_not]; exact decide_eq_decide.2 (by omega)
 have e5:decide (o.col-o.row+1<o.n)=!d5:=by rw[←h5,←decide_not]; exact decide_eq_decide.2 (by omega)
 obtain⟨mb,hb',ev⟩:=id sl
 have ehb:hb'=x.grid.length:=by
  rcases a.own.at_ with⟨h,_⟩|⟨_,_,_,_,h,_⟩
  ·have:=ok.h1; rw[h]at this; simp at this
  ·rw[ev]at h; cases h; rfl
 subst ehb
 have hh:=ok.h2
 unfold St.roll
 rw[h1,h2,h3,h4,h5]
 refine callE_fn mixed Tryd.func73 rfl Tryd.ntmps73 (zA7 rfl) ?_
 rw[ev]at hcell
 by_cases hall:(d1&&d2&&d3&&d4&&d5)=true
 ·rw[if_pos hall]
  simp only[zA8]at hall
  obtain⟨⟨⟨⟨rfl,rfl⟩,rfl⟩,rfl⟩,rfl⟩:=hall
  have i1:=of_decide_eq_true h1
  have i2:=of_decide_eq_true h2
  have i3:=of_decide_eq_true h3
  have i4:=of_decide_eq_true h4
  have i5:=of_decide_eq_true h5
  have hw1:IntKind.i64.wrap (o.col-o.row)=o.col-o.row:=wrap_sm (by omega) (by omega)
  have hw2:IntKind.i64.wrap (o.col-o.row+1)=o.col-o.row+1:=wrap_sm (by omega) (by omega)
  simp (maxDischargeDepth:=6) only[hbn,hpl,hcell,e1,e2,e3,e4,e5,hw1,hw2,ruW,putL,Nat.reduceLeDiff,xF,ruU,entryE,Nat.reduceLT,Nat.reduceAdd,Nat.reduceMul,Nat.reduceEqDiff]
  refine w_env fun E hE=>?_
  obtain⟨top,htop⟩:∃ k:Nat,o.row=k:=⟨o.row.toNat,by omega⟩
  obtain⟨bot,hbot⟩:∃ k:Nat,o.col=k:=⟨o.col.toNat,by omega⟩
  obtain⟨n,hn'⟩:∃ n:Nat,o.n=n:=⟨o.n.toNat,by omega⟩
  have g0:E 0=.pointer (some ⟨p,0,none⟩):=by rw[hE]; simp only[ruU,entryE,Nat.reduceLT,Nat.reduceAdd,Nat.reduceMul,Nat.reduceEqDiff]
  have g1:E 1=.int .i64 (top:Int):=by rw[hE]; simp only[htop,ruU,entryE,Nat.reduceLT,Nat.reduceAdd,Nat.reduceMul,Nat.reduceEqDiff]
  have g2:E 2=.int .i64 (bot:Int):=by rw[hE]; simp only[hbot,ruU,entryE,Nat.reduceLT,Nat.reduceAdd,Nat.reduceMul,Nat.reduceEqDiff]
  have g3:E 3=.int .i64 (n:Int):=by rw[hE]; simp only[hn',ruU,entryE,Nat.reduceLT,Nat.reduceAdd,Nat.reduceMul,Nat.reduceEqDiff]
  have g4:E 4=.bool up:=by rw[hE]; simp only[ruU,entryE,Nat.reduceLT,Nat.reduceAdd,Nat.reduceMul,Nat.reduceEqDiff]
  have g11:E 11=.slice none 0 0:=by rw[hE]; simp only[ruU,entryE,Nat.reduceLT,Nat.reduceAdd,Nat.reduceMul,Nat.reduceEqDiff]
  have g12:E 12=.int .i64 ((0:Nat):Int):=by rw[hE]; (simp only[ruU,entryE,Nat.reduceLT,Nat.reduceAdd,Nat.reduceMul,Nat.reduceEqDiff]<;>rfl)
  clear hE
  refine blockC_meet (fun E' Y=>Mod [] H Y∧E' 0=.pointer (some ⟨p,0,none⟩)∧E' 1=.int .i64 (top:Int)∧E' 2=.int .i64 (bot:Int)∧E' 3=.int .i64 (n:Int)∧E' 4=.bool up∧∃ u fr,E' 11=u∧Grow b Y u fr (List.replicate n (List.replicate W Ce.sp))) ?_ ?_
  ·refine w_loop (fun (q:Nat × Value × List Value) E' Y=>Mod [] H Y∧E' 0=.pointer (some ⟨p,0,none⟩)∧E' 1=.int .i64 (top:Int)∧E' 2=.int .i64 (bot:Int)∧E' 3=.int .i64 (n:Int)∧E' 4=.bool up∧E' 11=q.2.1∧E' 12=.int .i64 (q.1:Int)∧q.1≤n∧Grow b Y q.2.1 q.2.2 (List.replicate q.1 (List.replicate W Ce.sp))) (fun q=>n-q.1) (0,.slice none 0 0,[])
    ⟨Mod.refl,g0,g1,g2,g3,g4,g11,g12,zB0 _,Grow.nil⟩ ?_
   clear g0 g1 g2 g3 g4 g11 g12
   rintro⟨k,u,fr⟩ E Y ⟨mY,g0,g1,g2,g3,g4,g11,g12,hk,gr⟩
   simp only at g11 g12 hk gr
   rw[show Y=ext Y [] from rfl]
   by_cases hkn:k=n
   ·have hc:decide ((k:Int)<(n:Int))=false:=by simp[hkn]
    simp (maxDischargeDepth:=6) only[g3,g12,hc,ruW,putL,Nat.reduceLeDiff,xF,ruU,entryE,Nat.reduceLT,Nat.reduceAdd,Nat.reduceMul,Nat.reduceEqDiff]
    rw[hkn]at gr
    exact joinR_normal ⟨mY,by simp only[g0,ruU,entryE,Nat.reduceLT,Nat.reduceAdd,Nat.reduceMul,Nat.reduceEqDiff],by simp only[g1,ruU,entryE,Nat.reduceLT,Nat.reduceAdd,Nat.reduceMul,Nat.reduceEqDiff],by simp only[g2,ruU,entryE,Nat.reduceLT,Nat.reduceAdd,Nat.reduceMul,Nat.reduceEqDiff],by simp only[g3,ruU,entryE,Nat.reduceLT,Nat.reduceAdd,Nat.reduceMul,Nat.reduceEqDiff],by simp only[g4,ruU,entryE,Nat.reduceLT,Nat.reduceAdd,Nat.reduceMul,Nat.reduceEqDiff],u,fr,by simp only[g11,ruU,entryE,Nat.reduceLT,Nat.reduceAdd,Nat.reduceMul,Nat.reduceEqDiff],gr⟩
   ·have hc:decide ((k:Int)<(n:Int))=true:=decide_eq_true (by omega)
    have okY:=mY.ok hok
    have aY:=a.mod0 mY
    obtain⟨y,hy⟩:∃ y,Y.next=y:=⟨_,rfl⟩
    have hpY:p<y:=by have:=mY.next; omega
    obtain⟨m2,s1,c1,o1,n0,s0,c0,e6,hbm,hml,_,_,hrv0⟩:=aY.first ok
    rw[hy]at hml
    rw[ev]at e6
    cases e6
    have kp:=aY.cell
    simp only[St.cells]at kp
    rw[ev]at kp
    have i0:=grid_ia (n:=mb) (off:=0) (s:=none) (cap:=x.grid.length) (i:=((0:Nat):Int)) (len:=x.grid.length) rfl (by have:=ok.h1; omega)
    rw[show ((0:Nat):Int)=0 from rfl]at i0
    have q0:ldB Tryd.prog 56 (0+0) (some ⟨56,o1,rvs⟩)=some (.slice (some ⟨n0,0,s0⟩) W c0):=grid_load (by rw[zC2]; exact hrv0)
    rw[zD3]at i0 q0
    simp (maxDischargeDepth:=6) only[g0,g3,g11,g12,hc,hy,hpY,kp,hml,hbm,i0,q0,ruW,putL,Nat.reduceLeDiff,xF,ruU,entryE,Nat.reduceLT,Nat.reduceAdd,Nat.reduceMul,Nat.reduceEqDiff]
    refine (blanks47_c (ext Y []) W ok.w2 okY).mono ?_
    rintro _ Y1 ⟨rv,rfl,vr,m1,hid1⟩
    replace m1:Mod [] Y Y1:=m1
    replace hid1:∀ q∈idsV rv,y≤q:=fun q hq=>by have:=hid1 q hq; rw[ext_next,hy]at this; simpa using this
    have okY1:=m1.ok okY
    obtain⟨y1,hy1⟩:∃ y,Y1.next=y:=⟨_,rfl⟩
    have hyb:Y1.base≤y1:=hy1▸okY1
    have hbY1:b≤y:=by have:=mY.next; omega
    have hyy1:y≤y1:=by have:=m1.next; omega
    obtain⟨qv1,qv2,⟨hv0,_⟩|⟨hv0,nr,er,kbr,hnr⟩⟩:=vr
    ·have:=ok.w1; omega
    have hsr:scb y1 rv=true:=by rw[er]; exact blt_of (show nr<y1 by omega)
    have hone:one rv=true:=by rw[er]; rfl
    have hnr0:=hid1 nr (by rw[er]; simp[idsV])
    obtain⟨Y2,hY2⟩:∃ Y2,ext Y1 [⟨56,false,[rv]⟩]=Y2:=⟨_,rfl⟩
    have mY2':Mod [] Y1 Y2:=hY2▸Mod.ext okY1
    have mY2:Mod [] Y Y2:=m1.trans mY2'
    have nY2:Y2.next=y1+1:=by rw[←hY2,ext_next,hy1]; rfl
    have b2:bk Y2 (y1+0)=some ⟨56,false,[rv]⟩:=by rw[←hY2,bk_at hy1 (by simp)]; rfl
    have b1:bk Y2 nr=some ⟨55,true,csOf (List.replicate W Ce.sp)⟩:=(mY2'.bk (by omega) (by simp)).trans kbr
    have hlr:(List.replicate k (List.replicate W Ce.sp)).length=k:=zF9
    have vs:=gr.at_.of (G:=Y2) mY2.next (fun q hq=>mY2.get q (gr.at_.ne q hq).2 (by simp))
    rw[hlr]at vs
    have hscr:scbL Y2.next (fr++[rv])=true:=scbL_append (scbL_mono mY2.next _ gr.sc) (by simp only[scbL,Bool.and_true]; exact scb_mono (by omega) _ hsr)
    obtain⟨Z,hap,hvs,hmd,hzn,_⟩:=vs_app (P:=Tryd.prog) (H:=Y2) (st:=22) (xt:=22) (e:=56) (sz:=1) (by1:=24) (z:=.slice none 0 0) (n:=y1+0) (off:=0) (cnt2:=1) (cap:=1) (s:=some 0) (x:=Y2.next) (ws:=[rv]) (b:=⟨56,false,[rv]⟩)
     uRows szCells byCells zr rfl (by kernel_rfl) vs (rk_of b2) (by simp) rfl (by simp[hone]) (by decide) (smallC (by omega)) rfl hscr
    have mZ:=hmd (mY2.ok okY)
    rw[nY2]at hap hvs hzn
    have hbz:bk Z (y1+1)=some ⟨56,true,fr++[rv]⟩:=by
     obtain⟨_,_,⟨h0,_⟩|⟨_,n,e,hbn,_⟩⟩:=hvs
     ·omega
     ·cases e; exact hbn
    have gr2:=gr.push (rv:=rv) (l:=List.replicate W Ce.sp) (Y:=Y2) (Z:=Z) mY2 (by omega) ⟨nr,true,0,true,by rw[er,zF9]; rfl,b1,by omega,by omega⟩ (fun q hq=>by have:=hid1 q hq; omega) hone mZ (by rw[nY2]; exact hbz) (by omega)
    rw[nY2,hlr,show List.replicate k (List.replicate W Ce.sp)++[List.replicate W Ce.sp]=List.replicate (k+1) (List.replicate W Ce.sp) from (List.replicate_succ' ..).symm]at gr2
    rw[show Y1=ext Y1 [] from rfl]
    rw[er]at hsr
    simp (maxDischargeDepth:=6) only[er,g0,g11,g12,hy1,hyb,hsr,ruW,putL,Nat.reduceLeDiff,xF,ruU,entryE,Nat.reduceLT,Nat.reduceAdd,Nat.reduceMul,Nat.reduceEqDiff]
    rw[er]at hY2
    rw[hY2]
    simp (maxDischargeDepth:=6) only[hap,g12,wrap_succ (show k<1000000 by omega),ruW,putL,Nat.reduceLeDiff,xF,ruU,entryE,Nat.reduceLT,Nat.reduceAdd,Nat.reduceMul,Nat.reduceEqDiff]
    refine loopC_next ⟨(k+1,.slice (some ⟨y1+1,0,none⟩) (k+1) (k+1),fr++[rv]),by simp only; omega,(mY.trans mY2).step mZ hok (fun q hq=>.inr (by have:=(gr.apart q hq).1; omega)),?_,?_,?_,?_,?_,?_,?_,by simp only; omega,gr2⟩
    ·simp only[g0,ruU,entryE,Nat.reduceLT,Nat.reduceAdd,Nat.reduceMul,Nat.reduceEqDiff]
    ·simp only[g1,ruU,entryE,Nat.reduceLT,Nat.reduceAdd,Nat.reduceMul,Nat.reduceEqDiff]
    ·simp only[g2,ruU,entryE,Nat.reduceLT,Nat.reduceAdd,Nat.reduceMul,Nat.reduceEqDiff]
    ·simp only[g3,ruU,entryE,Nat.reduceLT,Nat.reduceAdd,Nat.reduceMul,Nat.reduceEqDiff]
    ·simp only[g4,ruU,entryE,Nat.reduceLT,Nat.reduceAdd,Nat.reduceMul,Nat.reduceEqDiff]
    ·simp only[ruU,entryE,Nat.reduceLT,Nat.reduceAdd,Nat.reduceMul,Nat.reduceEqDiff]
    ·simp only[ruU,entryE,Nat.reduceLT,Nat.reduceAdd,Nat.reduceMul,Nat.reduceEqDiff]
  ·clear g0 g1 g2 g3 g4 g11 g12
   rintro E Y ⟨mY,g0,g1,g2,g3,g4,u,fr,g11,gr⟩
   have okY:=mY.ok hok
   have aY:=a.mod0 mY
   obtain⟨y,hy⟩:∃ y,Y.next=y:=⟨_,rfl⟩
   have hby:b≤y:=by have:=mY.next; omega
   have hpY:p<y:=by omega
   have kp:=aY.cell
   simp only[St.cells]at kp
   rw[ev]at kp
   obtain⟨om,hbm,hmy⟩:∃ om,bk Y mb=some ⟨56,om,rvs⟩∧mb<y:=by
    rcases aY.own.at_ with⟨h,_⟩|⟨m,s,c,om,e,h1,_,h2,_⟩
    ·rw[h]at i3; simp at i3; omega
    ·rw[ev]at e; cases e; exact⟨om,h1,by omega⟩
   have hmp:mb≠p:=fun e=>a.apart (zC7 _ (by rw[ev,e]; simp[idsV]))
   have hlr:rvs.length=x.grid.length:=a.own.len
   have hvone:rvs.all one=true:=zC9.2 fun rv hrv=>by
    obtain⟨i,hi⟩:=List.getElem?_of_mem hrv
    obtain⟨l,_,n,s,c,o',rfl,_⟩:=aY.own.lOf hi
    rfl
   have hvsc:scbL Y.next rvs=true:=scbL_iff.2 fun rv hrv=>by
    obtain⟨i,hi⟩:=List.getElem?_of_mem hrv
    obtain⟨l,_,n,s,c,o',rfl,_,_,h⟩:=aY.own.lOf hi
    exact blt_of h
   have hne:rvs≠[]:=fun e=>by rw[e]at hlr; simp at hlr; omega
   have PV:Part Y v rvs:=⟨some ⟨mb,0,none⟩,x.grid.length,by rw[ev,hlr],by rw[ev]; exact blt_of (show mb<Y.next by omega),.inr ⟨zC6 hlr,mb,0,none,_,rfl,.inl rfl,hbm,by omega,by simp,by simp⟩⟩
   obtain⟨uA,slA,PA,iA⟩:=PV.slice hne (x:=none) (y:=some (.int .i64 (top:Int))) (lo:=0) (hi:=top) rfl (by simp[bound]) (zB0 _) (by omega)
   obtain⟨uB,slB,PB,iB⟩:=PV.slice hne (x:=some (.int .i64 (top:Int))) (y:=some (.int .i64 ((bot+1:Nat):Int))) (lo:=top) (hi:=bot+1) (by simp[bound]) (by simp only[bound]; rw[if_pos (by omega)]; simp) (by omega) (by omega)
   obtain⟨uC,slC,PC,iC⟩:=PV.slice hne (x:=some (.int .i64 ((bot+1:Nat):Int))) (y:=none) (lo:=bot+1) (hi:=rvs.length) (by simp only[bound]; rw[if_pos (by omega)]; simp) rfl (by omega) (zA5 _)
   rw[zD1]at PA
   rw[zE4]at PC
   rw[show (rvs.take (bot+1)).drop top=part rvs top bot from rfl]at PB
   have hwb:IntKind.i64.wrap ((bot:Int)+1)=((bot+1:Nat):Int):=wrap_succ (by omega)
   rw[ev]at slA slB slC iA iB iC
   have iv:idsV (.slice (some ⟨mb,0,none⟩) x.grid.length x.grid.length)=[mb]:=rfl
   rw[iv]at iA iB iC
   have hgl:(List.replicate n (List.replicate W Ce.sp)).length=n:=zF9
   obtain⟨hu1,hu2,⟨hu0,_⟩|⟨hu0,nu,eu,kbu,hnu⟩⟩:=gr.at_
   ·omega
   rw[hgl]at eu hu1
   subst eu
   have PU:Part Y (.slice (some ⟨nu,0,none⟩) n n) fr:=⟨some ⟨nu,0,none⟩,n,by rw[show fr.length=n by omega],blt_of hnu,.inr ⟨by omega,nu,0,none,_,rfl,.inl rfl,kbu,hnu,by simp,by simp⟩⟩
   have hplen:=part_len (g:=rvs) (top:=top) (bot:=bot) (by omega)
   obtain⟨lb,hlb⟩:∃ lb,(part rvs top bot).length=lb:=⟨_,rfl⟩
   have hfrl:fr.length=n:=by omega
   have hsB:=slB (ext Y []) (fun _ _=>rfl)
   have hpone:(part rvs top bot).all one=true:=one_sub hvone fun z hz=>zD4 (zD5 hz)
   have hpsc:scbL Y.next (part rvs top bot)=true:=scbL_sub hvsc fun z hz=>zD4 (zD5 hz)
   have hpne:part rvs top bot≠[]:=fun e=>by rw[e]at hplen; simp at hplen; omega
   have hmidl:(mid up (part rvs top bot) fr n).length=lb:=by rw[mid_len (by omega) (by omega),hlb]
   rw[show Y=ext Y [] from rfl]
   simp (maxDischargeDepth:=6) only[g0,g1,g2,hy,hpY,kp,hwb,hsB,ruW,putL,Nat.reduceLeDiff,xF,ruU,entryE,Nat.reduceLT,Nat.reduceAdd,Nat.reduceMul,Nat.reduceEqDiff]
   rw[g4]
   refine condC_meet (fun E' Z=>∃ w,E' 14=w∧VsAt Z 56 1 w (mid up (part rvs top bot) fr n) lb∧Mod [] Y Z∧(∀ q∈idsV w,y≤q)∧E' 0=.pointer (some ⟨p,0,none⟩)∧E' 1=.int .i64 (top:Int)∧E' 2=.int .i64 (bot:Int)) ?_ ?_
   ·cases up with
    |true =>
     obtain⟨uD,slD,PD,iD⟩:=PB.slice hpne (x:=some (.int .i64 (n:Int))) (y:=none) (lo:=n) (hi:=(part rvs top bot).length) (by simp[bound]) rfl (by omega) (zA5 _)
     rw[zE4]at PD
     have hsD:=slD (ext Y []) (fun _ _=>rfl)
     obtain⟨w1,G1,ha1,hv1,hm1,hi1⟩:=vs_appP (H:=ext Y []) VsAt.nil PD okY (one_sub hpone fun z hz=>zD5 hz) (scbL_sub hpsc fun z hz=>zD5 hz) rfl (by simp only[zF1]; omega)
     replace hm1:Mod [] Y G1:=hm1
     have hi1':∀ q∈idsV w1,y≤q:=fun q hq=>by
      rcases hi1 q hq with h|h
      ·simp[idsV]at h
      ·rw[ext_next,hy]at h; simpa using h
     obtain⟨w2,G2,ha2,hv2,hm2,hi2⟩:=vs_appP (H:=G1) hv1 (PU.of hm1.next fun q hq=>hm1.get q (by simp only[idsV,zA4]at hq; omega) (by simp)) (hm1.ok okY) hu2 (scbL_mono hm1.next _ gr.sc) (scbL_sub (scbL_mono hm1.next _ hpsc) fun z hz=>zD5 (by simpa using hz)) (by simp only[zF1]; omega)
     obtain⟨aw1,ew1⟩:=hv1.len
     simp (maxDischargeDepth:=6) only[g3,g11,hsD,ha1,ha2,ruW,putL,Nat.reduceLeDiff,xF,ruU,entryE,Nat.reduceLT,Nat.reduceAdd,Nat.reduceMul,Nat.reduceEqDiff]
     refine joinR_normal ⟨w2,by simp only[ruU,entryE,Nat.reduceLT,Nat.reduceAdd,Nat.reduceMul,Nat.reduceEqDiff],?_,hm1.step hm2 okY (fun q hq=>.inr (by have:=hi1' q hq; omega)),fun q hq=>?_,by simp only[g0,ruU,entryE,Nat.reduceLT,Nat.reduceAdd,Nat.reduceMul,Nat.reduceEqDiff],by simp only[g1,ruU,entryE,Nat.reduceLT,Nat.reduceAdd,Nat.reduceMul,Nat.reduceEqDiff],by simp only[g2,ruU,entryE,Nat.reduceLT,Nat.reduceAdd,Nat.reduceMul,Nat.reduceEqDiff]⟩
     ·rw[zC1]at hv2
      have:0+((part rvs top bot).drop n).length+fr.length=lb:=by simp only[zF1]; omega
      rw[this]at hv2
      exact hv2
     ·rcases hi2 q hq with h|h
      ·exact hi1' q h
      ·have:=hm1.next; omega
    |false =>
     obtain⟨uD,slD,PD,iD⟩:=PB.slice hpne (x:=none) (y:=some (.int .i64 ((lb-n:Nat):Int))) (lo:=0) (hi:=lb-n) rfl (by simp only[bound]; rw[if_pos (by omega)]; simp) (zB0 _) (by omega)
     rw[zD1]at PD
     have hwl:IntKind.i64.wrap ((lb:Int)-(n:Int))=((lb-n:Nat):Int):=(wrap_sm (by omega) (by omega)).trans (by omega)
     obtain⟨aB,cB,eB⟩:=PB.len
     rw[hlb]at eB
     have iBD:∀ q∈idsV uD,q=mb:=fun q hq=>by have:=iB q (iD q hq); simpa using this
     simp (maxDischargeDepth:=6) only[ruW,putL,Nat.reduceLeDiff,xF,ruU,entryE,Nat.reduceLT,Nat.reduceAdd,Nat.reduceMul,Nat.reduceEqDiff]
     refine w_drawB [(9,2),(9,8),(10,9),(10,8),(10,2)] [] (by kernel_rfl) (by kernel_rfl) rfl fun ops anc hA hG=>?_
     simp only[all2_cons]at hA
     simp (maxDischargeDepth:=6) only[g3,g11,eB,hwl,wd_slice,hA,ruD,ruW,putL,Nat.reduceLeDiff,xF,ruU,entryE,Nat.reduceLT,Nat.reduceAdd,Nat.reduceMul,Nat.reduceEqDiff]
     rw[wd_app (by simp only[ruU,entryE,Nat.reduceLT,Nat.reduceAdd,Nat.reduceMul,Nat.reduceEqDiff])]
     refine genV_append (Z:=ext Y []) (v:=nilS) (vs:=[]) (cnt:=0) (u:=.slice (some ⟨nu,0,none⟩) n n) (L:=fr) VsAt.nil PU (fun q hq=>by simp only[idsV,zA4]at hq; rw[hq]; exact⟨hnu,bk_ne kbu⟩) okY hu2 gr.sc rfl (by omega) (zA7 rfl) rfl (by simp only[ruU,entryE,Nat.reduceLT,Nat.reduceAdd,Nat.reduceMul,Nat.reduceEqDiff]) (by simp) ?_
     intro v1 Z1 D1 m1 hv1 hi1 hD1
     replace m1:Mod [] Y Z1:=m1
     have hi1':∀ q∈idsV v1,y≤q:=fun q hq=>by
      rcases hi1 q hq with h|h
      ·simp[idsV]at h
      ·rw[ext_next,hy]at h; simpa using h
     have okZ1:=m1.ok okY
     have gZ1:Z1.get mb=Y.get mb:=m1.get mb (by omega) (by simp)
     have hyz:y≤Z1.next:=by have:=m1.next; omega
     rw[show Z1=ext Z1 [] from rfl]
     simp (maxDischargeDepth:=6) only[g3,g11,eB,hwl,wd_slice,hA,ruD,ruW,putL,Nat.reduceLeDiff,xF,ruU,entryE,Nat.reduceLT,Nat.reduceAdd,Nat.reduceMul,Nat.reduceEqDiff]
     have hB':∀ q∈idsV (Value.slice aB lb cB),q<Y.next+0∨Z1.next+0≤q:=fun q hq=>.inl (by rw[←eB]at hq; have:=iB q hq; simp only[zA4]at this; omega)
     refine⟨fun _=>.inr hB',fun _=>.inr hB',?_⟩
     refine genV_sl (v:=uD) [mb] rfl rfl rfl rfl (zA7 rfl) (fun q hq=>by rw[zA4.1 hq]; show Z1.get mb≠none; rw[gZ1]; exact bk_ne hbm) (fun G hG=>by simp only[bnds_none,bnds_some,ruU,entryE,Nat.reduceLT,Nat.reduceAdd,Nat.reduceMul,Nat.reduceEqDiff]; rw[←eB]; exact slD G (fun q hq=>by have:=iB q hq; simp only[zA4]at this; rw[this,hG mb (by simp)]; exact gZ1)) ?_ ?_
     ·intro r hr
      simp only[zB3,List.not_mem_nil,or_false]at hr
      subst hr
      refine .inr ⟨fun q hq=>?_,fun q _=>by simp,fun _=>⟨fun q hq=>.inl ?_,fun q hq=>.inl ?_⟩⟩
      ·have:=hD1 q hq; simp[idsV]at this
      ·simp only[zA4]at hq; show q<Y.next+0; omega
      ·simp only[List.flatMap_nil,zC5]at hq; have:=iBD q hq; show q<Y.next+0; omega
     simp (maxDischargeDepth:=6) only[g3,g11,hwl,hA,ruD,ruW,putL,Nat.reduceLeDiff,xF,ruU,entryE,Nat.reduceLT,Nat.reduceAdd,Nat.reduceMul,Nat.reduceEqDiff]
     rw[wd_app (by simp only[ruU,entryE,Nat.reduceLT,Nat.reduceAdd,Nat.reduceMul,Nat.reduceEqDiff])]
     refine genV_append (Z:=ext Z1 []) (v:=v1) (vs:=[]++fr) (cnt:=0+fr.length) (u:=uD) (L:=(part rvs top bot).take (lb-n)) hv1 (PD.of m1.next fun q hq=>by rw[iBD q hq]; exact gZ1) (fun q hq=>by rw[iBD q hq]; exact⟨by rw[ext_next]; simp; omega,by show Z1.get mb≠none; rw[gZ1]; exact bk_ne hbm⟩) okZ1 (one_sub hpone fun z hz=>zD4 hz) (scbL_mono m1.next _ (scbL_sub hpsc fun z hz=>zD4 hz)) (scbL_mono m1.next _ gr.sc) (by simp only[zE7]; omega) (zA7 rfl) rfl (by simp only[ruU,entryE,Nat.reduceLT,Nat.reduceAdd,Nat.reduceMul,Nat.reduceEqDiff]) (by simp only[all2_cons,all2_nil,hA,and_true]) ?_
     intro v2 Z2 D2 m2 hv2 hi2 hD2
     rw[show Z2=ext Z2 [] from rfl]
     obtain⟨av2,ev2⟩:=hv2.len
     simp (maxDischargeDepth:=6) only[hA,ruD,ruW,putL,Nat.reduceLeDiff,xF,ruU,entryE,Nat.reduceLT,Nat.reduceAdd,Nat.reduceMul,Nat.reduceEqDiff]
     refine joinR_normal ⟨v2,by simp only[ruU,entryE,Nat.reduceLT,Nat.reduceAdd,Nat.reduceMul,Nat.reduceEqDiff],?_,m1.step m2 okY (fun q hq=>.inr (by have:=hi1' q hq; omega)),fun q hq=>?_,by simp only[g0,ruU,entryE,Nat.reduceLT,Nat.reduceAdd,Nat.reduceMul,Nat.reduceEqDiff],by simp only[g1,ruU,entryE,Nat.reduceLT,Nat.reduceAdd,Nat.reduceMul,Nat.reduceEqDiff],by simp only[g2,ruU,entryE,Nat.reduceLT,Nat.reduceAdd,Nat.reduceMul,Nat.reduceEqDiff]⟩
     ·rw[zC1]at hv2
      have:0+fr.length+((part rvs top bot).take (lb-n)).length=lb:=by simp only[zE7]; omega
      rw[this]at hv2
      rw[show mid false (part rvs top bot) fr n=fr++(part rvs top bot).take (lb-n) by rw[mid,hlb]; rfl]
      exact hv2
     ·rcases hi2 q hq with h|h
      ·exact hi1' q h
      ·rw[ext_next]at h; simp at h; omega
   ·rintro E2 Z ⟨w,k14,hvw,mZ,hiw,k0,k1,k2⟩
    rw[show Z=ext Z [] from rfl]
    have okZ:=mZ.ok okY
    simp (maxDischargeDepth:=6) only[ruW,putL,Nat.reduceLeDiff,xF,ruU,entryE,Nat.reduceLT,Nat.reduceAdd,Nat.reduceMul,Nat.reduceEqDiff]
    have hyz:y≤Z.next:=by have:=mZ.next; omega
    have gmb:∀ {Q:AHeap},Mod [] Y Q→Q.get mb=Y.get mb:=fun m=>m.get mb (by omega) (by simp)
    have hcat:((rvs.take top)++mid up (part rvs top bot) fr n).length≤1000:=by simp only[zB7,zE7]; omega
    have hmsc:scbL Y.next (mid up (part rvs top bot) fr n)=true:=scbL_iff.2 fun z hz=>by
     rcases mid_mem hz with h|h
     ·exact scbL_iff.1 hpsc z h
     ·exact scbL_iff.1 gr.sc z h
    have hAsc:scbL Y.next (rvs.take top)=true:=scbL_sub hvsc fun z hz=>zD4 hz
    have kz:bk Z p=_:=(mZ.bk (by omega) (by simp)).trans kp
    obtain⟨zn,hzn⟩:∃ z,Z.next=z:=⟨_,rfl⟩
    have hpz:p<zn:=by omega
    refine w_drawB [(8,7),(8,5),(10,8),(10,7),(10,5),(20,19),(20,18),(20,15),(20,10),(20,8),(20,7),(20,5),(19,18),(19,15),(19,10),(19,8),(19,7),(19,5)] [] (by kernel_rfl) (by kernel_rfl) rfl fun ops anc hA hG=>?_
    simp only[all2_cons]at hA
    simp (maxDischargeDepth:=6) only[k0,k1,k2,hzn,hpz,kz,wd_slice,hA,ruD,ruW,putL,Nat.reduceLeDiff,xF,ruU,entryE,Nat.reduceLT,Nat.reduceAdd,Nat.reduceMul,Nat.reduceEqDiff]
    refine genV_sl (v:=uA) [mb] rfl rfl rfl rfl (zA7 rfl) (fun q hq=>by rw[zA4.1 hq]; show Z.get mb≠none; rw[gmb mZ]; exact bk_ne hbm) (fun G hG=>by simp only[bnds_none,bnds_some,ruU,entryE,Nat.reduceLT,Nat.reduceAdd,Nat.reduceMul,Nat.reduceEqDiff]; exact slA G (fun q hq=>by simp only[idsV,zA4]at hq; rw[hq,hG mb (by simp)]; exact gmb mZ)) (by simp[Meets]) ?_
    simp (maxDischargeDepth:=6) only[k0,k1,k2,hzn,hpz,kz,hA,ruD,ruW,putL,Nat.reduceLeDiff,xF,ruU,entryE,Nat.reduceLT,Nat.reduceAdd,Nat.reduceMul,Nat.reduceEqDiff]
    rw[wd_app (by simp only[ruU,entryE,Nat.reduceLT,Nat.reduceAdd,Nat.reduceMul,Nat.reduceEqDiff])]
    refine genV_append (Z:=ext Z []) (v:=nilS) (vs:=[]) (cnt:=0) (u:=uA) (L:=rvs.take top) VsAt.nil (PA.of mZ.next fun q hq=>by rw[zA4.1 (iA q hq)]; exact gmb mZ) (fun q hq=>by rw[zA4.1 (iA q hq)]; exact⟨by show mb<Z.next; omega,by show Z.get mb≠none; rw[gmb mZ]; exact bk_ne hbm⟩) okZ (one_sub hvone fun z hz=>zD4 hz) (scbL_mono mZ.next _ hAsc) rfl (by simp only[zE7]; omega) (zA7 rfl) rfl (by simp only[ruU,entryE,Nat.reduceLT,Nat.reduceAdd,Nat.reduceMul,Nat.reduceEqDiff]) (by simp only[all2_cons,all2_nil,hA,and_true]) ?_
    intro w1 Z1 D1 m1 hv1 hi1 hD1
    replace m1:Mod [] Z Z1:=m1
    replace hi1:∀ q∈idsV w1,zn≤q:=fun q hq=>by
     rcases hi1 q hq with h|h
     ·simp[idsV]at h
     ·rw[ext_next,hzn]at h; simpa using h
    have okZ1:=m1.ok okZ
    have mYZ1:Mod [] Y Z1:=mZ.trans m1
    have hz1:zn≤Z1.next:=by have:=m1.next; omega
    have hv1':=hv1
    rw[zC1,show 0+(rvs.take top).length=top by simp only[zE7]; omega]at hv1'
    obtain⟨aw,ew⟩:=hvw.len
    have hwn:∀ q∈idsV w,q<zn∧Z.get q≠none:=fun q hq=>by have:=hvw.ne q hq; exact⟨by omega,this.1⟩
    rw[show Z1=ext Z1 [] from rfl]
    simp (maxDischargeDepth:=6) only[k0,k1,k2,k14,hA,ruD,ruW,putL,Nat.reduceLeDiff,xF,ruU,entryE,Nat.reduceLT,Nat.reduceAdd,Nat.reduceMul,Nat.reduceEqDiff]
    refine⟨fun _=>.inr fun q hq=>.inl (by have:=(hwn q hq).1; omega),?_⟩
    rw[wd_app (by simp only[ruU,entryE,Nat.reduceLT,Nat.reduceAdd,Nat.reduceMul,Nat.reduceEqDiff])]
    have PW:Part Z w (mid up (part rvs top bot) fr n):=by
     obtain⟨_,_,⟨h0,_⟩|⟨h0,nw,e,hb,hlt⟩⟩:=hvw
     ·omega
     ·exact⟨some ⟨nw,0,none⟩,lb,by rw[e,hmidl],by rw[e]; exact blt_of hlt,.inr ⟨by omega,nw,0,none,_,rfl,.inl rfl,hb,hlt,by simp,by simp⟩⟩
    refine genV_append (Z:=ext Z1 []) (v:=w1) (vs:=rvs.take top) (cnt:=top) (u:=w) (L:=mid up (part rvs top bot) fr n) hv1' (PW.of m1.next fun q hq=>m1.get q (by have:=(hwn q hq).1; omega) (by simp)) (fun q hq=>⟨by show q<Z1.next; have:=(hwn q hq).1; omega,by show Z1.get q≠none; rw[m1.get q (by have:=(hwn q hq).1; omega) (by simp)]; exact (hwn q hq).2⟩) okZ1 hvw.2.1 (scbL_mono mYZ1.next _ hmsc) (scbL_mono mYZ1.next _ hAsc) (by omega) (zA7 rfl) rfl (by simp only[ruU,entryE,Nat.reduceLT,Nat.reduceAdd,Nat.reduceMul,Nat.reduceEqDiff]) (by simp only[all2_cons,all2_nil,hA,and_true]) ?_
    intro w2 Z2 D2 m2 hv2 hi2 hD2
    replace m2:Mod (idsV w1) Z1 Z2:=m2
    replace hi2:∀ q∈idsV w2,zn≤q:=fun q hq=>by
     rcases hi2 q hq with h|h
     ·exact hi1 q h
     ·rw[ext_next]at h; simp at h; omega
    have mYZ2:Mod [] Y Z2:=mYZ1.step m2 okY (fun q hq=>.inr (by have:=hi1 q hq; omega))
    have okZ2:=mYZ2.ok okY
    have hz2:Z1.next≤Z2.next:=m2.next
    have kz2:bk Z2 p=_:=(mYZ2.bk (by omega) (by simp)).trans kp
    obtain⟨z2,hz2n⟩:∃ z,Z2.next=z:=⟨_,rfl⟩
    have hpz2:p<z2:=by omega
    have hD1':∀ q,q∉D1:=fun q hq=>by have:=hD1 q hq; simp[idsV]at this
    have hD2':∀ q∈D2,zn≤q:=fun q hq=>hi1 q (hD2 q hq)
    rw[show Z2=ext Z2 [] from rfl]
    simp (maxDischargeDepth:=6) only[k0,k1,k2,hz2n,hpz2,kz2,hwb,wd_slice,hA,ruD,ruW,putL,Nat.reduceLeDiff,xF,ruU,entryE,Nat.reduceLT,Nat.reduceAdd,Nat.reduceMul,Nat.reduceEqDiff]
    refine⟨⟨fun _=>.inr (.inl (by omega)),fun _=>.inr (.inl (by omega))⟩,⟨fun _=>.inr (.inl (by omega)),fun _=>.inr (.inl (by omega))⟩,⟨fun _=>.inr (.inl (by omega)),fun _=>.inr (.inl (by omega))⟩,⟨fun _=>.inr (.inl (by omega)),fun _=>.inr (.inl (by omega))⟩,⟨.inr ⟨fun q hq e=>by have:=hD2' q hq; omega,fun _=>⟨.inl (by omega),fun q hq=>.inl (by simp only[idsV,zA4]at hq; omega)⟩⟩,.inr ⟨fun q hq e=>hD1' q hq,fun _=>⟨.inl (by omega),fun q hq=>.inl (by simp only[idsV,zA4]at hq; omega)⟩⟩⟩,?_⟩
    refine genV_sl (v:=uC) [mb] rfl rfl rfl rfl (zA7 rfl) (fun q hq=>by rw[zA4.1 hq]; show Z2.get mb≠none; rw[gmb mYZ2]; exact bk_ne hbm) (fun G hG=>by simp only[bnds_none,bnds_some,ruU,entryE,Nat.reduceLT,Nat.reduceAdd,Nat.reduceMul,Nat.reduceEqDiff]; exact slC G (fun q hq=>by simp only[idsV,zA4]at hq; rw[hq,hG mb (by simp)]; exact gmb mYZ2)) ?_ ?_
    ·have hcm:∀ q,q∈idsV uC++([]:List Bl).flatMap (fun x=>idsL x.l)→q=mb:=fun q hq=>by
      simp only[List.flatMap_nil,zC5]at hq
      exact zA4.1 (iC q hq)
     intro r hr
     simp only[zB3,List.not_mem_nil,or_false]at hr
     rcases hr with rfl|rfl|rfl|rfl|rfl
     ·exact .inr ⟨fun q hq=>by simp at hq,fun q _=>by simp,fun h=>absurd h (Nat.lt_irrefl _)⟩
     ·refine .inr ⟨fun q hq hm=>?_,fun q _=>by simp,fun _=>⟨fun q hq=>.inl ?_,fun q hq=>.inl ?_⟩⟩
      ·have:=hD2' q hq; simp only[zA4]at hm; omega
      ·simp only[zA4]at hq; show q<Z1.next+0; omega
      ·have:=hcm q hq; show q<Z1.next+0; omega
     ·refine .inr ⟨fun q hq hm=>hD1' q hq,fun q _=>by simp,fun _=>⟨fun q hq=>.inl ?_,fun q hq=>.inl ?_⟩⟩
      ·simp only[zA4]at hq; show q<Z.next+0; omega
      ·have:=hcm q hq; show q<Z.next+0; omega
     ·exact .inr ⟨fun q hq=>by simp at hq,fun q _=>by simp,fun h=>absurd h (Nat.lt_irrefl _)⟩
     ·exact .inr ⟨fun q hq=>by simp at hq,fun q _=>by simp,fun h=>absurd h (Nat.lt_irrefl _)⟩
    simp (maxDischargeDepth:=6) only[hz2n,hA,ruD,ruW,putL,Nat.reduceLeDiff,xF,ruU,entryE,Nat.reduceLT,Nat.reduceAdd,Nat.reduceMul,Nat.reduceEqDiff]
    rw[wd_app (by simp only[ruU,entryE,Nat.reduceLT,Nat.reduceAdd,Nat.reduceMul,Nat.reduceEqDiff])]
    refine genV_append (Z:=ext Z2 []) (v:=w2) (u:=uC) (L:=rvs.drop (bot+1)) hv2 (PC.of mYZ2.next fun q hq=>by rw[zA4.1 (iC q hq)]; exact gmb mYZ2) (fun q hq=>by rw[zA4.1 (iC q hq)]; exact⟨by show mb<Z2.next; omega,by show Z2.get mb≠none; rw[gmb mYZ2]; exact bk_ne hbm⟩) okZ2 (one_sub hvone fun z hz=>zD5 hz) (scbL_mono mYZ2.next _ (scbL_sub hvsc fun z hz=>zD5 hz)) (scbL_mono mYZ2.next _ (scbL_append hAsc hmsc)) (by simp only[zF1]; omega) (zA7 rfl) rfl (by simp only[ruU,entryE,Nat.reduceLT,Nat.reduceAdd,Nat.reduceMul,Nat.reduceEqDiff]) (by simp only[all2_cons,all2_nil,hA,and_true]) ?_
    intro w3 Z3 D3 m3 hv3 hi3 hD3
    replace m3:Mod (idsV w2) Z2 Z3:=m3
    replace hi3:∀ q∈idsV w3,zn≤q:=fun q hq=>by
     rcases hi3 q hq with h|h
     ·exact hi2 q h
     ·rw[ext_next]at h; simp at h; omega
    have mYZ3:Mod [] Y Z3:=mYZ2.step m3 okY (fun q hq=>.inr (by have:=hi2 q hq; omega))
    have okZ3:=mYZ3.ok okY
    have hglu:rvs.take top++mid up (part rvs top bot) fr n++rvs.drop (bot+1)=glue up rvs fr top bot n:=rfl
    have hgln:(glue up rvs fr top bot n).length=x.grid.length:=by rw[glue_len (by omega) (by omega) (by omega) (by omega),hlr]
    obtain⟨y1,y2,⟨y0,_⟩|⟨y0,nw3,ew3,kw3,hnw3⟩⟩:=hv3
    ·omega
    rw[hglu,Nat.mul_one]at y1
    rw[hglu]at kw3
    have hcnt:top+(mid up (part rvs top bot) fr n).length+(rvs.drop (bot+1)).length=x.grid.length:=by rw[←y1,hgln]
    rw[hcnt]at ew3
    subst ew3
    have hn3:=hi3 nw3 (by simp[idsV])
    have kz3:bk Z3 p=_:=(mYZ3.bk (by omega) (by simp)).trans kp
    obtain⟨z3,hz3n⟩:∃ z,Z3.next=z:=⟨_,rfl⟩
    have hz23:z2≤z3:=by have:=m3.next; omega
    rw[hz3n]at hnw3
    have hpz3:p<z3:=by omega
    rw[show Z3=ext Z3 [] from rfl]
    simp (maxDischargeDepth:=6) only[k0,hz3n,hpz3,kz3,hnw3,hA,Tryd.results73,ruD,ruW,putL,Nat.reduceLeDiff,xF,ruU,entryE,Nat.reduceLT,Nat.reduceAdd,Nat.reduceMul,Nat.reduceEqDiff]
    have og:=a.own.glue (gr:=hbn.symm▸gr) (m:=mY) (m2:=mYZ3.mono (by simp)) (N:=N) (up:=up) (top:=top) (bot:=bot) (n:=n) (y:=nw3) (by have:=a.lo; omega) (by omega) (by omega) (by omega) hgl kw3 (by omega) (by omega)
    have mW:Mod [p] Z3 (uw Z3 p 0 [Value.slice (some ⟨nw3,0,none⟩) x.grid.length x.grid.length]):=Mod.uw (by simp)
    have kwp:bk (uw Z3 p 0 [Value.slice (some ⟨nw3,0,none⟩) x.grid.length x.grid.length]) p=some ⟨79,false,St.cells {x with grid:=glue up x.grid (List.replicate n (List.replicate W Ce.sp)) top bot n} (.slice (some ⟨nw3,0,none⟩) x.grid.length x.grid.length)⟩:=by
     rw[bk_uw_eq,kz3]; rfl
    have hids:∀ q∈(glue up rvs fr top bot n).flatMap idsV,q≠p∧q<y:=fun q hq=>by
     obtain⟨rv,h4,h5⟩:=zE1.1 hq
     rcases glue_mem h4 with h6|h6
     ·have h7:=zE1.2 ⟨rv,h6,h5⟩
      have:=(aY.own.ids q h7).2.1
      exact⟨fun e=>a.apart (zD0 _ (e▸h7)),by omega⟩
     ·have h7:=gr.ids q (zE1.2 ⟨rv,h6,h5⟩)
      exact⟨by omega,by omega⟩
    rw[htop,hbot,hn',Int.toNat_natCast,Int.toNat_natCast,Int.toNat_natCast,glue_roll]
    refine⟨(ModN.of (Ws:=[]) (mY.trans mYZ3) (by simp)).trans (ModN.of mW (aY.mod0 mYZ3).pN),rfl,fun y' hy'=>?_⟩
    obtain rfl:=Option.some.inj hy'
    refine⟨.slice (some ⟨nw3,0,none⟩) x.grid.length x.grid.length,glue up rvs fr top bot n,⟨_,_,rfl⟩,kwp,og.of mW.next (fun q hq1 hq2 hq3=>mW.get q hq2 ?_),?_,by rw[ext_next,uw_next]; simp; omega,a.lo⟩
    ·simp only[zA4]
     rcases zB1.1 hq3 with h|h
     ·simp only[idsV,zA4]at h; omega
     ·exact (hids q h).1
    ·intro h
     rcases zB1.1 h with h|h
     ·simp only[idsV,zA4]at h; omega
     ·exact (hids p h).1 rfl
 ·rw[if_neg hall]
  have fin:RefR 79 N p none H (.ok (.bool false)) (ext H []):=⟨ModN.refl,rfl,fun y h=>by cases h⟩
  have hs:d1=false∨(d1=true∧d2=false)∨(d1=true∧d2=true∧d3=false)∨(d1=true∧d2=true∧d3=true∧d4=false)∨(d1=true∧d2=true∧d3=true∧d4=true∧d5=false):=by
   cases d1<;>cases d2<;>cases d3<;>cases d4<;>cases d5<;>simp_all
  rcases hs with rfl|⟨rfl,rfl⟩|⟨rfl,rfl,rfl⟩|⟨rfl,rfl,rfl,rfl⟩|⟨rfl,rfl,rfl,rfl,rfl⟩
  ·simp (maxDischargeDepth:=6) only[e1,Tryd.results73,ruW,putL,Nat.reduceLeDiff,xF,ruU,entryE,Nat.reduceLT,Nat.reduceAdd,Nat.reduceMul,Nat.reduceEqDiff]
   exact fin
  ·simp (maxDischargeDepth:=6) only[e1,e2,Tryd.results73,ruW,putL,Nat.reduceLeDiff,xF,ruU,entryE,Nat.reduceLT,Nat.reduceAdd,Nat.reduceMul,Nat.reduceEqDiff]
   exact fin
  ·simp (maxDischargeDepth:=6) only[hbn,hpl,hcell,e1,e2,e3,Tryd.results73,ruW,putL,Nat.reduceLeDiff,xF,ruU,entryE,Nat.reduceLT,Nat.reduceAdd,Nat.reduceMul,Nat.reduceEqDiff]
   exact fin
  ·simp (maxDischargeDepth:=6) only[hbn,hpl,hcell,e1,e2,e3,e4,Tryd.results73,ruW,putL,Nat.reduceLeDiff,xF,ruU,entryE,Nat.reduceLT,Nat.reduceAdd,Nat.reduceMul,Nat.reduceEqDiff]
   exact fin
  ·have i1:=of_decide_eq_true h1
   have i2:=of_decide_eq_true h2
   have i3:=of_decide_eq_true h3
   have hw1:IntKind.i64.wrap (o.col-o.row)=o.col-o.row:=wrap_sm (by omega) (by omega)
   have hw2:IntKind.i64.wrap (o.col-o.row+1)=o.col-o.row+1:=wrap_sm (by omega) (by omega)
   simp (maxDischargeDepth:=6) only[hbn,hpl,hcell,e1,e2,e3,e4,e5,hw1,hw2,Tryd.results73,ruW,putL,Nat.reduceLeDiff,xF,ruU,entryE,Nat.reduceLT,Nat.reduceAdd,Nat.reduceMul,Nat.reduceEqDiff]
   exact fin
def St.move (W:Nat) (x:St) (o:Op):Option St:=if (decide (0≤o.row)&&decide (o.row<x.grid.length)&&decide (0≤o.col)&&decide (o.col<W))=true then some {x with row:=o.row,col:=o.col} else none
def St.look (x:St) (o:Op):Option St:=if colr o.look=true then some {x with pen:=o.look} else none
theorem does_eq (W:Nat) (r:List UInt8→Option (List Int)) (x:St) (o:Op):x.does W r o =
  if o.kind=1 then x.move W o else if o.kind=2 then x.look o else if o.kind=3 then x.text W (r o.text.data.toList) else if o.kind=4 then x.clear W else if o.kind=5 then x.roll W o true else if o.kind=6 then x.roll W o false
  else if o.kind=7 then some {x with shown:=true} else if o.kind=8 then some {x with shown:=false} else none:=by
 unfold St.does St.move St.look St.text St.clear St.roll
 by_cases h5:o.kind=5
 ·simp[h5]
 ·by_cases h6:o.kind=6
  ·simp[h6]
  ·simp only[h5,h6,or_self,if_false]
   by_cases h3:o.kind=3
   ·simp[h3]
    cases r o.text.data.toList<;>rfl
   ·simp only[h3,if_false]
theorem putAll_len (pen:Lk):∀ (cs:List Int) (l:List Ce) (k:Nat),(putAll pen cs l k).1.length=l.length
 |[],_,_=>rfl
 |c::cs,l,k=>by rw[putAll,putAll_len pen cs,putC_len]
theorem putAll_col (pen:Lk) (W:Nat):∀ (cs:List Int) (l:List Ce) (k:Nat),St.fits W cs (k:Int)=true→k≤W→(putAll pen cs l k).2≤W
 |[],_,_,_,h=>h
 |c::cs,l,k,hf,_=>by
  obtain⟨_,h2,h3⟩:=fits_cons hf
  rw[putAll]
  refine putAll_col pen W cs _ _ ?_ (by omega)
  rw[show ((k+cellsR c:Nat):Int)=(k:Int)+(cellsR c:Int) by omega]
  exact h3
theorem clearL_len:∀ (n:Nat) (l:List Ce) (k:Nat),(clearL l k n).length=l.length
 |0,_,_=>rfl
 |n+1,l,k=>by rw[clearL,clearL_len n,setL_len]
theorem St.Ok.row {x:St} {W:Nat} (ok:x.Ok W):(x.grid.getD x.row.toNat []).length=W:=by
 have h0:=ok.row0
 have h1:=ok.row1
 have h2:x.row.toNat<x.grid.length:=by omega
 rw[zE2,zA6 h2,Option.getD_some]
 exact ok.wid _ (List.getElem_mem _)
theorem does_ok {W:Nat} {x y:St} {o:Op} {r:List UInt8→Option (List Int)} (ok:x.Ok W) (h:x.does W r o=some y):y.Ok W:=by
 have setrow:∀ l:List Ce,l.length=W→∀ c:Int,0≤c→c≤W→St.Ok {x with grid:=x.grid.set x.row.toNat l,col:=c} W:=fun l hl c c0 c1=>by
  have:=ok.setRow (i:=x.row.toNat) hl
  exact⟨this.h1,this.h2,this.w1,this.w2,this.wid,this.row0,this.row1,c0,c1⟩
 rw[does_eq]at h
 split at h
 ·unfold St.move at h
  split at h
  ·rename_i hh
   simp only[zA8,decide_eq_true_eq]at hh
   obtain rfl:=Option.some.inj h
   exact⟨ok.h1,ok.h2,ok.w1,ok.w2,ok.wid,hh.1.1.1,hh.1.1.2,hh.1.2,by show o.col≤W; omega⟩
  ·cases h
 split at h
 ·unfold St.look at h
  split at h
  ·obtain rfl:=Option.some.inj h
   exact⟨ok.h1,ok.h2,ok.w1,ok.w2,ok.wid,ok.row0,ok.row1,ok.col0,ok.col1⟩
  ·cases h
 split at h
 ·unfold St.text at h
  split at h
  ·cases h
  ·rename_i l _
   split at h
   ·rename_i hf
    obtain rfl:=Option.some.inj h
    have c0:=ok.col0
    have c1:=ok.col1
    refine setrow _ (by rw[putAll_len]; exact ok.row) _ (by omega) ?_
    have:=putAll_col x.pen W l (x.grid.getD x.row.toNat []) x.col.toNat (by rw[show ((x.col.toNat:Nat):Int)=x.col by omega]; exact hf) (by omega)
    omega
   ·cases h
 split at h
 ·unfold St.clear at h
  split at h
  ·obtain rfl:=Option.some.inj h
   exact setrow _ (by rw[clearL_len]; exact ok.row) x.col ok.col0 ok.col1
  ·cases h
 have roll:∀ up,x.roll W o up=some y→y.Ok W:=fun up h=>by
  unfold St.roll at h
  split at h
  ·rename_i hh
   simp only[zA8,decide_eq_true_eq]at hh
   obtain rfl:=Option.some.inj h
   rw[glue_roll]
   have hl:(glue up x.grid (List.replicate o.n.toNat (List.replicate W Ce.sp)) o.row.toNat o.col.toNat o.n.toNat).length=x.grid.length:=glue_len (by omega) (by omega) (by omega) zF9
   refine⟨?_,?_,ok.w1,ok.w2,fun l hl=>?_,ok.row0,?_,ok.col0,ok.col1⟩
   ·simp only[hl]; exact ok.h1
   ·simp only[hl]; exact ok.h2
   ·rcases glue_mem hl with h|h
    ·exact ok.wid l h
    ·rw[List.eq_of_mem_replicate h,zF9]
   ·simp only[hl]; exact ok.row1
  ·cases h
 split at h
 ·exact roll true h
 split at h
 ·exact roll false h
 split at h
 ·obtain rfl:=Option.some.inj h
  exact⟨ok.h1,ok.h2,ok.w1,ok.w2,ok.wid,ok.row0,ok.row1,ok.col0,ok.col1⟩
 split at h
 ·obtain rfl:=Option.some.inj h
  exact⟨ok.h1,ok.h2,ok.w1,ok.w2,ok.wid,ok.row0,ok.row1,ok.col0,ok.col1⟩
 ·cases h
theorem all_drop {W:Nat} {r:List UInt8→Option (List Int)}:∀ (l:List Op) (k i:Nat) (x y:St) (o:Op),l[k]?=some o→x.does W r o=some y→St.all W r (l.drop k) i x=St.all W r (l.drop (k+1)) (i+1) y:=fun l k i x y o ho hd=>by
 have hk:=(zE8.1 ho).1
 rw[zF0 hk,St.all]
 rw[zA6 hk]at ho
 rw[Option.some.inj ho,hd]
theorem all_stop {W:Nat} {r:List UInt8→Option (List Int)}:∀ (l:List Op) (k i:Nat) (x:St) (o:Op),l[k]?=some o→x.does W r o=none→St.all W r (l.drop k) i x=.inr i:=fun l k i x o ho hd=>by
 have hk:=(zE8.1 ho).1
 rw[zF0 hk,St.all]
 rw[zA6 hk]at ho
 rw[Option.some.inj ho,hd]
end Go.Proofs.YtaojjfebkldmnaaDoor
namespace Go.Ax
section
variable {P : Program} {ro : Option Nat} {H : AHeap} {N : Nat} {E : Env} {ds : List Deferred} {ops : Array Oper} {rest : List Oper} {ty : TypeId} {pos : String} {after : Array Edge} {Q : Exit → AAct → AHeap → Prop}
theorem w_defer {f:FuncId} {args:List Operand} {ts:Array TypeId} (ha:args.all (opOk P N)=true):wpOps P none ops (⟨none,.defer ⟨.value (.func f),⟨args⟩,ts⟩,ty,pos,after,none⟩::rest) (mkA N E ds) H Q=wpOps P none ops rest (mkA N E (⟨.fn (.func f) #[],⟨args.map (opv E)⟩⟩::ds)) H Q:=by
 simp only[wpOps,wantA,aDefer,aevals_opv ha,aeval,zA1,zA3,deferV]
 rfl
end
end Go.Ax
namespace Go.Proofs.YtaojjfebkldmnaaDoor
open Go.Ax
def AllR (N p:Nat) (r:St ⊕ Nat) (H:AHeap) (out:Out) (X:AHeap):Prop :=
 ModN N H X∧match r with
  |.inl y=>out=.ok (.int .i64 (-1))∧∃ v rvs,Slc v∧StAt 76 N X p v rvs y
  |.inr i=>out=.ok (.int .i64 (i:Int))
theorem kindF_body:(kindF.all fun f=>hasBody Tryd.prog f)=true:=by kernel_rfl
theorem leave_ret {N:Nat} {E:Env} {H:AHeap} {R:Out→AHeap→Prop} (hok:H.base≤H.next) (hR:∀ i,E 4=i→R (.ok i) (ext H [⟨99,false,[]⟩])) (h4:4<N) :
  leaveA Tryd.prog Tryd.f49 (mkA N E [⟨.fn (.func 68) #[],⟨[]⟩⟩]) [⟨.fn (.func 68) #[],⟨[]⟩⟩] .returning H R:=by
 refine⟨by kernel_rfl,_,_,_,exec1_ret H hok,?_⟩
 refine⟨[E 4],?_,?_⟩
 ·show resVal Tryd.prog _ _ [.tmp 4]=_
  rw[rs_tmp h4,rs_nil]
  rfl
 ·rw[tup_one]; exact hR _ rfl
theorem leave_pan {N:Nat} {E:Env} {H:AHeap} {R:Out→AHeap→Prop} (hok:H.base≤H.next) (hR:∀ i,E 4=i→R (.ok i) (ext H [⟨99,false,[]⟩])) (h4:4<N) :
  leaveA Tryd.prog Tryd.f49 (mkA N E [⟨.fn (.func 68) #[],⟨[]⟩⟩]) [⟨.fn (.func 68) #[],⟨[]⟩⟩] (.panicking [refusedP]) H R:=by
 refine⟨by kernel_rfl,_,_,_,exec1_pan H hok,?_⟩
 rw[settle_pan]
 refine⟨[E 4],?_,?_⟩
 ·show resVal Tryd.prog _ _ [.tmp 4]=_
  rw[rs_tmp h4,rs_nil]
  rfl
 ·rw[tup_one]; exact hR _ rfl
def wholeB:List Ce→Bool
 |[]=>true
 |c::l=>if (decide (cellsR c.rune=0)||!colr c.look)=true then false else
   if cellsR c.rune=2 then (match l with|[]=>false|d::l'=>decide (d=c.look.ce (-1))&&wholeB l') else wholeB l
theorem wholeB_cons (c : Ce) (l : List Ce) : wholeB (c :: l) = if (decide (cellsR c.rune = 0) || !colr c.look) = true then false else
   if cellsR c.rune=2 then (match l with|[]=>false|d::l'=>decide (d=c.look.ce (-1))&&wholeB l') else wholeB l:=by
 cases l<;>first|rfl|rw[wholeB]
theorem Lk.ce_look (k:Lk) (r:Int):(k.ce r).look=k:=rfl
theorem whole39_c (H:AHeap) (v:Value) (l:List Ce) (h:RowAt H v l) (hl:l.length<1000000):Pure 44 [v] H (.bool (wholeB l)):=by
 obtain⟨b,hb⟩:∃ b,H.next=b:=⟨_,rfl⟩
 obtain⟨B,hB⟩:∃ B,wholeB l=B:=⟨_,rfl⟩
 rw[hB]
 refine callS_fn mixed Tryd.func44 rfl Tryd.ntmps44 (zA7 rfl) fun wf hsc=>?_
 obtain⟨a1,c1,e1⟩:=h.sl
 rw[e1]
 simp (maxDischargeDepth:=6) only[ruW,putL,Nat.reduceLeDiff,xF,ruU,entryE,Nat.reduceLT,Nat.reduceAdd,Nat.reduceMul,Nat.reduceEqDiff]
 rw[←e1]
 refine w_env fun E hE=>?_
 have g0:E 0=v:=by rw[hE]; simp only[ruU,entryE,Nat.reduceLT,Nat.reduceAdd,Nat.reduceMul,Nat.reduceEqDiff]
 have g3:E 3=.int .i64 ((0:Nat):Int):=by rw[hE]; (simp only[ruU,entryE,Nat.reduceLT,Nat.reduceAdd,Nat.reduceMul,Nat.reduceEqDiff]<;>rfl)
 clear hE
 refine blockC_meet (fun E' H'=>H'=ext H []∧B=true) ?_ ?_
 ·refine w_loop (fun (k:Nat) E' H'=>H'=ext H []∧E' 0=v∧E' 3=.int .i64 (k:Int)∧k≤l.length∧wholeB (l.drop k)=B) (fun k=>l.length-k) 0
   ⟨rfl,g0,g3,zB0 _,hB⟩ ?_
  clear g0 g3
  rintro k E H' ⟨hH,g0,g3,hk,hi⟩
  rw[hH]
  by_cases hkl:k=l.length
  ·have hc:decide ((k:Int)<(l.length:Int))=false:=by simp[hkl]
   rw[e1]at g0
   simp (maxDischargeDepth:=6) only[g0,g3,hc,ruW,putL,Nat.reduceLeDiff,xF,ruU,entryE,Nat.reduceLT,Nat.reduceAdd,Nat.reduceMul,Nat.reduceEqDiff]
   rw[zE3 (by omega),wholeB]at hi
   exact joinR_normal ⟨rfl,hi.symm⟩
  ·have hlt:k<l.length:=by omega
   have hc:decide ((k:Int)<(l.length:Int))=true:=decide_eq_true (by omega)
   rcases h with⟨h,_⟩|⟨_,n1,o1,s1,x1,t1,p1,L1,rfl,b1,n1l,le1,tk1⟩
   ·rw[h]at hlt; simp at hlt
   obtain⟨r1,hr1⟩:∃ r,l[k]?=some r:=⟨_,zA6 hlt⟩
   have i1:=row_ia (n:=n1) (off:=o1) (s:=s1) (cap:=x1) (i:=(k:Int)) rfl hlt
   have q1:=run_load (e:=t1) (o:=p1) hr1 le1 tk1
   have q2:=look_load (e:=t1) (o:=p1) hr1 le1 tk1
   rw[hb]at n1l
   have hdr:l.drop k=r1::l.drop (k+1):=by
    rw[zF0 hlt]
    rw[zA6 hlt]at hr1
    rw[Option.some.inj hr1]
   rw[hdr,wholeB_cons]at hi
   obtain⟨m,hm⟩:∃ m,cellsR r1.rune=m:=⟨_,rfl⟩
   obtain⟨cl,hcl⟩:∃ x,colr r1.look=x:=⟨_,rfl⟩
   have hm3:=cellsR_cases r1.rune
   have hcs:=cellsOf_c (ext H []) r1.rune
   have hco:=coloured39_c (ext H []) r1.look
   rw[hm]at hcs hi hm3
   rw[hcl]at hco hi
   have c00:decide (((0:Nat):Int)=0)=true:=by decide
   have c10:decide (((1:Nat):Int)=0)=false:=by decide
   have c12:decide (((1:Nat):Int)=2)=false:=by decide
   have c20:decide (((2:Nat):Int)=0)=false:=by decide
   have c22:decide (((2:Nat):Int)=2)=true:=by decide
   simp (maxDischargeDepth:=6) only[g0,g3,hb,hc,i1,b1,n1l,q1,q2,qk_old,ruW,putL,Nat.reduceLeDiff,xF,ruU,entryE,Nat.reduceLT,Nat.reduceAdd,Nat.reduceMul,Nat.reduceEqDiff]
   refine hcs.to ?_
   rcases hm3 with rfl|rfl|rfl
   ·obtain rfl:false=B:=by simpa using hi
    simp (maxDischargeDepth:=6) only[g0,g3,hb,hc,i1,b1,n1l,q1,q2,qk_old,c00,joinR_ret,Tryd.results44,ruW,putL,Nat.reduceLeDiff,xF,ruU,entryE,Nat.reduceLT,Nat.reduceAdd,Nat.reduceMul,Nat.reduceEqDiff]
    exact Fin.pureE rfl rfl
   ·simp (maxDischargeDepth:=6) only[g0,g3,hb,hc,i1,b1,n1l,q1,q2,qk_old,c10,c12,c20,c22,ruW,putL,Nat.reduceLeDiff,xF,ruU,entryE,Nat.reduceLT,Nat.reduceAdd,Nat.reduceMul,Nat.reduceEqDiff]
    refine hco.to ?_
    cases cl with
    |false =>
     obtain rfl:false=B:=by simpa using hi
     simp (maxDischargeDepth:=6) only[g0,g3,hb,hc,i1,b1,n1l,q1,q2,qk_old,c10,zC0,joinR_ret,Tryd.results44,ruW,putL,Nat.reduceLeDiff,xF,ruU,entryE,Nat.reduceLT,Nat.reduceAdd,Nat.reduceMul,Nat.reduceEqDiff]
     exact Fin.pureE rfl rfl
    |true =>
     simp (maxDischargeDepth:=6) only[g0,g3,hb,hc,i1,b1,n1l,q1,q2,qk_old,c10,c12,c20,c22,zB5,wrap_succ (show k<1000000 by omega),ruW,putL,Nat.reduceLeDiff,xF,ruU,entryE,Nat.reduceLT,Nat.reduceAdd,Nat.reduceMul,Nat.reduceEqDiff]
     refine loopC_next ⟨k+1,by omega,rfl,?_,?_,by omega,by simpa using hi⟩
     ·simp only[g0,ruU,entryE,Nat.reduceLT,Nat.reduceAdd,Nat.reduceMul,Nat.reduceEqDiff]
     ·simp only[ruU,entryE,Nat.reduceLT,Nat.reduceAdd,Nat.reduceMul,Nat.reduceEqDiff]
   ·simp (maxDischargeDepth:=6) only[g0,g3,hb,hc,i1,b1,n1l,q1,q2,qk_old,c10,c12,c20,c22,ruW,putL,Nat.reduceLeDiff,xF,ruU,entryE,Nat.reduceLT,Nat.reduceAdd,Nat.reduceMul,Nat.reduceEqDiff]
    refine hco.to ?_
    cases cl with
    |false =>
     obtain rfl:false=B:=by simpa using hi
     simp (maxDischargeDepth:=6) only[g0,g3,hb,hc,i1,b1,n1l,q1,q2,qk_old,c20,zC0,joinR_ret,Tryd.results44,ruW,putL,Nat.reduceLeDiff,xF,ruU,entryE,Nat.reduceLT,Nat.reduceAdd,Nat.reduceMul,Nat.reduceEqDiff]
     exact Fin.pureE rfl rfl
    |true =>
     simp (maxDischargeDepth:=6) only[g0,g3,hb,hc,i1,b1,n1l,q1,q2,qk_old,c10,c12,c20,c22,zB5,wrap_succ (show k<1000000 by omega),ruW,putL,Nat.reduceLeDiff,xF,ruU,entryE,Nat.reduceLT,Nat.reduceAdd,Nat.reduceMul,Nat.reduceEqDiff]
     have hws:IntKind.i64.wrap (((k+1:Nat):Int)-1)=(k:Int):=(wrap_sm (n:=((k+1:Nat):Int)-1) (by omega) (by omega)).trans (by omega)
     by_cases hlt1:k+1<l.length
     ·have hc1:decide (((k+1:Nat):Int)=(l.length:Int))=false:=decide_eq_false (by omega)
      obtain⟨r2,hr2⟩:∃ r,l[k+1]?=some r:=⟨_,zA6 hlt1⟩
      have hdr2:l.drop (k+1)=r2::l.drop (k+1+1):=by
       rw[zF0 hlt1]
       rw[zA6 hlt1]at hr2
       rw[Option.some.inj hr2]
      rw[hdr2]at hi
      have hi':(decide (r2=r1.look.ce (-1))&&wholeB (l.drop (k+1+1)))=B:=by simpa using hi
      have i2:=row_ia (n:=n1) (off:=o1) (s:=s1) (cap:=x1) (i:=((k+1:Nat):Int)) rfl hlt1
      have q3:=row_load (e:=t1) (o:=p1) hr2 le1 tk1
      refine w_drawB [] [(4,36)] (by kernel_rfl) (by kernel_rfl) (by kernel_rfl) fun ops anc hA hG=>?_
      simp only[all2_cons]at hG
      simp (maxDischargeDepth:=6) only[g0,g3,hb,hc1,i1,i2,b1,n1l,q2,q3,qk_old,hws,hG,Lk.val,Ce.val,Ce.cells,ruD,ruW,putL,Nat.reduceLeDiff,xF,ruU,entryE,Nat.reduceLT,Nat.reduceAdd,Nat.reduceMul,Nat.reduceEqDiff]
      obtain⟨dq,hdq⟩:∃ x,decide (r2=r1.look.ce (-1))=x:=⟨_,rfl⟩
      rw[hdq]at hi'
      refine wd_eqS (ts:=[3,3,3,4,4,4]) (xs:=r2.cells) (ys:=(r1.look.ce (-1)).cells) (r:=!dq) fl55 ag55 gd55 (by rw[ce_eqL,hdq]; rfl) (by simp only[ruU,entryE,Nat.reduceLT,Nat.reduceAdd,Nat.reduceMul,Nat.reduceEqDiff]) (by simp only[ruU,entryE,Nat.reduceLT,Nat.reduceAdd,Nat.reduceMul,Nat.reduceEqDiff]) (by decide) (by simp only[ruU,entryE,Nat.reduceLT,Nat.reduceAdd,Nat.reduceMul,Nat.reduceEqDiff]; rfl) (by simp only[ruU,entryE,Nat.reduceLT,Nat.reduceAdd,Nat.reduceMul,Nat.reduceEqDiff]; rfl) (ce_fits _) (ce_fits _) ?_
      cases dq with
      |true =>
       simp (maxDischargeDepth:=6) only[g0,g3,hG,zB5,wrap_succ (show k+1<1000000 by omega),ruD,ruW,putL,Nat.reduceLeDiff,xF,ruU,entryE,Nat.reduceLT,Nat.reduceAdd,Nat.reduceMul,Nat.reduceEqDiff]
       refine loopC_next ⟨k+1+1,by omega,rfl,?_,?_,by omega,by simpa using hi'⟩
       ·simp only[g0,ruU,entryE,Nat.reduceLT,Nat.reduceAdd,Nat.reduceMul,Nat.reduceEqDiff]
       ·simp only[ruU,entryE,Nat.reduceLT,Nat.reduceAdd,Nat.reduceMul,Nat.reduceEqDiff]
      |false =>
       obtain rfl:false=B:=by simpa using hi'
       simp (maxDischargeDepth:=6) only[g0,g3,hG,zC0,joinR_ret,Tryd.results44,ruD,ruW,putL,Nat.reduceLeDiff,xF,ruU,entryE,Nat.reduceLT,Nat.reduceAdd,Nat.reduceMul,Nat.reduceEqDiff]
       exact Fin.pureE rfl rfl
     ·have hc1:decide (((k+1:Nat):Int)=(l.length:Int))=true:=decide_eq_true (by omega)
      rw[zE3 (by omega)]at hi
      obtain rfl:false=B:=by simpa using hi
      refine w_drawB [] [(4,36)] (by kernel_rfl) (by kernel_rfl) (by kernel_rfl) fun ops anc hA hG=>?_
      simp only[all2_cons]at hG
      simp (maxDischargeDepth:=6) only[g0,g3,hb,hc1,hG,joinR_ret,Tryd.results44,ruD,ruW,putL,Nat.reduceLeDiff,xF,ruU,entryE,Nat.reduceLT,Nat.reduceAdd,Nat.reduceMul,Nat.reduceEqDiff]
      exact Fin.pureE rfl rfl
 ·rintro E H' ⟨hH,rfl⟩
  rw[hH]
  simp (maxDischargeDepth:=6) only[Tryd.results44,ruW,putL,Nat.reduceLeDiff,xF,ruU,entryE,Nat.reduceLT,Nat.reduceAdd,Nat.reduceMul,Nat.reduceEqDiff]
  exact Fin.pure rfl
def Ce.nil:Ce:=⟨0,0,0,false,false,false⟩
def rowB:Ce→List Ce→Bool
 |h,[]=>!decide (h.rune=-1)
 |h,c::l=>if (!colr c.look||(decide (h.rune=-1)&&!decide (c=h))||(!decide (h.rune=-1)&&decide (cellsR c.rune=0)))=true then false else
   rowB (if (!decide (h.rune=-1)&&decide (cellsR c.rune=2))=true then c.look.ce (-1) else Ce.nil) l
theorem rowB_whole:∀ (n:Nat) (l:List Ce),l.length≤n→rowB Ce.nil l=wholeB l
 |_,[],_=>rfl
 |n+1,c::l,hn=>by
  have h0:decide (Ce.nil.rune=-1)=false:=rfl
  rw[rowB,wholeB_cons,h0]
  obtain⟨m,hm⟩:∃ m,cellsR c.rune=m:=⟨_,rfl⟩
  obtain⟨cl,hcl⟩:∃ x,colr c.look=x:=⟨_,rfl⟩
  rw[hm,hcl]
  simp only[Bool.false_and,zC0,Bool.true_and,Bool.or_false]
  rw[Bool.or_comm]
  by_cases hg:(decide (m=0)||!cl)=true
  ·rw[if_pos hg,if_pos hg]
  ·rw[if_neg hg,if_neg hg]
   have hcl1:cl=true:=by cases cl<;>simp at hg ⊢
   by_cases h2:m=2
   ·rw[if_pos (decide_eq_true h2),if_pos h2]
    cases l with
    |nil=>rfl
    |cons d l' =>
     have h1:decide ((c.look.ce (-1)).rune=-1)=true:=rfl
     rw[rowB,h1]
     simp only[Bool.true_and,zB5,Bool.false_and,Bool.or_false]
     by_cases hd:d=c.look.ce (-1)
     ·have hdl:colr d.look=true:=by rw[hd,Lk.ce_look,hcl,hcl1]
      rw[hdl,decide_eq_true hd]
      simp only[zB5,Bool.or_self,zC3,if_false,Bool.true_and]
      exact rowB_whole n l' (by simp only[zB6]at hn; omega)
     ·rw[decide_eq_false hd]
      simp
   ·rw[if_neg (by simpa using h2),if_neg h2]
    exact rowB_whole n l (by simp only[zB6]at hn; omega)
theorem row39_c (H:AHeap) (v:Value) (l:List Ce) (h:RowAt H v l) (hl:l.length<1000000):Pure 45 [v] H (.bool (wholeB l)):=by
 obtain⟨b,hb⟩:∃ b,H.next=b:=⟨_,rfl⟩
 obtain⟨B,hB⟩:∃ B,wholeB l=B:=⟨_,rfl⟩
 rw[hB]
 rw[←rowB_whole _ l (zA5 _)]at hB
 refine callS_fn mixed Tryd.func45 rfl Tryd.ntmps45 (zA7 rfl) fun wf hsc=>?_
 have hok:=wf.base
 have hbase:H.base≤b:=hb▸wf.base
 simp (maxDischargeDepth:=6) only[hb,hbase,ruW,putL,Nat.reduceLeDiff,xF,ruU,entryE,Nat.reduceLT,Nat.reduceAdd,Nat.reduceMul,Nat.reduceEqDiff]
 generalize hX0:ext H [_]=X0
 have m0:Mod [] H X0:=hX0▸Mod.ext wf.base
 have n0:b<X0.next:=by rw[←hX0,ext_next,hb]; simp
 have b0:bk X0 (b+0)=some ⟨55,false,Ce.nil.cells⟩:=by rw[←hX0,bk_at hb (by simp)]; rfl
 refine w_env fun E hE=>?_
 have g0:E 0=v:=by rw[hE]; simp only[ruU,entryE,Nat.reduceLT,Nat.reduceAdd,Nat.reduceMul,Nat.reduceEqDiff]
 have g3:E 3=.pointer (some ⟨b+0,0,none⟩):=by rw[hE]; (simp only[ruU,entryE,Nat.reduceLT,Nat.reduceAdd,Nat.reduceMul,Nat.reduceEqDiff]<;>rfl)
 have g4:E 4=.int .i64 ((0:Nat):Int):=by rw[hE]; (simp only[ruU,entryE,Nat.reduceLT,Nat.reduceAdd,Nat.reduceMul,Nat.reduceEqDiff]<;>rfl)
 clear hE
 rw[zD3]at g3 b0
 refine blockC_meet (fun E' X=>Mod [] H X∧∃ hc:Ce,bk X b=some ⟨55,false,hc.cells⟩∧b<X.next∧E' 3=.pointer (some ⟨b,0,none⟩)∧B=!decide (hc.rune=-1)) ?_ ?_
 ·refine w_loop (fun (k:Nat × Ce) E' X=>Mod [] H X∧bk X b=some ⟨55,false,k.2.cells⟩∧b<X.next∧E' 0=v∧E' 3=.pointer (some ⟨b,0,none⟩)∧E' 4=.int .i64 (k.1:Int)∧k.1≤l.length∧rowB k.2 (l.drop k.1)=B) (fun k=>l.length-k.1) (0,Ce.nil)
   ⟨m0,b0,n0,g0,g3,g4,zB0 _,hB⟩ ?_
  clear g0 g3 g4 E
  rintro⟨k,hc⟩ E X ⟨mX,bX,bl,g0,g3,g4,hk,hi⟩
  simp only at bX g4 hk hi
  obtain⟨x,hx⟩:∃ x,X.next=x:=⟨_,rfl⟩
  have hxb:X.base≤x:=hx▸mX.ok hok
  have hX:RowAt X v l:=h.of mX.next fun n hn=>mX.get n (by
   rcases h with⟨_,a,c,rfl⟩|⟨_,n',off,s,c,e,o,L,rfl,_,hlt,_⟩
   ·simp only[scbL,scb,Bool.and_true]at hsc
    cases a with
    |none=>simp[idsV]at hn
    |some a=>simp only[idsV,zA4]at hn; subst hn; exact blt_lt hsc
   ·simp only[idsV,zA4]at hn; subst hn; exact hlt) (by simp)
  rw[hx]at bl
  rw[show X=ext X [] from rfl]
  by_cases hkl:k=l.length
  ·have hc':decide ((k:Int)<(l.length:Int))=false:=by simp[hkl]
   obtain⟨a1,c1,e1⟩:=h.sl
   rw[e1]at g0
   simp (maxDischargeDepth:=6) only[g0,g3,g4,hc',ruW,putL,Nat.reduceLeDiff,xF,ruU,entryE,Nat.reduceLT,Nat.reduceAdd,Nat.reduceMul,Nat.reduceEqDiff]
   rw[zE3 (by omega),rowB]at hi
   exact joinR_normal ⟨mX,hc,bX,by rw[ext_next]; simpa[hx]using bl,by simp only[g3,ruU,entryE,Nat.reduceLT,Nat.reduceAdd,Nat.reduceMul,Nat.reduceEqDiff],hi.symm⟩
  ·have hlt:k<l.length:=by omega
   have hc':decide ((k:Int)<(l.length:Int))=true:=decide_eq_true (by omega)
   rcases hX with⟨h',_⟩|⟨_,n1,o1,s1,x1,t1,p1,L1,rfl,b1,n1l,le1,tk1⟩
   ·rw[h']at hlt; simp at hlt
   obtain⟨r1,hr1⟩:∃ r,l[k]?=some r:=⟨_,zA6 hlt⟩
   have i1:=row_ia (n:=n1) (off:=o1) (s:=s1) (cap:=x1) (i:=(k:Int)) rfl hlt
   have q1:=row_load (e:=t1) (o:=p1) hr1 le1 tk1
   rw[hx]at n1l
   have hdr:l.drop k=r1::l.drop (k+1):=by
    rw[zF0 hlt]
    rw[zA6 hlt]at hr1
    rw[Option.some.inj hr1]
   rw[hdr,rowB]at hi
   obtain⟨m,hm⟩:∃ m,cellsR r1.rune=m:=⟨_,rfl⟩
   obtain⟨cl,hcl⟩:∃ y,colr r1.look=y:=⟨_,rfl⟩
   obtain⟨hn,hhn⟩:∃ y,decide (hc.rune=-1)=y:=⟨_,rfl⟩
   obtain⟨de,hde⟩:∃ y,decide (r1=hc)=y:=⟨_,rfl⟩
   rw[hm,hcl,hhn,hde]at hi
   have hcell:=bX
   simp only[Ce.cells]at hcell
   have fin:∀ (c:Ce) (L:List Bl),Mod [] H (ext (uw X b 0 c.cells) L)∧bk (ext (uw X b 0 c.cells) L) b=some ⟨55,false,c.cells⟩∧b<(ext (uw X b 0 c.cells) L).next:=fun c L=>by
    have m1:Mod [] H (uw X b 0 c.cells):=mX.step (Mod.uw (W:=[b]) (by simp)) hok (fun n hn=>.inr (by simp only[zA4]at hn; omega))
    refine⟨m1.trans (Mod.ext (m1.ok hok)),?_,?_⟩
    ·rw[bk_old (by rw[uw_next,hx]; exact bl),bk_uw_eq,bX]
     rfl
    ·rw[ext_next,uw_next,hx]; omega
   simp (maxDischargeDepth:=6) only[g0,g3,g4,hx,hxb,hc',i1,b1,n1l,q1,qk_old,Ce.val,ruW,putL,Nat.reduceLeDiff,xF,ruU,entryE,Nat.reduceLT,Nat.reduceAdd,Nat.reduceMul,Nat.reduceEqDiff]
   have hlk:=look39_c (ext X [⟨55,false,r1.cells⟩]) r1.look
   rw[hcl]at hlk
   simp only[Ce.cells]at hlk
   refine hlk.to ?_
   have hn2:decide (¬hc.rune=-1)=!hn:=by rw[decide_not,hhn]
   have hwi:=fun L=>wide39_c (ext X L) r1.rune
   rw[hm]at hwi
   cases cl with
   |false =>
    obtain rfl:false=B:=by simpa using hi
    simp (maxDischargeDepth:=6) only[zC0,joinR_ret,Tryd.results45,ruW,putL,Nat.reduceLeDiff,xF,ruU,entryE,Nat.reduceLT,Nat.reduceAdd,Nat.reduceMul,Nat.reduceEqDiff]
    exact Ax.Fin.mod rfl (mX.trans (Mod.ext (mX.ok hok))) rfl
   |true =>
    cases hn with
    |true =>
     simp (maxDischargeDepth:=6) only[hx,hxb,g3,hcell,bl,hhn,zB5,ruW,putL,Nat.reduceLeDiff,xF,ruU,entryE,Nat.reduceLT,Nat.reduceAdd,Nat.reduceMul,Nat.reduceEqDiff]
     refine w_eqS (ts:=[3,3,3,4,4,4]) (xs:=r1.cells) (ys:=hc.cells) (r:=!de) fl55 ag55 gd55 (by rw[ce_eqL,hde]; rfl) (by simp only[ruU,entryE,Nat.reduceLT,Nat.reduceAdd,Nat.reduceMul,Nat.reduceEqDiff]) (by simp only[ruU,entryE,Nat.reduceLT,Nat.reduceAdd,Nat.reduceMul,Nat.reduceEqDiff]) (by decide) (by simp only[ruU,entryE,Nat.reduceLT,Nat.reduceAdd,Nat.reduceMul,Nat.reduceEqDiff]; rfl) (by simp only[ruU,entryE,Nat.reduceLT,Nat.reduceAdd,Nat.reduceMul,Nat.reduceEqDiff]; rfl) (ce_fits _) (ce_fits _) ?_
     cases de with
     |false =>
      obtain rfl:false=B:=by simpa using hi
      simp (maxDischargeDepth:=6) only[zC0,joinR_ret,Tryd.results45,ruW,putL,Nat.reduceLeDiff,xF,ruU,entryE,Nat.reduceLT,Nat.reduceAdd,Nat.reduceMul,Nat.reduceEqDiff]
      exact Ax.Fin.mod rfl (mX.trans (Mod.ext (mX.ok hok))) rfl
     |true =>
      simp (maxDischargeDepth:=6) only[hx,hxb,g0,g3,g4,hcell,bl,hn2,zB5,wrap_succ (show k<1000000 by omega),ruW,putL,Nat.reduceLeDiff,xF,ruU,entryE,Nat.reduceLT,Nat.reduceAdd,Nat.reduceMul,Nat.reduceEqDiff]
      obtain⟨f1,f2,f3⟩:=fin Ce.nil [⟨55,false,r1.cells⟩,⟨55,false,Ce.nil.cells⟩]
      refine loopC_next ⟨(k+1,Ce.nil),by simp only; omega,f1,f2,f3,?_,?_,?_,by simp only; omega,by simpa using hi⟩
      all_goals simp only[g0,g3,ruU,entryE,Nat.reduceLT,Nat.reduceAdd,Nat.reduceMul,Nat.reduceEqDiff]
    |false =>
     simp (maxDischargeDepth:=6) only[hx,hxb,g0,g3,g4,hcell,bl,hn2,hhn,zB5,zC0,ruW,putL,Nat.reduceLeDiff,xF,ruU,entryE,Nat.reduceLT,Nat.reduceAdd,Nat.reduceMul,Nat.reduceEqDiff]
     refine (hwi [⟨55,false,[.int .i64 r1.rune,.int .i64 r1.fore,.int .i64 r1.back,.bool r1.bold,.bool r1.under,.bool r1.inv]⟩]).to ?_
     have c00:decide (((0:Nat):Int)=0)=true:=by decide
     have c10:decide (((1:Nat):Int)=0)=false:=by decide
     have c12:decide (((1:Nat):Int)=2)=false:=by decide
     have c20:decide (((2:Nat):Int)=0)=false:=by decide
     have c22:decide (((2:Nat):Int)=2)=true:=by decide
     rcases (hm▸cellsR_cases r1.rune:m=0∨m=1∨m=2) with rfl|rfl|rfl
     ·obtain rfl:false=B:=by simpa using hi
      simp (maxDischargeDepth:=6) only[c00,joinR_ret,Tryd.results45,ruW,putL,Nat.reduceLeDiff,xF,ruU,entryE,Nat.reduceLT,Nat.reduceAdd,Nat.reduceMul,Nat.reduceEqDiff]
      exact Ax.Fin.mod rfl (mX.trans (Mod.ext (mX.ok hok))) rfl
     ·simp (maxDischargeDepth:=6) only[c10,hx,hxb,g0,g3,g4,hcell,bl,hn2,hhn,zB5,zC0,ruW,putL,Nat.reduceLeDiff,xF,ruU,entryE,Nat.reduceLT,Nat.reduceAdd,Nat.reduceMul,Nat.reduceEqDiff]
      refine (hwi [⟨55,false,[.int .i64 r1.rune,.int .i64 r1.fore,.int .i64 r1.back,.bool r1.bold,.bool r1.under,.bool r1.inv]⟩,⟨55,false,[.int .i64 0,.int .i64 0,.int .i64 0,.bool false,.bool false,.bool false]⟩]).to ?_
      simp (maxDischargeDepth:=6) only[c12,hx,hxb,g0,g3,g4,hcell,bl,hn2,hhn,zB5,zC0,wrap_succ (show k<1000000 by omega),ruW,putL,Nat.reduceLeDiff,xF,ruU,entryE,Nat.reduceLT,Nat.reduceAdd,Nat.reduceMul,Nat.reduceEqDiff]
      obtain⟨f1,f2,f3⟩:=fin Ce.nil [⟨55,false,r1.cells⟩,⟨55,false,Ce.nil.cells⟩]
      refine loopC_next ⟨(k+1,Ce.nil),by simp only; omega,f1,f2,f3,?_,?_,?_,by simp only; omega,by simpa using hi⟩
      all_goals simp only[g0,g3,ruU,entryE,Nat.reduceLT,Nat.reduceAdd,Nat.reduceMul,Nat.reduceEqDiff]
     ·simp (maxDischargeDepth:=6) only[c20,hx,hxb,g0,g3,g4,hcell,bl,hn2,hhn,zB5,zC0,ruW,putL,Nat.reduceLeDiff,xF,ruU,entryE,Nat.reduceLT,Nat.reduceAdd,Nat.reduceMul,Nat.reduceEqDiff]
      refine (hwi [⟨55,false,[.int .i64 r1.rune,.int .i64 r1.fore,.int .i64 r1.back,.bool r1.bold,.bool r1.under,.bool r1.inv]⟩,⟨55,false,[.int .i64 0,.int .i64 0,.int .i64 0,.bool false,.bool false,.bool false]⟩]).to ?_
      simp (maxDischargeDepth:=6) only[c22,hx,hxb,g0,g3,g4,hcell,bl,hn2,hhn,zB5,zC0,wrap_succ (show k<1000000 by omega),ruW,putL,Nat.reduceLeDiff,xF,ruU,entryE,Nat.reduceLT,Nat.reduceAdd,Nat.reduceMul,Nat.reduceEqDiff]
      obtain⟨f1,f2,f3⟩:=fin (r1.look.ce (-1)) [⟨55,false,r1.cells⟩,⟨55,false,(r1.look.ce (-1)).cells⟩]
      refine loopC_next ⟨(k+1,r1.look.ce (-1)),by simp only; omega,f1,f2,f3,?_,?_,?_,by simp only; omega,by simpa using hi⟩
      all_goals simp only[g0,g3,ruU,entryE,Nat.reduceLT,Nat.reduceAdd,Nat.reduceMul,Nat.reduceEqDiff]
 ·rintro E X ⟨mX,hc,bX,bl,g3,hi⟩
  have hcell:=bX
  simp only[Ce.cells]at hcell
  obtain⟨d,hd⟩:∃ d,decide (hc.rune=-1)=d:=⟨_,rfl⟩
  rw[hd]at hi
  have hd2:decide (¬hc.rune=-1)=!d:=by rw[decide_not,hd]
  rw[show X=ext X [] from rfl]
  simp (maxDischargeDepth:=6) only[g3,hcell,bl,hd2,Tryd.results45,ruW,putL,Nat.reduceLeDiff,xF,ruU,entryE,Nat.reduceLT,Nat.reduceAdd,Nat.reduceMul,Nat.reduceEqDiff]
  exact Ax.Fin.mod (by rw[hi]) mX rfl
def okRow (W:Nat) (l:List Ce):Bool:=decide (l.length=W)&&wholeB l
theorem narrow39_c (H:AHeap) (v:Value) (l:List Ce) (W bw:Nat) (hr:RowAt H v l) (hl:l.length<1000000) (hb:bk H bw=some ⟨3,false,[.int .i64 (W:Int)]⟩):Pure 43 [v,.pointer (some ⟨bw,0,none⟩)] H (.bool (!okRow W l)):=by
 obtain⟨b,hbn⟩:∃ b,H.next=b:=⟨_,rfl⟩
 obtain⟨a,c,e⟩:=hr.sl
 obtain⟨B,hB⟩:∃ B,wholeB l=B:=⟨_,rfl⟩
 obtain⟨d,hd⟩:∃ d,decide (l.length=W)=d:=⟨_,rfl⟩
 have hd2:decide (¬(l.length:Int)=(W:Int))=!d:=by
  rw[←hd,decide_not]
  by_cases h:l.length=W
  ·rw[decide_eq_true h,decide_eq_true (by omega)]
  ·rw[decide_eq_false h,decide_eq_false (by omega)]
 have hwh:=whole39_c (ext H []) v l hr hl
 rw[okRow,hB,hd]
 rw[e,hB]at hwh
 rw[e]
 refine callS_fn mixed Tryd.func43 rfl Tryd.ntmps43 (zA7 rfl) fun wf hsc=>?_
 have hlt:bw<b:=hbn▸wf.lt hb
 cases d with
 |false =>
  simp (maxDischargeDepth:=6) only[hbn,hb,hlt,hd2,zC0,Bool.false_and,Tryd.results43,ruW,putL,Nat.reduceLeDiff,xF,ruU,entryE,Nat.reduceLT,Nat.reduceAdd,Nat.reduceMul,Nat.reduceEqDiff]
  exact Fin.pureE rfl rfl
 |true =>
  simp (maxDischargeDepth:=6) only[hbn,hb,hlt,hd2,zB5,Bool.true_and,ruW,putL,Nat.reduceLeDiff,xF,ruU,entryE,Nat.reduceLT,Nat.reduceAdd,Nat.reduceMul,Nat.reduceEqDiff]
  refine hwh.to ?_
  simp (maxDischargeDepth:=6) only[Tryd.results43,ruW,putL,Nat.reduceLeDiff,xF,ruU,entryE,Nat.reduceLT,Nat.reduceAdd,Nat.reduceMul,Nat.reduceEqDiff]
  exact Fin.pureE rfl rfl
def badAt (W:Nat):List (List Ce)→Option Nat
 |[]=>none
 |l::g=>if okRow W l=true then (badAt W g).map (·+1) else some 0
theorem badAt_drop (W:Nat):∀ (g:List (List Ce)) (k:Nat),(∀ i l,i<k→g[i]?=some l→okRow W l=true)→badAt W g=(badAt W (g.drop k)).map (·+k)
 |g,0,_=>by simp
 |[],k+1,_=>rfl
 |l::g,k+1,h=>by
  rw[badAt,if_pos (h 0 l (Nat.succ_pos _) rfl),List.drop_succ_cons,badAt_drop W g k fun i l' hi hl=>h (i+1) l' (by omega) hl]
  cases badAt W (g.drop k) with
  |none=>rfl
  |some m=>simp only[zA9]; congr 1
def okGrid (W:Nat) (g:List (List Ce)):Bool:=g.all (okRow W)
theorem badAt_ok (W:Nat):∀ (g:List (List Ce)),(badAt W g).isNone=okGrid W g
 |[]=>rfl
 |l::g=>by
  rw[badAt,okGrid,List.all_cons]
  cases h:okRow W l with
  |false=>simp
  |true=>rw[if_pos rfl,Option.isNone_map,badAt_ok W g,okGrid,Bool.true_and]
def ixV:Option Nat→Int
 |none=>-1
 |some n=>n
theorem index39_c (H:AHeap) (v:Value) (g:List (List Ce)) (W bw:Nat) (hg:GridAt H v g) (hw:∀ l∈g,l.length<1000000) (hgl:g.length<1000000) (hbw:bk H bw=some ⟨3,false,[.int .i64 (W:Int)]⟩) :
  Pure 61 [v,.func (.func 43) ⟨[]⟩ ⟨[.pointer (some ⟨bw,0,none⟩)]⟩] H (.int .i64 (ixV (badAt W g))):=by
 obtain⟨b,hb⟩:∃ b,H.next=b:=⟨_,rfl⟩
 refine callS_fn mixed Tryd.func61 rfl Tryd.ntmps61 (zA7 rfl) fun wf hsc=>?_
 obtain⟨a1,c1,e1⟩:=hg.sl
 rw[e1]
 simp (maxDischargeDepth:=6) only[ruW,putL,Nat.reduceLeDiff,xF,ruU,entryE,Nat.reduceLT,Nat.reduceAdd,Nat.reduceMul,Nat.reduceEqDiff]
 rw[←e1]
 refine w_env fun E hE=>?_
 have g0:E 0=v:=by rw[hE]; simp only[ruU,entryE,Nat.reduceLT,Nat.reduceAdd,Nat.reduceMul,Nat.reduceEqDiff]
 have g1:E 1=.func (.func 43) ⟨[]⟩ ⟨[.pointer (some ⟨bw,0,none⟩)]⟩:=by rw[hE]; simp only[ruU,entryE,Nat.reduceLT,Nat.reduceAdd,Nat.reduceMul,Nat.reduceEqDiff]
 have g7:E 7=.int .i64 (g.length:Int):=by rw[hE]; simp only[ruU,entryE,Nat.reduceLT,Nat.reduceAdd,Nat.reduceMul,Nat.reduceEqDiff]
 have g8:E 8=.int .i64 ((0:Nat):Int):=by rw[hE]; (simp only[ruU,entryE,Nat.reduceLT,Nat.reduceAdd,Nat.reduceMul,Nat.reduceEqDiff]<;>rfl)
 clear hE
 refine blockC_meet (fun E' H'=>H'=ext H []∧badAt W g=none) ?_ ?_
 ·refine w_loop (fun (k:Nat) E' H'=>H'=ext H []∧E' 0=v∧E' 1=.func (.func 43) ⟨[]⟩ ⟨[.pointer (some ⟨bw,0,none⟩)]⟩∧E' 7=.int .i64 (g.length:Int)∧E' 8=.int .i64 (k:Int)∧k≤g.length∧∀ i l,i<k→g[i]?=some l→okRow W l=true) (fun k=>g.length-k) 0
   ⟨rfl,g0,g1,g7,g8,zB0 _,fun i l hi=>by omega⟩ ?_
  clear g0 g1 g7 g8
  rintro k E H' ⟨hH,g0,g1,g7,g8,hk,hpre⟩
  rw[hH]
  have hbd:=badAt_drop W g k hpre
  by_cases hkl:k=g.length
  ·have hc:decide ((k:Int)<(g.length:Int))=false:=by simp[hkl]
   simp (maxDischargeDepth:=6) only[g0,g1,g7,g8,hc,ruW,putL,Nat.reduceLeDiff,xF,ruU,entryE,Nat.reduceLT,Nat.reduceAdd,Nat.reduceMul,Nat.reduceEqDiff]
   rw[zE3 (by omega)]at hbd
   exact joinR_normal ⟨rfl,hbd⟩
  ·have hlt:k<g.length:=by omega
   have hc:decide ((k:Int)<(g.length:Int))=true:=decide_eq_true (by omega)
   rcases hg with⟨h,_⟩|⟨_,n1,o1,s1,x1,t1,p1,L1,rfl,b1,n1l,le1,tk1⟩
   ·rw[h]at hlt; simp at hlt
   obtain⟨w1,hr1⟩:∃ r,g[k]?=some r:=⟨_,zA6 hlt⟩
   obtain⟨u1,hu1,ra1⟩:=tk1 k w1 hr1
   have i1:=grid_ia (n:=n1) (off:=o1) (s:=s1) (cap:=x1) (i:=(k:Int)) rfl hlt
   have q1:=grid_load (e:=t1) (o:=p1) hu1
   rw[hb]at n1l
   have hna:=narrow39_c (ext H []) u1 w1 W bw ra1 (hw w1 (zB9 hr1)) hbw
   obtain⟨d,hd⟩:∃ d,okRow W w1=d:=⟨_,rfl⟩
   rw[hd]at hna
   have hdr:g.drop k=w1::g.drop (k+1):=by
    rw[zF0 hlt]
    rw[zA6 hlt]at hr1
    rw[Option.some.inj hr1]
   rw[hdr,badAt,hd]at hbd
   simp (maxDischargeDepth:=6) only[g0,g1,g7,g8,hb,hc,i1,b1,n1l,q1,qk_old,ruW,putL,Nat.reduceLeDiff,xF,ruU,entryE,Nat.reduceLT,Nat.reduceAdd,Nat.reduceMul,Nat.reduceEqDiff]
   refine w_callV (f:=43) (ca:=[.pointer (some ⟨bw,0,none⟩)]) (by simp only[ruU,entryE,Nat.reduceLT,Nat.reduceAdd,Nat.reduceMul,Nat.reduceEqDiff]) (by simp only[g1,ruU,entryE,Nat.reduceLT,Nat.reduceAdd,Nat.reduceMul,Nat.reduceEqDiff]) (by simp only[ruU,entryE,Nat.reduceLT,Nat.reduceAdd,Nat.reduceMul,Nat.reduceEqDiff]) (by kernel_rfl) ?_
   simp only[ruU,entryE,Nat.reduceLT,Nat.reduceAdd,Nat.reduceMul,Nat.reduceEqDiff]
   refine (show CallS Tryd.prog 43 _ (ext H []) _ (ext H []) from hna).to ?_
   cases d with
   |true =>
    simp (maxDischargeDepth:=6) only[g0,g1,g7,g8,zB5,wrap_succ (show k<1000000 by omega),ruW,putL,Nat.reduceLeDiff,xF,ruU,entryE,Nat.reduceLT,Nat.reduceAdd,Nat.reduceMul,Nat.reduceEqDiff]
    refine loopC_next ⟨k+1,by omega,rfl,?_,?_,?_,?_,by omega,fun i l hi hl=>?_⟩
    ·simp only[g0,ruU,entryE,Nat.reduceLT,Nat.reduceAdd,Nat.reduceMul,Nat.reduceEqDiff]
    ·simp only[g1,ruU,entryE,Nat.reduceLT,Nat.reduceAdd,Nat.reduceMul,Nat.reduceEqDiff]
    ·simp only[g7,ruU,entryE,Nat.reduceLT,Nat.reduceAdd,Nat.reduceMul,Nat.reduceEqDiff]
    ·simp only[g8,ruU,entryE,Nat.reduceLT,Nat.reduceAdd,Nat.reduceMul,Nat.reduceEqDiff]
    ·rcases zC4 i k with h|h
     ·exact hpre i l h hl
     ·obtain rfl:i=k:=by omega
      rw[hr1]at hl
      cases hl
      exact hd
   |false =>
    have hbd':badAt W g=some k:=by simpa using hbd
    simp (maxDischargeDepth:=6) only[g0,g1,g7,g8,zC0,joinR_ret,Tryd.results61,ruW,putL,Nat.reduceLeDiff,xF,ruU,entryE,Nat.reduceLT,Nat.reduceAdd,Nat.reduceMul,Nat.reduceEqDiff]
    exact Fin.pureE (by rw[hbd']; rfl) rfl
 ·rintro E H' ⟨hH,hbd⟩
  rw[hH]
  simp (maxDischargeDepth:=6) only[Tryd.results61,ruW,putL,Nat.reduceLeDiff,xF,ruU,entryE,Nat.reduceLT,Nat.reduceAdd,Nat.reduceMul,Nat.reduceEqDiff]
  exact Fin.pureE (by rw[hbd]; rfl) rfl
theorem contains39_c (H:AHeap) (v:Value) (g:List (List Ce)) (W bw:Nat) (hg:GridAt H v g) (hw:∀ l∈g,l.length<1000000) (hgl:g.length<1000000) (hbw:bk H bw=some ⟨3,false,[.int .i64 (W:Int)]⟩) :
  Pure 42 [v,.func (.func 43) ⟨[]⟩ ⟨[.pointer (some ⟨bw,0,none⟩)]⟩] H (.bool (!okGrid W g)):=by
 have hi:=index39_c (ext H []) v g W bw hg hw hgl hbw
 have hok:=badAt_ok W g
 obtain⟨r,hr⟩:∃ r,badAt W g=r:=⟨_,rfl⟩
 rw[hr]at hi hok
 rw[←hok]
 refine callS_fn mixed Tryd.func42 rfl Tryd.ntmps42 (zA7 rfl) fun wf hsc=>?_
 simp (maxDischargeDepth:=6) only[ruW,putL,Nat.reduceLeDiff,xF,ruU,entryE,Nat.reduceLT,Nat.reduceAdd,Nat.reduceMul,Nat.reduceEqDiff]
 refine hi.to ?_
 have hd:decide ((0:Int)≤ixV r)=!r.isNone:=by
  cases r with
  |none=>rfl
  |some n=>exact decide_eq_true (Int.natCast_nonneg n)
 simp (maxDischargeDepth:=6) only[hd,Tryd.results42,ruW,putL,Nat.reduceLeDiff,xF,ruU,entryE,Nat.reduceLT,Nat.reduceAdd,Nat.reduceMul,Nat.reduceEqDiff]
 exact Fin.pure rfl
def widG (g:List (List Ce)):Nat:=(g.getD 0 []).length
def chkR (g:List (List Ce)) (r c:Int):Int :=
 cond (decide ((g.length:Int)<1)||decide (200<(g.length:Int))) 3
  (cond (decide ((widG g:Int)<1)||decide (1000<(widG g:Int))||(!(decide (0≤r)&&decide (r<(g.length:Int))&&decide (0≤c)&&decide (c<(widG g:Int)))&&!(decide (r=-1)&&decide (c=0)))) 3
   (cond (okGrid (widG g) g) 0 5))
theorem check39_c (H:AHeap) (v:Value) (g:List (List Ce)) (r c:Int) (hg:GridAt H v g) (hw:∀ l∈g,l.length<1000000) (hgl:g.length<1000000) :
  Pure 16 [.agg ⟨[v,.int .i64 r,.int .i64 c]⟩] H (.int .i64 (chkR g r c)):=by
 obtain⟨b,hb⟩:∃ b,H.next=b:=⟨_,rfl⟩
 obtain⟨h,hh⟩:∃ h,g.length=h:=⟨_,rfl⟩
 obtain⟨W,hW⟩:∃ W,widG g=W:=⟨_,rfl⟩
 obtain⟨dh1,k1⟩:∃ d,decide ((h:Int)<1)=d:=⟨_,rfl⟩
 obtain⟨dh2,k2⟩:∃ d,decide ((200:Int)<(h:Int))=d:=⟨_,rfl⟩
 obtain⟨dW1,k3⟩:∃ d,decide ((W:Int)<1)=d:=⟨_,rfl⟩
 obtain⟨dW2,k4⟩:∃ d,decide ((1000:Int)<(W:Int))=d:=⟨_,rfl⟩
 obtain⟨d1,h1⟩:∃ d,decide ((0:Int)≤r)=d:=⟨_,rfl⟩
 obtain⟨d2,h2⟩:∃ d,decide (r<(h:Int))=d:=⟨_,rfl⟩
 obtain⟨d3,h3⟩:∃ d,decide ((0:Int)≤c)=d:=⟨_,rfl⟩
 obtain⟨d4,h4⟩:∃ d,decide (c<(W:Int))=d:=⟨_,rfl⟩
 obtain⟨d5,h5⟩:∃ d,decide (r=-1)=d:=⟨_,rfl⟩
 obtain⟨d6,h6⟩:∃ d,decide (c=0)=d:=⟨_,rfl⟩
 obtain⟨B,hB⟩:∃ B,okGrid W g=B:=⟨_,rfl⟩
 have h5':decide (¬r=-1)=!d5:=by rw[decide_not,h5]
 have h6':decide (¬c=0)=!d6:=by rw[decide_not,h6]
 rw[chkR,hh,hW,k1,k2,k3,k4,h1,h2,h3,h4,h5,h6,hB]
 refine callS_fn mixed Tryd.func16 rfl Tryd.ntmps16 (zA7 rfl) fun wf hsc=>?_
 have hbase:H.base≤b:=hb▸wf.base
 have hg':=hg
 obtain⟨a0,c0,e0⟩:=hg.sl
 have hscv:scb b v=true:=by
  simp only[scbL,scb,scbA,zA8,hb]at hsc
  exact hsc.1.1
 rw[e0,hh]at hscv
 cases dh1 with
 |true =>
  rw[e0,hh]
  simp (maxDischargeDepth:=6) only[hb,hbase,hscv,k1,Tryd.results16,ruW,putL,Nat.reduceLeDiff,xF,ruU,entryE,Nat.reduceLT,Nat.reduceAdd,Nat.reduceMul,Nat.reduceEqDiff]
  exact Fin.pureE rfl rfl
 |false =>
  cases dh2 with
  |true =>
   rw[e0,hh]
   simp (maxDischargeDepth:=6) only[hb,hbase,hscv,k1,k2,Tryd.results16,ruW,putL,Nat.reduceLeDiff,xF,ruU,entryE,Nat.reduceLT,Nat.reduceAdd,Nat.reduceMul,Nat.reduceEqDiff]
   exact Fin.pureE rfl rfl
  |false =>
   have hpos:0<g.length:=by have:=of_decide_eq_false k1; omega
   rcases hg with⟨h',_⟩|⟨_,n1,o1,s1,x1,t1,p1,L1,rfl,b1,n1l,le1,tk1⟩
   ·rw[h']at hpos; simp at hpos
   obtain⟨r0,hr0⟩:∃ q,g[0]?=some q:=⟨_,zA6 hpos⟩
   obtain⟨u0,hu0,ra0⟩:=tk1 0 r0 hr0
   obtain⟨a0',k0,e0'⟩:=ra0.sl
   have hl0:r0.length=W:=by rw[←hW,widG,zE2,hr0]; rfl
   rw[hl0]at e0'
   rw[e0']at hu0
   have i1:=grid_ia (n:=n1) (off:=o1) (s:=s1) (cap:=x1) (i:=((0:Nat):Int)) rfl hpos
   rw[show ((0:Nat):Int)=0 from rfl]at i1
   have q1:=grid_load (e:=t1) (o:=p1) hu0
   rw[zD3]at q1 i1
   rw[hh]at i1 hg' ⊢
   have hlt:=n1l
   rw[hb]at hlt
   have hB1:∀ A:Bl,bk (ext H [A,⟨3,false,[.int .i64 (W:Int)]⟩]) (b+1)=some ⟨3,false,[.int .i64 (W:Int)]⟩:=fun A=>by rw[bk_at hb (by simp)]; rfl
   have hct:=contains39_c (ext H [⟨24,false,[.slice (some ⟨n1,o1,s1⟩) h x1,.int .i64 r,.int .i64 c]⟩,⟨3,false,[.int .i64 (W:Int)]⟩]) _ g W (b+1) hg'.ext hw hgl (hB1 _)
   rw[hB]at hct
   have hs:(d1=true∧d2=true∧d3=true∧d4=true)∨d1=false∨(d1=true∧d2=false)∨(d1=true∧d2=true∧d3=false)∨(d1=true∧d2=true∧d3=true∧d4=false):=by
    cases d1<;>cases d2<;>cases d3<;>cases d4<;>simp
   have hws:dW1=true∨(dW1=false∧dW2=true)∨(dW1=false∧dW2=false):=by cases dW1<;>cases dW2<;>simp
   have hns:d5=false∨(d5=true∧d6=false)∨(d5=true∧d6=true):=by cases d5<;>cases d6<;>simp
   rcases hws with rfl|⟨rfl,rfl⟩|⟨rfl,rfl⟩
   ·rcases hs with⟨rfl,rfl,rfl,rfl⟩|rfl|⟨rfl,rfl⟩|⟨rfl,rfl,rfl⟩|⟨rfl,rfl,rfl,rfl⟩
    all_goals (simp (maxDischargeDepth:=6) only[hb,hbase,hlt,b1,i1,q1,qk_old,k1,k2,k3,k4,h1,h2,h3,h4,Tryd.results16,ruW,putL,Nat.reduceLeDiff,xF,ruU,entryE,Nat.reduceLT,Nat.reduceAdd,Nat.reduceMul,Nat.reduceEqDiff]; exact Fin.pureE rfl rfl)
   ·rcases hs with⟨rfl,rfl,rfl,rfl⟩|rfl|⟨rfl,rfl⟩|⟨rfl,rfl,rfl⟩|⟨rfl,rfl,rfl,rfl⟩
    all_goals (simp (maxDischargeDepth:=6) only[hb,hbase,hlt,b1,i1,q1,qk_old,k1,k2,k3,k4,h1,h2,h3,h4,Tryd.results16,ruW,putL,Nat.reduceLeDiff,xF,ruU,entryE,Nat.reduceLT,Nat.reduceAdd,Nat.reduceMul,Nat.reduceEqDiff]; exact Fin.pureE rfl rfl)
   ·rcases hs with⟨rfl,rfl,rfl,rfl⟩|hs
    ·simp (maxDischargeDepth:=6) only[hb,hbase,hlt,b1,i1,q1,qk_old,k1,k2,k3,k4,h1,h2,h3,h4,h5',h6',zB5,zC0,ruW,putL,Nat.reduceLeDiff,xF,ruU,entryE,Nat.reduceLT,Nat.reduceAdd,Nat.reduceMul,Nat.reduceEqDiff]
     refine hct.to ?_
     cases B with
     |true=>simp (maxDischargeDepth:=6) only[zB5,Tryd.results16,ruW,putL,Nat.reduceLeDiff,xF,ruU,entryE,Nat.reduceLT,Nat.reduceAdd,Nat.reduceMul,Nat.reduceEqDiff]; exact Fin.pureE rfl rfl
     |false=>simp (maxDischargeDepth:=6) only[zC0,Tryd.results16,ruW,putL,Nat.reduceLeDiff,xF,ruU,entryE,Nat.reduceLT,Nat.reduceAdd,Nat.reduceMul,Nat.reduceEqDiff]; exact Fin.pureE rfl rfl
    rcases hs with rfl|⟨rfl,rfl⟩|⟨rfl,rfl,rfl⟩|⟨rfl,rfl,rfl,rfl⟩
    all_goals rcases hns with rfl|⟨rfl,rfl⟩|⟨rfl,rfl⟩
    all_goals simp (maxDischargeDepth:=6) only[hb,hbase,hlt,b1,i1,q1,qk_old,k1,k2,k3,k4,h1,h2,h3,h4,h5',h6',zB5,zC0,Tryd.results16,ruW,putL,Nat.reduceLeDiff,xF,ruU,entryE,Nat.reduceLT,Nat.reduceAdd,Nat.reduceMul,Nat.reduceEqDiff]
    all_goals first
     |exact Fin.pureE rfl rfl
     | (refine hct.to ?_
        cases B with
        |true=>simp (maxDischargeDepth:=6) only[zB5,Tryd.results16,ruW,putL,Nat.reduceLeDiff,xF,ruU,entryE,Nat.reduceLT,Nat.reduceAdd,Nat.reduceMul,Nat.reduceEqDiff]; exact Fin.pureE rfl rfl
        |false=>simp (maxDischargeDepth:=6) only[zC0,Tryd.results16,ruW,putL,Nat.reduceLeDiff,xF,ruU,entryE,Nat.reduceLT,Nat.reduceAdd,Nat.reduceMul,Nat.reduceEqDiff]; exact Fin.pureE rfl rfl)
theorem cloneRow_c (H:AHeap) (v:Value) (l:List Ce) (hr:RowAt H v l) (hne:l≠[]) (hok:H.base≤H.next) (hlen:l.length≤10000) :
  CallA Tryd.prog 67 [v] H (fun out X=>∃ u,out=.ok u∧OwnRow H.next X u l∧Mod [] H X):=by
 obtain⟨b,hb⟩:∃ b,H.next=b:=⟨_,rfl⟩
 have hbase:H.base≤b:=hb▸hok
 have hk:bk (ext H [⟨55,false,[]⟩]) (b+0)=some ⟨55,false,[]⟩:=by rw[bk_at hb (by simp)]; rfl
 obtain⟨u,G,hap,hu,hm,hid⟩:=row_copy (G:=ext H [⟨55,false,[]⟩]) hk (by rw[ext_next,hb]; simp) ((Mod.ext (W:=[]) hok).ok hok) hr.ext hlen
 rcases hr with⟨h,_⟩|⟨_,n,off,s,c,e,o,L,rfl,hbn,hnl,hle,ht⟩
 ·exact absurd h hne
 rw[hb]at hnl
 refine callE_fn mixed Tryd.func67 rfl Tryd.ntmps67 (zA7 rfl) ?_
 simp (maxDischargeDepth:=6) only[hb,hbase,hnl,hap,Tryd.results67,ruW,putL,Nat.reduceLeDiff,xF,ruU,entryE,Nat.reduceLT,Nat.reduceAdd,Nat.reduceMul,Nat.reduceEqDiff]
 refine⟨u,rfl,?_,?_⟩
 ·obtain⟨m,s',c',o',e',h1,h2,h3⟩:=hu
  exact⟨m,s',c',o',e',h1,by omega,h3⟩
 ·exact (Mod.ext (W:=[]) hok).step hm hok (fun m hm=>by simp only[zA4]at hm; exact .inr (by omega))
theorem clone39_c (H:AHeap) (v:Value) (g:List (List Ce)) (r c:Int) (hg:GridAt H v g) (hok:H.base≤H.next) (hs:scb H.next v=true) (hne:∀ l∈g,l≠[]) (hw:∀ l∈g,l.length≤10000) (hgl:g.length≤10000) :
  CallA Tryd.prog 48 [.agg ⟨[v,.int .i64 r,.int .i64 c]⟩] H (fun out X=>∃ u rvs,out=.ok (.agg ⟨[u,.int .i64 r,.int .i64 c]⟩)∧Grow H.next X u rvs g∧Mod [] H X):=by
 obtain⟨b,hb⟩:∃ b,H.next=b:=⟨_,rfl⟩
 have hbase:H.base≤b:=hb▸hok
 obtain⟨a0,c0,e0⟩:=hg.sl
 rw[hb]at hs
 have hs':=hs
 rw[e0]at hs
 refine callE_fn mixed Tryd.func48 rfl Tryd.ntmps48 (zA7 rfl) ?_
 rw[e0]
 simp (maxDischargeDepth:=6) only[hb,hbase,hs,ruW,putL,Nat.reduceLeDiff,xF,ruU,entryE,Nat.reduceLT,Nat.reduceAdd,Nat.reduceMul,Nat.reduceEqDiff]
 rw[←e0]
 refine w_env fun E hE=>?_
 have g1:E 1=.pointer (some ⟨b+0,0,none⟩):=by rw[hE]; simp only[ruU,entryE,Nat.reduceLT,Nat.reduceAdd,Nat.reduceMul,Nat.reduceEqDiff]
 have g2:E 2=.pointer (some ⟨b+1,0,none⟩):=by rw[hE]; simp only[ruU,entryE,Nat.reduceLT,Nat.reduceAdd,Nat.reduceMul,Nat.reduceEqDiff]
 have g9:E 9=v:=by rw[hE,e0]; simp only[ruU,entryE,Nat.reduceLT,Nat.reduceAdd,Nat.reduceMul,Nat.reduceEqDiff]
 have g10:E 10=.int .i64 (g.length:Int):=by rw[hE]; simp only[ruU,entryE,Nat.reduceLT,Nat.reduceAdd,Nat.reduceMul,Nat.reduceEqDiff]
 have g11:E 11=.int .i64 ((0:Nat):Int):=by rw[hE]; (simp only[ruU,entryE,Nat.reduceLT,Nat.reduceAdd,Nat.reduceMul,Nat.reduceEqDiff]<;>rfl)
 clear hE
 generalize hX0:ext H _=X0
 have m0:Mod [] H X0:=hX0▸Mod.ext hok
 have n0:X0.next=b+2:=by rw[←hX0,ext_next,hb]; rfl
 have k0:bk X0 (b+0)=some ⟨24,false,[.slice none 0 0,.int .i64 r,.int .i64 c]⟩:=by rw[←hX0,bk_at hb (by simp)]; rfl
 have k1:bk X0 (b+1)=some ⟨24,false,[.slice none 0 0,.int .i64 0,.int .i64 0]⟩:=by rw[←hX0,bk_at hb (by simp)]; rfl
 clear hX0
 refine blockC_meet (fun E' X=>∃ u rvs,Mod [] H X∧b+2≤X.next∧bk X (b+1)=some ⟨24,false,[.slice none 0 0,.int .i64 0,.int .i64 0]⟩∧bk X (b+0)=some ⟨24,false,[u,.int .i64 r,.int .i64 c]⟩∧Grow (b+2) X u rvs g∧E' 1=.pointer (some ⟨b+0,0,none⟩)∧E' 2=.pointer (some ⟨b+1,0,none⟩)) ?_ ?_
 ·refine w_loop (fun (k:Nat × Value × List Value) E' X=>Mod [] H X∧b+2≤X.next∧bk X (b+1)=some ⟨24,false,[.slice none 0 0,.int .i64 0,.int .i64 0]⟩∧bk X (b+0)=some ⟨24,false,[k.2.1,.int .i64 r,.int .i64 c]⟩∧Grow (b+2) X k.2.1 k.2.2 (g.take k.1)∧k.1≤g.length∧E' 1=.pointer (some ⟨b+0,0,none⟩)∧E' 2=.pointer (some ⟨b+1,0,none⟩)∧E' 9=v∧E' 10=.int .i64 (g.length:Int)∧E' 11=.int .i64 (k.1:Int)) (fun k=>g.length-k.1) (0,.slice none 0 0,[])
   ⟨m0,by omega,k1,k0,Grow.nil,zB0 _,g1,g2,g9,g10,g11⟩ ?_
  clear g1 g2 g9 g10 g11 k0 k1 n0 m0
  rintro⟨k,u,rvs⟩ E X ⟨mX,xl,k1,k0,gr,hk,g1,g2,g9,g10,g11⟩
  simp only at k0 k1 gr hk g11
  obtain⟨x,hx⟩:∃ x,X.next=x:=⟨_,rfl⟩
  have okX:=mX.ok hok
  have hxb:X.base≤x:=hx▸okX
  rw[hx]at xl
  have l0:b+0<x:=by omega
  rw[show X=ext X [] from rfl]
  by_cases hkl:k=g.length
  ·have hc:decide ((k:Int)<(g.length:Int))=false:=by simp[hkl]
   simp (maxDischargeDepth:=6) only[g1,g2,g10,g11,hc,ruW,putL,Nat.reduceLeDiff,xF,ruU,entryE,Nat.reduceLT,Nat.reduceAdd,Nat.reduceMul,Nat.reduceEqDiff]
   rw[hkl,zE4]at gr
   exact joinR_normal ⟨u,rvs,mX,by rw[ext_next,hx]; simpa using xl,k1,k0,gr,by simp only[g1,ruU,entryE,Nat.reduceLT,Nat.reduceAdd,Nat.reduceMul,Nat.reduceEqDiff],by simp only[g2,ruU,entryE,Nat.reduceLT,Nat.reduceAdd,Nat.reduceMul,Nat.reduceEqDiff]⟩
  ·have hlt:k<g.length:=by omega
   have hc:decide ((k:Int)<(g.length:Int))=true:=decide_eq_true (by omega)
   obtain⟨w1,hr1⟩:∃ r,g[k]?=some r:=⟨_,zA6 hlt⟩
   rcases hg with⟨h,_⟩|⟨_,n1,o1,s1,x1,t1,p1,L1,ev,b1,n1l,le1,tk1⟩
   ·rw[h]at hlt; simp at hlt
   subst ev
   obtain⟨u1,hu1,ra1⟩:=tk1 k w1 hr1
   have hw1:w1≠[]:=hne w1 (zB9 hr1)
   have i1:=grid_ia (n:=n1) (off:=o1) (s:=s1) (cap:=x1) (i:=(k:Int)) rfl hlt
   have q1:=grid_load (e:=t1) (o:=p1) hu1
   have b1X:rk X n1=some ⟨t1,p1,L1⟩:=(rk_get (mX.get n1 n1l (by simp))).trans b1
   have raX:RowAt X u1 w1:=ra1.of mX.next fun m hm=>mX.get m (ra1.ne hw1 m hm).2 (by simp)
   have n1x:n1<x:=by have:=mX.next; omega
   obtain⟨au,eu⟩:=gr.at_.len
   simp (maxDischargeDepth:=6) only[g1,g2,g9,g10,g11,hx,n1x,i1,b1X,q1,qk_old,hc,ruW,putL,Nat.reduceLeDiff,xF,ruU,entryE,Nat.reduceLT,Nat.reduceAdd,Nat.reduceMul,Nat.reduceEqDiff]
   refine w_drawB [(4,3),(5,1),(5,3),(5,4),(7,1),(7,3),(7,4),(7,5)] [] (by kernel_rfl) (by kernel_rfl) rfl fun ops anc hA hG=>?_
   simp only[all2_cons]at hA
   simp (maxDischargeDepth:=6) only[g1,g2,g9,g10,g11,hx,hxb,l0,k0,hA,ruD,ruW,putL,Nat.reduceLeDiff,xF,ruU,entryE,Nat.reduceLT,Nat.reduceAdd,Nat.reduceMul,Nat.reduceEqDiff]
   have hFu:∀ n∈idsV u1,X.get n≠none∧n<X.next:=raX.ne hw1
   have hrn:=restrict_next X (idsV u1)
   have ra2:RowAt (X.restrict (idsV u1)) u1 w1:=raX.of (by rw[hrn.1]; exact zA5 _) fun n hn=>by rw[restrict_get,if_pos hn]
   obtain⟨_,gg,hcc,rv,rfl,hrv,mg⟩:=cloneRow_c (X.restrict (idsV u1)) u1 w1 ra2 hw1 (by rw[hrn.1,hrn.2.1]; exact zA5 _) (hw w1 (zB9 hr1))
   rw[hrn.1]at hrv
   refine genV_mod (H:=ext X []) (W:=[]) (idsV u1) okX (by simp only[ruU,entryE,Nat.reduceLT,Nat.reduceAdd,Nat.reduceMul,Nat.reduceEqDiff]) (by kernel_rfl) (fun n hn=>(hFu n hn).1) (fun n hn=>(hFu n hn).2) (fun _ h=>by simp at h) (v:=rv) (g:=gg) (by simp only[ruU,entryE,Nat.reduceLT,Nat.reduceAdd,Nat.reduceMul,Nat.reduceEqDiff]; exact hcc) mg (by simp[all2_cons,all2_nil]) ?_
   intro Z D mZ hFZ hNZ hnZ hDZ
   have hD0:D=[]:=List.eq_nil_iff_forall_not_mem.2 (fun q hq=>by simpa using hDZ q hq)
   subst hD0
   replace mZ:Mod [] X Z:=mZ
   replace hNZ:∀ m,X.next≤m→m<gg.next→Z.get m=gg.get m:=hNZ
   have okZ:=mZ.ok okX
   have hZx:=mZ.next
   have hrvZ:OwnRow x Z rv w1:=by
    obtain⟨n,s,cc,o,e,h1,h2,h3⟩:=hrv
    exact⟨n,s,cc,o,e,(bk_get (hNZ n h2 h3)).trans h1,by omega,by rw[hnZ]; exact h3⟩
   have hidr:∀ n∈idsV rv,x≤n∧n<Z.next∧Z.get n≠none:=hrvZ.rng
   obtain⟨nr,sr,cr,orr,rfl,hb3,hlo3,hlt3⟩:=id hrvZ
   obtain⟨z,hz⟩:∃ z,Z.next=z:=⟨_,rfl⟩
   have hzb:Z.base≤z:=hz▸okZ
   have hlt3':=hlt3
   rw[hz]at hlt3'
   rw[show Z=ext Z [] from rfl]
   simp (maxDischargeDepth:=6) only[g1,g2,g9,g10,g11,hz,hzb,hlt3',hA,ruD,ruW,putL,Nat.reduceLeDiff,xF,ruU,entryE,Nat.reduceLT,Nat.reduceAdd,Nat.reduceMul,Nat.reduceEqDiff]
   obtain⟨rvV,hrvV⟩:∃ q,q=Value.slice (some ⟨nr,0,spOf sr⟩) w1.length (w1.length+cr):=⟨_,rfl⟩
   have hone1:one rvV=true:=by rw[hrvV]; rfl
   rw[←hrvV]at hrvZ hidr ⊢
   rw[wd_app (by simp only[ruU,entryE,Nat.reduceLT,Nat.reduceAdd,Nat.reduceMul,Nat.reduceEqDiff])]
   generalize hY2:ext Z _=Y2
   have mY2:Mod [] Z Y2:=hY2▸Mod.ext okZ
   have hY2n:Y2.next=z+1:=by rw[←hY2,ext_next,hz]; rfl
   have hk2:bk Y2 (z+0)=some ⟨56,false,[rvV]⟩:=by rw[←hY2,bk_at hz (by simp)]; rfl
   have okY2:=mY2.ok okZ
   have mXY2:Mod [] X Y2:=mZ.trans mY2
   have hF2:∀ n∈(z+0)::idsV u,Y2.get n≠none∧n<Y2.next:=fun n hn=>by
    rcases zB3.1 hn with rfl|hn
    ·exact⟨bk_ne hk2,by omega⟩
    ·have:=gr.at_.ne n hn
     exact⟨by rw[mXY2.get n this.2 (by simp)]; exact this.1,zD9 this.2 mXY2.next⟩
   have hrn2:=restrict_next Y2 ((z+0)::idsV u)
   have hgtk:(g.take k).length=k:=by rw[zE7]; omega
   have vsY:=gr.at_.of (G:=Y2.restrict ((z+0)::idsV u)) (by rw[hrn2.1]; exact mXY2.next) (fun n hn=>by rw[restrict_get,if_pos (by simp[hn]),mXY2.get n (gr.at_.ne n hn).2 (by simp)])
   have hrvY2:OwnRow (b+2) Y2 rvV w1:=by
    obtain⟨n,s,c',o,e,h1,h2,h3⟩:=hrvZ.of mY2.next (fun n hn=>mY2.get n (hidr n hn).2.1 (by simp))
    exact⟨n,s,c',o,e,h1,by omega,h3⟩
   have hscr:scbL Y2.next (rvs++[rvV])=true:=scbL_append (scbL_mono mXY2.next _ gr.sc) (by rw[hrvV]; simp only[scbL,scb,Bool.and_true]; exact blt_of (by omega))
   obtain⟨G2,hap2,hvs2,hmd2,hgn2,_⟩:=vs_app (P:=Tryd.prog) (H:=Y2.restrict ((z+0)::idsV u)) (st:=22) (xt:=22) (e:=56) (sz:=1) (by1:=24) (z:=.slice none 0 0) (n:=z+0) (off:=0) (cnt2:=1) (cap:=1) (s:=some 0) (x:=Y2.next) (ws:=[rvV]) (b:=⟨56,false,[rvV]⟩)
    (by kernel_rfl) (by kernel_rfl) (by kernel_rfl) (by kernel_rfl) rfl (by kernel_rfl) vsY (rk_of ((bk_get (by rw[restrict_get,if_pos (by simp)])).trans hk2)) (by simp) rfl (by simp[hone1]) (by decide) (by simp only[small,zA8,Nat.ble_eq]; omega) hrn2.1 (by rw[hrn2.1]; exact hscr)
   refine genV_modO (H:=Y2) (W:=idsV u) ((z+0)::idsV u) okY2 (fun n hn=>(hF2 n hn).1) (fun n hn=>(hF2 n hn).2) (fun n hn=>by simp[hn]) (app_op (v:=_) (G:=G2) (by simp only[ruU,entryE,Nat.reduceLT,Nat.reduceAdd,Nat.reduceMul,Nat.reduceEqDiff]) (by simp only[ruU,entryE,Nat.reduceLT,Nat.reduceAdd,Nat.reduceMul,Nat.reduceEqDiff]; exact hap2)) (hmd2 (by rw[hrn2.1,hrn2.2.1]; exact zA5 _)) (by simp only[all2_cons,all2_nil,hA,true_or,and_true]) ?_
   intro Z3 D3 mZ3 hFZ3 hNZ3 hnZ3 hDZ3
   rw[hgn2]at hnZ3 hNZ3
   have hb4:bk Z3 Y2.next=some ⟨56,true,rvs++[rvV]⟩:=by
    obtain⟨_,_,⟨h0,_⟩|⟨_,n,e,hbn,_⟩⟩:=hvs2
    ·omega
    ·cases e
     exact (bk_get (hNZ3 _ (zA5 _) (by omega))).trans hbn
   have gr3:=gr.push mXY2 (by omega) hrvY2 (fun n hn=>by rw[hx]; exact (hidr n hn).1) hone1 mZ3 hb4 (by omega)
   have nbu:∀ j,j<b+2→j∉idsV u:=fun j hj h=>by have:=(gr.apart j h).1; omega
   have keep:∀ j,j<b+2→bk Z3 j=bk X j:=fun j hj=>(mZ3.bk (by omega) (nbu j hj)).trans (mXY2.bk (by omega) (by simp))
   have k0':=(keep (b+0) (by omega)).trans k0
   have k1':=(keep (b+1) (by omega)).trans k1
   obtain⟨z3,hz3⟩:∃ z3,Z3.next=z3:=⟨_,rfl⟩
   have l3:b+0<z3:=by omega
   have l4:Y2.next<z3:=by omega
   rw[hgtk]at gr3 ⊢
   rw[show Z3=ext Z3 [] from rfl]
   simp (maxDischargeDepth:=6) only[g1,g2,g9,g10,g11,hz3,k0',l3,l4,hA,wrap_succ (show k<1000000 by omega),ruD,ruW,putL,Nat.reduceLeDiff,xF,ruU,entryE,Nat.reduceLT,Nat.reduceAdd,Nat.reduceMul,Nat.reduceEqDiff]
   refine⟨⟨fun _=>.inr (.inl (by omega)),.inr (.inl (by omega)),fun _=>.inr (.inl (by omega))⟩,?_⟩
   generalize hU:uw Z3 (b+0) 0 _=U
   have mU:Mod [b+0] Z3 U:=hU▸Mod.uw (by simp)
   have hU2:bk U (b+0)=some ⟨24,false,[.slice (some ⟨Y2.next,0,none⟩) (k+1) (k+1),.int .i64 r,.int .i64 c]⟩:=by rw[←hU,bk_uw_eq,k0']; rfl
   have mXU:Mod ((b+0)::idsV u) X U:=((mXY2.mono (by simp)).trans (mZ3.mono (fun n hn=>zB4 _ hn))).trans (mU.mono (by simp))
   have hUn:=mU.next
   refine loopC_next ⟨(k+1,.slice (some ⟨Y2.next,0,none⟩) (k+1) (k+1),rvs++[rvV]),by simp only; omega,mX.step mXU hok (fun n hn=>?_),by rw[ext_next]; simp only[zB8]; omega,?_,hU2,?_,by simp only; omega,?_,?_,?_,?_,?_⟩
   ·rcases zB3.1 hn with rfl|hn
    ·exact .inr (by omega)
    ·have:=(gr.apart n hn).1; exact .inr (by omega)
   ·exact (mU.bk (by omega) (by simp)).trans k1'
   ·simp only
    rw[show g.take (k+1)=g.take k++[w1] from by rw[zF2,hr1]; rfl]
    refine gr3.of mU.next fun n hn hm=>mU.get n hn ?_
    simp only[zA4]
    rintro rfl
    rcases zB1.1 hm with hm|hm
    ·have:=(gr3.apart _ hm).1; omega
    ·have:=(gr3.ids _ hm).1; omega
   ·simp only[g1,ruU,entryE,Nat.reduceLT,Nat.reduceAdd,Nat.reduceMul,Nat.reduceEqDiff]
   ·simp only[g2,ruU,entryE,Nat.reduceLT,Nat.reduceAdd,Nat.reduceMul,Nat.reduceEqDiff]
   ·simp only[g9,ruU,entryE,Nat.reduceLT,Nat.reduceAdd,Nat.reduceMul,Nat.reduceEqDiff]
   ·simp only[g10,ruU,entryE,Nat.reduceLT,Nat.reduceAdd,Nat.reduceMul,Nat.reduceEqDiff]
   ·simp only[ruU,entryE,Nat.reduceLT,Nat.reduceAdd,Nat.reduceMul,Nat.reduceEqDiff]
 ·clear g1 g2 g9 g10 g11 k0 k1 n0 m0
  rintro E X ⟨u,rvs,mX,xl,k1,k0,gr,g1,g2⟩
  obtain⟨au,eu⟩:=gr.at_.len
  obtain⟨x,hx⟩:∃ x,X.next=x:=⟨_,rfl⟩
  rw[hx]at xl
  have l1:b+1<x:=by omega
  have l0:b+0<x:=by omega
  have hsu:scb x (.slice au g.length g.length)=true:=by
   rw[←eu]
   obtain⟨_,_,⟨_,rfl⟩|⟨_,n,rfl,_,h⟩⟩:=gr.at_
   ·rfl
   ·exact blt_of (by rw[←hx]; exact h)
  rw[eu]at k0
  rw[show X=ext X [] from rfl]
  simp (maxDischargeDepth:=6) only[g1,g2,hx,k0,k1,l0,l1,hsu,Tryd.results48,ruW,putL,Nat.reduceLeDiff,xF,ruU,entryE,Nat.reduceLT,Nat.reduceAdd,Nat.reduceMul,Nat.reduceEqDiff]
  generalize hU:uw X (b+1) 0 _=U
  have mU:Mod [b+1] X U:=hU▸Mod.uw (by simp)
  refine⟨u,rvs,by rw[eu],?_,mX.step mU hok (fun n hn=>by simp only[zA4]at hn; exact .inr (by omega))⟩
  have gU:=gr.of (Y:=U) mU.next fun n hn hm=>mU.get n hn (by
   simp only[zA4]
   rintro rfl
   rcases zB1.1 hm with hm|hm
   ·have:=(gr.apart _ hm).1; omega
   ·have:=(gr.ids _ hm).1; omega)
  exact⟨gU.at_,fun i rv l h1 h2=>by
   obtain⟨n,s,c',o,e,h3,h4,h5⟩:=gU.row i rv l h1 h2
   exact⟨n,s,c',o,e,h3,by omega,h5⟩,gU.nd,fun n hn=>⟨by have:=(gU.apart n hn).1; omega,(gU.apart n hn).2⟩,gU.sc⟩
def GridSc (H:AHeap) (v:Value):Prop:=∀ n off s len c b,v=.slice (some ⟨n,off,s⟩) len c→rk H n=some b→scbL H.next b.l=true
theorem copyScreen_c (H:AHeap) (v:Value) (g:List (List Ce)) (r c:Int) (hg:GridAt H v g) (hok:H.base≤H.next) (hs:scb H.next v=true) (hsg:GridSc H v) (hw:∀ l∈g,l.length≤10000) (hgl:g.length≤10000) :
  CallA Tryd.prog 12 [.agg ⟨[v,.int .i64 r,.int .i64 c]⟩] H (fun out X=>∃ u rvs,out=.ok (.agg ⟨[u,.int .i64 r,.int .i64 c]⟩)∧Grow H.next X u rvs g∧Mod [] H X):=by
 obtain⟨b,hb⟩:∃ b,H.next=b:=⟨_,rfl⟩
 have hbase:H.base≤b:=hb▸hok
 obtain⟨a0,c0,e0⟩:=hg.sl
 rw[hb]at hs
 have hs':=hs
 rw[e0]at hs
 refine callE_fn mixed Tryd.func12 rfl Tryd.ntmps12 (zA7 rfl) ?_
 rw[e0]
 simp (maxDischargeDepth:=6) only[hb,hbase,hs,ruW,putL,Nat.reduceLeDiff,xF,ruU,entryE,Nat.reduceLT,Nat.reduceAdd,Nat.reduceMul,Nat.reduceEqDiff]
 rw[←e0]
 refine w_env fun E hE=>?_
 have g1:E 1=.pointer (some ⟨b+0,0,none⟩):=by rw[hE]; simp only[ruU,entryE,Nat.reduceLT,Nat.reduceAdd,Nat.reduceMul,Nat.reduceEqDiff]
 have g2:E 2=.pointer (some ⟨b+1,0,none⟩):=by rw[hE]; simp only[ruU,entryE,Nat.reduceLT,Nat.reduceAdd,Nat.reduceMul,Nat.reduceEqDiff]
 have g3:E 3=.pointer (some ⟨b+2,0,none⟩):=by rw[hE]; simp only[ruU,entryE,Nat.reduceLT,Nat.reduceAdd,Nat.reduceMul,Nat.reduceEqDiff]
 have g4:E 4=.int .i64 ((0:Nat):Int):=by rw[hE]; (simp only[ruU,entryE,Nat.reduceLT,Nat.reduceAdd,Nat.reduceMul,Nat.reduceEqDiff]<;>rfl)
 clear hE
 generalize hX0:ext H (_::_)=X0
 have m0:Mod [] H X0:=hX0▸Mod.ext hok
 have n0:X0.next=b+3:=by rw[←hX0,ext_next,hb]; rfl
 have k0:bk X0 (b+0)=some ⟨24,false,[v,.int .i64 r,.int .i64 c]⟩:=by rw[←hX0,bk_at hb (by simp)]; rfl
 have k1:bk X0 (b+1)=some ⟨24,false,[.slice none 0 0,.int .i64 0,.int .i64 0]⟩:=by rw[←hX0,bk_at hb (by simp)]; rfl
 have k2:bk X0 (b+2)=some ⟨24,false,[.slice none 0 0,.int .i64 r,.int .i64 c]⟩:=by rw[←hX0,bk_at hb (by simp)]; rfl
 clear hX0
 refine blockC_meet (fun E' X=>∃ u rvs,Mod [] H X∧b+3≤X.next∧bk X (b+1)=some ⟨24,false,[.slice none 0 0,.int .i64 0,.int .i64 0]⟩∧bk X (b+2)=some ⟨24,false,[u,.int .i64 r,.int .i64 c]⟩∧Grow (b+3) X u rvs g∧E' 2=.pointer (some ⟨b+1,0,none⟩)∧E' 3=.pointer (some ⟨b+2,0,none⟩)) ?_ ?_
 ·refine w_loop (fun (k:Nat × Value × List Value) E' X=>Mod [] H X∧b+3≤X.next∧bk X (b+0)=some ⟨24,false,[v,.int .i64 r,.int .i64 c]⟩∧bk X (b+1)=some ⟨24,false,[.slice none 0 0,.int .i64 0,.int .i64 0]⟩∧bk X (b+2)=some ⟨24,false,[k.2.1,.int .i64 r,.int .i64 c]⟩∧Grow (b+3) X k.2.1 k.2.2 (g.take k.1)∧k.1≤g.length∧E' 1=.pointer (some ⟨b+0,0,none⟩)∧E' 2=.pointer (some ⟨b+1,0,none⟩)∧E' 3=.pointer (some ⟨b+2,0,none⟩)∧E' 4=.int .i64 (k.1:Int)) (fun k=>g.length-k.1) (0,.slice none 0 0,[])
   ⟨m0,by omega,k0,k1,k2,Grow.nil,zB0 _,g1,g2,g3,g4⟩ ?_
  clear g1 g2 g3 g4 k0 k1 k2 n0 m0
  rintro⟨k,u,rvs⟩ E X ⟨mX,xl,k0,k1,k2,gr,hk,g1,g2,g3,g4⟩
  simp only at k0 k1 k2 gr hk g4
  obtain⟨x,hx⟩:∃ x,X.next=x:=⟨_,rfl⟩
  have okX:=mX.ok hok
  have hxb:X.base≤x:=hx▸okX
  rw[hx]at xl
  have l0:b+0<x:=by omega
  have l1:b+1<x:=by omega
  have l2:b+2<x:=by omega
  rw[show X=ext X [] from rfl]
  have hgX:GridAt X v g:=by
   rcases hg with⟨h,a,c,e⟩|⟨hl,n,off,s,c,e,o,L,e1,hbn,hlt,hle,ht⟩
   ·exact .inl ⟨h,a,c,e⟩
   ·exact .inr ⟨hl,n,off,s,c,e,o,L,e1,(rk_get (mX.get n hlt (by simp))).trans hbn,by have:=mX.next; omega,hle,fun j row hj=>by
     obtain⟨rv,h1,h2⟩:=ht j row hj
     refine⟨rv,h1,?_⟩
     by_cases hr0:row=[]
     ·obtain⟨a',c',e'⟩:=h2.sl
      exact .inl ⟨hr0,a',c',by rw[hr0]at e'; exact e'⟩
     ·exact h2.of mX.next fun m hm=>mX.get m (h2.ne hr0 m hm).2 (by simp)⟩
  by_cases hkl:k=g.length
  ·have hc:decide ((k:Int)<(g.length:Int))=false:=by simp[hkl]
   rw[e0]at k0
   simp (maxDischargeDepth:=6) only[g1,g2,g3,g4,hx,l0,k0,hc,ruW,putL,Nat.reduceLeDiff,xF,ruU,entryE,Nat.reduceLT,Nat.reduceAdd,Nat.reduceMul,Nat.reduceEqDiff]
   rw[hkl,zE4]at gr
   exact joinR_normal ⟨u,rvs,mX,by rw[ext_next,hx]; simpa using xl,k1,k2,gr,by simp only[g2,ruU,entryE,Nat.reduceLT,Nat.reduceAdd,Nat.reduceMul,Nat.reduceEqDiff],by simp only[g3,ruU,entryE,Nat.reduceLT,Nat.reduceAdd,Nat.reduceMul,Nat.reduceEqDiff]⟩
  ·have hlt:k<g.length:=by omega
   have hc:decide ((k:Int)<(g.length:Int))=true:=decide_eq_true (by omega)
   obtain⟨w1,hr1⟩:∃ r,g[k]?=some r:=⟨_,zA6 hlt⟩
   rcases hgX with⟨h,_⟩|⟨_,n1,o1,s1,x1,t1,p1,L1,ev,b1,n1l,le1,tk1⟩
   ·rw[h]at hlt; simp at hlt
   subst ev
   obtain⟨u1,hu1,ra1⟩:=tk1 k w1 hr1
   have i1:=grid_ia (n:=n1) (off:=o1) (s:=s1) (cap:=x1) (i:=(k:Int)) rfl hlt
   have q1:=grid_load (e:=t1) (o:=p1) hu1
   rw[hx]at n1l
   obtain⟨au,eu⟩:=gr.at_.len
   simp (maxDischargeDepth:=6) only[g1,g2,g3,g4,hx,l0,k0,hc,ruW,putL,Nat.reduceLeDiff,xF,ruU,entryE,Nat.reduceLT,Nat.reduceAdd,Nat.reduceMul,Nat.reduceEqDiff]
   refine w_drawB [(8,2),(8,4),(8,7),(9,2),(9,8),(10,1),(10,2),(10,4),(10,7),(10,8),(10,9),(12,1),(12,2),(12,4),(12,7),(12,8),(12,9),(12,10)] [] (by kernel_rfl) (by kernel_rfl) rfl fun ops anc hA hG=>?_
   simp only[all2_cons]at hA
   simp (maxDischargeDepth:=6) only[g1,g2,g3,g4,hx,hxb,l0,l2,k0,k2,i1,b1,n1l,q1,qk_old,hA,ruD,ruW,putL,Nat.reduceLeDiff,xF,ruU,entryE,Nat.reduceLT,Nat.reduceAdd,Nat.reduceMul,Nat.reduceEqDiff]
   have hu1x:∀ n∈idsV u1,n<b:=by
    have h1:scbL H.next L1=true:=by
     have hn1:n1<H.next:=by rw[hb]; exact blt_lt hs'
     exact hsg n1 o1 s1 _ _ ⟨t1,p1,L1⟩ rfl (by rw[←b1]; exact (rk_get (mX.get n1 hn1 (by simp))).symm)
    have h2:=scbL_iff.1 h1 u1 (zB9 hu1)
    obtain⟨a',c',e'⟩:=ra1.sl
    rw[e']at h2 ⊢
    intro n hn
    cases a' with
    |none=>simp[idsV]at hn
    |some a' =>
     simp only[idsV,zA4]at hn
     subst hn
     rw[hb]at h2
     exact blt_lt h2
   have hn1b:n1<b:=blt_lt hs'
   refine⟨.inr fun n hn=>.inl ?_,.inr fun n hn=>.inl ?_,?_⟩
   ·simp only[idsV,zA4]at hn; omega
   ·have:=hu1x n hn; omega
   rw[wd_app (by simp only[ruU,entryE,Nat.reduceLT,Nat.reduceAdd,Nat.reduceMul,Nat.reduceEqDiff])]
   generalize hY:ext X _=Y
   have mY:Mod [] X Y:=hY▸Mod.ext okX
   have okY:=mY.ok okX
   have hYn:Y.next=x+1:=by rw[←hY,ext_next,hx]; rfl
   have hY0:bk Y (x+0)=some ⟨55,false,[]⟩:=by rw[←hY,bk_at hx (by simp)]; rfl
   have hF1:∀ n∈rowF w1 u1,X.get n≠none∧n<X.next:=fun n hn=>by
    unfold rowF at hn
    split at hn
    ·simp at hn
    ·rename_i hne; exact ra1.ne hne n hn
   have hF:∀ n∈(x+0)::rowF w1 u1,Y.get n≠none∧n<Y.next:=fun n hn=>by
    rcases zB3.1 hn with rfl|hn
    ·exact⟨bk_ne hY0,by omega⟩
    ·have:=hF1 n hn
     exact⟨by rw[mY.get n this.2 (by simp)]; exact this.1,by omega⟩
   have hrn:=restrict_next Y ((x+0)::rowF w1 u1)
   have ra2:RowAt (Y.restrict ((x+0)::rowF w1 u1)) u1 w1:=ra1.ofF (by rw[hrn.1]; exact mY.next) fun n hn=>by
    rw[restrict_get,if_pos (by simp[hn]),mY.get n (hF1 n hn).2 (by simp)]
   obtain⟨rv,gg,hap,hrv,hmd,hid⟩:=row_copy (G:=Y.restrict ((x+0)::rowF w1 u1)) (m:=x+0) ((bk_get (by rw[restrict_get,if_pos (by simp)])).trans hY0) (by rw[hrn.1]; omega) (by rw[hrn.1,hrn.2.1]; exact zA5 _) ra2 (hw w1 (zB9 hr1))
   rw[hrn.1]at hid
   refine genV_modO (H:=Y) (W:=[x+0]) ((x+0)::rowF w1 u1) okY (fun n hn=>(hF n hn).1) (fun n hn=>(hF n hn).2) (fun n hn=>by simp only[zA4]at hn; simp[hn]) (app_op (v:=rv) (G:=gg) (by simp only[ruU,entryE,Nat.reduceLT,Nat.reduceAdd,Nat.reduceMul,Nat.reduceEqDiff]) (by simp only[ruU,entryE,Nat.reduceLT,Nat.reduceAdd,Nat.reduceMul,Nat.reduceEqDiff]; exact hap)) hmd ?_ ?_
   ·simp only[all2_cons,all2_nil,hA,true_or,and_true,true_and]
    refine .inr ⟨zA5 _,fun hn=>?_⟩
    simp only[zA4]at hn
    omega
   intro Z D mZ hFZ hNZ hnZ hDZ
   have hZx:Y.next≤Z.next:=mZ.next
   have okZ:=mZ.ok okY
   have hrvZ:OwnRow x Z rv w1:=by
    obtain⟨n,s,cc,o,e,h1,h2,h3⟩:=hrv
    subst e
    refine⟨n,s,cc,o,rfl,?_,by omega,by rw[hnZ]; exact h3⟩
    rcases hid n (by simp[idsV]) with h4|h4
    ·exact (bk_get (hFZ n (by simp[h4]))).trans h1
    ·exact (bk_get (hNZ n h4 h3)).trans h1
   have hidr:∀ n∈idsV rv,x≤n∧n<Z.next∧Z.get n≠none:=hrvZ.rng
   obtain⟨nr,sr,cr,orr,rfl,hb3,hlo3,hlt3⟩:=id hrvZ
   obtain⟨z,hz⟩:∃ z,Z.next=z:=⟨_,rfl⟩
   have hzb:Z.base≤z:=hz▸okZ
   have hlt3':=hlt3
   rw[hz]at hlt3'
   rw[show Z=ext Z [] from rfl]
   simp (maxDischargeDepth:=6) only[g1,g2,g3,g4,hz,hzb,hlt3',hA,ruD,ruW,putL,Nat.reduceLeDiff,xF,ruU,entryE,Nat.reduceLT,Nat.reduceAdd,Nat.reduceMul,Nat.reduceEqDiff]
   obtain⟨rvV,hrvV⟩:∃ q,q=Value.slice (some ⟨nr,0,spOf sr⟩) w1.length (w1.length+cr):=⟨_,rfl⟩
   have hone1:one rvV=true:=by rw[hrvV]; rfl
   rw[←hrvV]at hrvZ hidr ⊢
   rw[wd_app (by simp only[ruU,entryE,Nat.reduceLT,Nat.reduceAdd,Nat.reduceMul,Nat.reduceEqDiff])]
   generalize hY2:ext Z _=Y2
   have mY2:Mod [] Z Y2:=hY2▸Mod.ext okZ
   have hY2n:Y2.next=z+1:=by rw[←hY2,ext_next,hz]; rfl
   have hk2:bk Y2 (z+0)=some ⟨56,false,[rvV]⟩:=by rw[←hY2,bk_at hz (by simp)]; rfl
   have okY2:=mY2.ok okZ
   have mXY2:Mod [] X Y2:=(mY.step mZ okX (fun n hn=>by simp only[zA4]at hn; exact .inr (by omega))).trans mY2
   have hF2:∀ n∈(z+0)::idsV u,Y2.get n≠none∧n<Y2.next:=fun n hn=>by
    rcases zB3.1 hn with rfl|hn
    ·exact⟨bk_ne hk2,by omega⟩
    ·have:=gr.at_.ne n hn
     exact⟨by rw[mXY2.get n this.2 (by simp)]; exact this.1,zD9 this.2 mXY2.next⟩
   have hrn2:=restrict_next Y2 ((z+0)::idsV u)
   have hgtk:(g.take k).length=k:=by rw[zE7]; omega
   have vsY:=gr.at_.of (G:=Y2.restrict ((z+0)::idsV u)) (by rw[hrn2.1]; exact mXY2.next) (fun n hn=>by rw[restrict_get,if_pos (by simp[hn]),mXY2.get n (gr.at_.ne n hn).2 (by simp)])
   have hrvY2:OwnRow (b+3) Y2 rvV w1:=by
    obtain⟨n,s,c',o,e,h1,h2,h3⟩:=hrvZ.of mY2.next (fun n hn=>mY2.get n (hidr n hn).2.1 (by simp))
    exact⟨n,s,c',o,e,h1,by omega,h3⟩
   have hscr:scbL Y2.next (rvs++[rvV])=true:=scbL_append (scbL_mono mXY2.next _ gr.sc) (by rw[hrvV]; simp only[scbL,scb,Bool.and_true]; exact blt_of (by omega))
   obtain⟨G2,hap2,hvs2,hmd2,hgn2,_⟩:=vs_app (P:=Tryd.prog) (H:=Y2.restrict ((z+0)::idsV u)) (st:=22) (xt:=22) (e:=56) (sz:=1) (by1:=24) (z:=.slice none 0 0) (n:=z+0) (off:=0) (cnt2:=1) (cap:=1) (s:=some 0) (x:=Y2.next) (ws:=[rvV]) (b:=⟨56,false,[rvV]⟩)
    (by kernel_rfl) (by kernel_rfl) (by kernel_rfl) (by kernel_rfl) rfl (by kernel_rfl) vsY (rk_of ((bk_get (by rw[restrict_get,if_pos (by simp)])).trans hk2)) (by simp) rfl (by simp[hone1]) (by decide) (by simp only[small,zA8,Nat.ble_eq]; omega) hrn2.1 (by rw[hrn2.1]; exact hscr)
   refine genV_modO (H:=Y2) (W:=idsV u) ((z+0)::idsV u) okY2 (fun n hn=>(hF2 n hn).1) (fun n hn=>(hF2 n hn).2) (fun n hn=>by simp[hn]) (app_op (v:=_) (G:=G2) (by simp only[ruU,entryE,Nat.reduceLT,Nat.reduceAdd,Nat.reduceMul,Nat.reduceEqDiff]) (by simp only[ruU,entryE,Nat.reduceLT,Nat.reduceAdd,Nat.reduceMul,Nat.reduceEqDiff]; exact hap2)) (hmd2 (by rw[hrn2.1,hrn2.2.1]; exact zA5 _)) (by simp only[all2_cons,all2_nil,hA,true_or,and_true]) ?_
   intro Z3 D3 mZ3 hFZ3 hNZ3 hnZ3 hDZ3
   rw[hgn2]at hnZ3 hNZ3
   have hb4:bk Z3 Y2.next=some ⟨56,true,rvs++[rvV]⟩:=by
    obtain⟨_,_,⟨h0,_⟩|⟨_,n,e,hbn,_⟩⟩:=hvs2
    ·omega
    ·cases e
     exact (bk_get (hNZ3 _ (zA5 _) (by omega))).trans hbn
   have gr3:=gr.push mXY2 (by omega) hrvY2 (fun n hn=>by rw[hx]; exact (hidr n hn).1) hone1 mZ3 hb4 (by omega)
   have nbu:∀ j,j<b+3→j∉idsV u:=fun j hj h=>by have:=(gr.apart j h).1; omega
   have keep:∀ j,j<b+3→bk Z3 j=bk X j:=fun j hj=>(mZ3.bk (by omega) (nbu j hj)).trans (mXY2.bk (by omega) (by simp))
   have k0':=(keep (b+0) (by omega)).trans k0
   have k1':=(keep (b+1) (by omega)).trans k1
   have k2':=(keep (b+2) (by omega)).trans k2
   obtain⟨z3,hz3⟩:∃ z3,Z3.next=z3:=⟨_,rfl⟩
   have l3:b+2<z3:=by omega
   have l4:Y2.next<z3:=by omega
   rw[hgtk]at gr3 ⊢
   rw[show Z3=ext Z3 [] from rfl]
   simp (maxDischargeDepth:=6) only[g1,g2,g3,g4,hz3,k2',l3,l4,hA,wrap_succ (show k<1000000 by omega),ruD,ruW,putL,Nat.reduceLeDiff,xF,ruU,entryE,Nat.reduceLT,Nat.reduceAdd,Nat.reduceMul,Nat.reduceEqDiff]
   refine⟨⟨fun _=>.inr (.inl (by omega)),.inr (.inl (by omega)),fun _=>.inr (.inl (by omega)),.inr (.inl (by omega))⟩,?_⟩
   generalize hU:uw Z3 (b+2) 0 _=U
   have mU:Mod [b+2] Z3 U:=hU▸Mod.uw (by simp)
   have hU2:bk U (b+2)=some ⟨24,false,[.slice (some ⟨Y2.next,0,none⟩) (k+1) (k+1),.int .i64 r,.int .i64 c]⟩:=by rw[←hU,bk_uw_eq,k2']; rfl
   have mXU:Mod ((b+2)::idsV u) X U:=((mXY2.mono (by simp)).trans (mZ3.mono (fun n hn=>zB4 _ hn))).trans (mU.mono (by simp))
   have hUn:=mU.next
   refine loopC_next ⟨(k+1,.slice (some ⟨Y2.next,0,none⟩) (k+1) (k+1),rvs++[rvV]),by simp only; omega,mX.step mXU hok (fun n hn=>?_),by rw[ext_next]; simp only[zB8]; omega,?_,?_,hU2,?_,by simp only; omega,?_,?_,?_,?_⟩
   ·rcases zB3.1 hn with rfl|hn
    ·exact .inr (by omega)
    ·have:=(gr.apart n hn).1; exact .inr (by omega)
   ·exact (mU.bk (by omega) (by simp)).trans k0'
   ·exact (mU.bk (by omega) (by simp)).trans k1'
   ·simp only
    rw[show g.take (k+1)=g.take k++[w1] from by rw[zF2,hr1]; rfl]
    refine gr3.of mU.next fun n hn hm=>mU.get n hn ?_
    simp only[zA4]
    rintro rfl
    rcases zB1.1 hm with hm|hm
    ·have:=(gr3.apart _ hm).1; omega
    ·have:=(gr3.ids _ hm).1; omega
   ·simp only[g1,ruU,entryE,Nat.reduceLT,Nat.reduceAdd,Nat.reduceMul,Nat.reduceEqDiff]
   ·simp only[g2,ruU,entryE,Nat.reduceLT,Nat.reduceAdd,Nat.reduceMul,Nat.reduceEqDiff]
   ·simp only[g3,ruU,entryE,Nat.reduceLT,Nat.reduceAdd,Nat.reduceMul,Nat.reduceEqDiff]
   ·simp only[ruU,entryE,Nat.reduceLT,Nat.reduceAdd,Nat.reduceMul,Nat.reduceEqDiff]
 ·clear g1 g2 g3 g4 k0 k1 k2 n0 m0
  rintro E X ⟨u,rvs,mX,xl,k1,k2,gr,g2,g3⟩
  obtain⟨au,eu⟩:=gr.at_.len
  obtain⟨x,hx⟩:∃ x,X.next=x:=⟨_,rfl⟩
  rw[hx]at xl
  have l1:b+1<x:=by omega
  have l2:b+2<x:=by omega
  have hsu:scb x (.slice au g.length g.length)=true:=by
   rw[←eu]
   obtain⟨_,_,⟨_,rfl⟩|⟨_,n,rfl,_,h⟩⟩:=gr.at_
   ·rfl
   ·exact blt_of (by rw[←hx]; exact h)
  rw[eu]at k2
  rw[show X=ext X [] from rfl]
  simp (maxDischargeDepth:=6) only[g2,g3,hx,k1,k2,l1,l2,hsu,Tryd.results12,ruW,putL,Nat.reduceLeDiff,xF,ruU,entryE,Nat.reduceLT,Nat.reduceAdd,Nat.reduceMul,Nat.reduceEqDiff]
  generalize hU:uw X (b+1) 0 _=U
  have mU:Mod [b+1] X U:=hU▸Mod.uw (by simp)
  refine⟨u,rvs,by rw[eu],?_,mX.step mU hok (fun n hn=>by simp only[zA4]at hn; exact .inr (by omega))⟩
  have gU:=gr.of (Y:=U) mU.next fun n hn hm=>mU.get n hn (by
   simp only[zA4]
   rintro rfl
   rcases zB1.1 hm with hm|hm
   ·have:=(gr.apart _ hm).1; omega
   ·have:=(gr.ids _ hm).1; omega)
  exact⟨gU.at_,fun i rv l h1 h2=>by
   obtain⟨n,s,c',o,e,h3,h4,h5⟩:=gU.row i rv l h1 h2
   exact⟨n,s,c',o,e,h3,by omega,h5⟩,gU.nd,fun n hn=>⟨by have:=(gU.apart n hn).1; omega,(gU.apart n hn).2⟩,gU.sc⟩
theorem GridAt.foot {H:AHeap} {v:Value} {g:List (List Ce)} (h:GridAt H v g) (hne:g≠[]):∃ F:List Nat,(∀ n∈F,H.get n≠none∧n<H.next)∧∀ G:AHeap,H.next≤G.next→(∀ n∈F,G.get n=H.get n)→GridAt G v g∧(GridSc H v→GridSc G v):=by
 rcases h with⟨h,_⟩|⟨_,n,off,s,c,e,o,L,rfl,hb,hlt,hle,ht⟩
 ·exact absurd h hne
 refine⟨n::(List.range g.length).flatMap fun k=>rowF (g.getD k []) (L.getD (off+k) (.slice none 0 0)),fun m hm=>?_,fun G hn hg=>⟨.inr ⟨hne,n,off,s,c,e,o,L,rfl,(rk_get (hg n (by simp))).trans hb,by omega,hle,fun k row hk=>?_⟩,fun hs n' off' s' len' c' b' e' hb'=>?_⟩⟩
 ·rcases zB3.1 hm with rfl|hm
  ·exact⟨rk_ne hb,hlt⟩
  ·obtain⟨k,hk,hm⟩:=zE1.1 hm
   have hk:=zF3.1 hk
   obtain⟨row,hrow⟩:∃ row,g[k]?=some row:=⟨_,zA6 hk⟩
   obtain⟨rv,hrv,hr⟩:=ht k row hrow
   rw[zE2,hrow,zE2,hrv]at hm
   simp only[Option.getD_some]at hm
   unfold rowF at hm
   split at hm
   ·cases hm
   ·rename_i hl; exact hr.ne hl m hm
 ·obtain⟨rv,hrv,hr⟩:=ht k row hk
  refine⟨rv,hrv,hr.ofF hn fun m hm=>hg m (zB4 _ (zE1.2 ⟨k,zF3.2 (zE8.1 hk).1,?_⟩))⟩
  rw[zE2,hk,zE2,hrv]
  exact hm
 ·cases e'
  rw[rk_get (hg n (by simp))]at hb'
  exact scbL_mono hn _ (hs n off s _ _ b' rfl hb')
theorem OpsAt.mod0 {H G:AHeap} {v:Value} {l:List Op} (h:OpsAt H v l) (m:Mod [] H G):OpsAt G v l:=by
 rcases h with⟨rfl,a,c,rfl⟩|⟨hl,n,off,s,c,e,o,L,rfl,hb,hlt,hle,ht⟩
 ·exact .inl ⟨rfl,a,c,rfl⟩
 ·exact .inr ⟨hl,n,off,s,c,e,o,L,rfl,(rk_get (m.get n hlt (by simp))).trans hb,m.lt hlt,hle,ht⟩
theorem OpsAt.old {H:AHeap} {v:Value} {l:List Op} (h:OpsAt H v l) (hl:l≠[]):∀ n∈idsV v,n<H.next:=by
 rcases h with⟨rfl,_⟩|⟨_,n,off,s,c,e,o,L,rfl,hb,hlt,_⟩
 ·exact absurd rfl hl
 ·intro m hm; simp only[idsV,zA4]at hm; omega
def St.start (g:List (List Ce)) (r c:Int):St:=⟨g,r,c,⟨0,0,false,false,false⟩,max r 0,c,decide (0≤r)⟩
def St.atR (y:St):Int:=if y.shown=true then y.row else -1
def St.atC (W:Nat) (y:St):Int:=if y.shown=true then min y.col ((W:Int)-1) else 0
theorem chk_ok {g:List (List Ce)} {r c:Int} (h:chkR g r c=0):(St.start g r c).Ok (widG g)∧(∀ l∈g,l≠[])∧g≠[]:=by
 unfold chkR at h
 cases h1:(decide ((g.length:Int)<1)||decide (200<(g.length:Int))) with
 |true=>rw[h1,cond_true]at h; omega
 |false =>
  rw[h1,cond_false]at h
  simp only[Bool.or_eq_false_iff,decide_eq_false_iff_not]at h1
  obtain⟨W,hW⟩:∃ W,widG g=W:=⟨_,rfl⟩
  rw[hW]at h ⊢
  cases h2:(decide ((W:Int)<1)||decide (1000<(W:Int))||(!(decide (0≤r)&&decide (r<(g.length:Int))&&decide (0≤c)&&decide (c<(W:Int)))&&!(decide (r=-1)&&decide (c=0)))) with
  |true=>rw[h2,cond_true]at h; omega
  |false =>
   rw[h2,cond_false]at h
   cases h3:okGrid W g with
   |false=>rw[h3,cond_false]at h; omega
   |true =>
    have hw:∀ l∈g,l.length=W:=fun l hl=>by
     have:=zC9.1 h3 l hl
     unfold okRow at this
     simp only[zA8,decide_eq_true_eq]at this
     exact this.1
    simp only[Bool.or_eq_false_iff,decide_eq_false_iff_not]at h2
    obtain⟨⟨w1,w2⟩,hp⟩:=h2
    have hpos:(0≤r∧r<(g.length:Int)∧0≤c∧c<(W:Int))∨(r=-1∧c=0):=by
     by_cases q:(r=-1∧c=0)
     ·exact .inr q
     ·left
      have:(decide (r=-1)&&decide (c=0))=false:=by
       by_cases q1:r=-1<;>by_cases q2:c=0<;>simp_all
      rw[this]at hp
      simp only[zC0,Bool.and_true,Bool.not_eq_false',zA8,decide_eq_true_eq]at hp
      exact⟨hp.1.1.1,hp.1.1.2,hp.1.2,hp.2⟩
    refine⟨⟨by show 1≤g.length; omega,by show g.length≤200; omega,by omega,by omega,hw,by show 0≤max r 0; omega,by show max r 0<g.length; omega,by show 0≤c; omega,by show c≤W; omega⟩,fun l hl e=>?_,fun e=>?_⟩
    ·have:=hw l hl; rw[e]at this; simp at this; omega
    ·rw[e]at h1; simp at h1
theorem all_ok {W:Nat} {r:List UInt8→Option (List Int)}:∀ (l:List Op) (i:Nat) (x y:St),x.Ok W→St.all W r l i x=.inl y→y.Ok W
 |[],_,x,y,ok,h=>by rw[St.all]at h; cases h; exact ok
 |o::l,i,x,y,ok,h=>by
  rw[St.all]at h
  cases hd:x.does W r o with
  |none=>rw[hd]at h; cases h
  |some z=>rw[hd]at h; exact all_ok l (i+1) z y (does_ok ok hd) h
def AppR (H:AHeap) (g:List (List Ce)) (r c:Int) (l:List Op) (out:Out) (X:AHeap):Prop :=
 Mod [] H X∧if chkR g r c=0 then (match St.all (widG g) ptsR l 0 (St.start g r c) with
  |.inr i=>out=.ok (.tuple #[.agg #[.slice none 0 0,.int .i64 0,.int .i64 0],.int .i64 5,.int .i64 (i:Int)])
  |.inl y=>∃ u rvs N,out=.ok (.tuple #[.agg #[u,.int .i64 y.atR,.int .i64 (y.atC (widG g))],.int .i64 0,.int .i64 0])∧H.next≤N∧OwnG N X u rvs y.grid)
 else out=.ok (.tuple #[.agg #[.slice none 0 0,.int .i64 0,.int .i64 0],.int .i64 (chkR g r c),.int .i64 0])
theorem refCheck39_c (H:AHeap) (v:Value) (g:List (List Ce)) (r c:Int) (hg:GridAt H v g) (hw:∀ l∈g,l.length<1000000) (hgl:g.length<1000000) :
  Pure 17 [.agg ⟨[v,.int .i64 r,.int .i64 c]⟩] H (.int .i64 (chkR g r c)):=by
 obtain⟨b,hb⟩:∃ b,H.next=b:=⟨_,rfl⟩
 obtain⟨h,hh⟩:∃ h,g.length=h:=⟨_,rfl⟩
 obtain⟨W,hW⟩:∃ W,widG g=W:=⟨_,rfl⟩
 obtain⟨dh1,k1⟩:∃ d,decide ((h:Int)<1)=d:=⟨_,rfl⟩
 obtain⟨dh2,k2⟩:∃ d,decide ((200:Int)<(h:Int))=d:=⟨_,rfl⟩
 obtain⟨dW1,k3⟩:∃ d,decide ((W:Int)<1)=d:=⟨_,rfl⟩
 obtain⟨dW2,k4⟩:∃ d,decide ((1000:Int)<(W:Int))=d:=⟨_,rfl⟩
 obtain⟨d1,h1⟩:∃ d,decide ((0:Int)≤r)=d:=⟨_,rfl⟩
 obtain⟨d2,h2⟩:∃ d,decide (r<(h:Int))=d:=⟨_,rfl⟩
 obtain⟨d3,h3⟩:∃ d,decide ((0:Int)≤c)=d:=⟨_,rfl⟩
 obtain⟨d4,h4⟩:∃ d,decide (c<(W:Int))=d:=⟨_,rfl⟩
 obtain⟨d5,h5⟩:∃ d,decide (r=-1)=d:=⟨_,rfl⟩
 obtain⟨d6,h6⟩:∃ d,decide (c=0)=d:=⟨_,rfl⟩
 obtain⟨R,hR⟩:∃ R,chkR g r c=R:=⟨_,rfl⟩
 have n1:decide (r<0)=!d1:=by rw[←h1,←decide_not]; exact decide_eq_decide.2 (by omega)
 have n2:decide ((h:Int)≤r)=!d2:=by rw[←h2,←decide_not]; exact decide_eq_decide.2 (by omega)
 have n3:decide (c<0)=!d3:=by rw[←h3,←decide_not]; exact decide_eq_decide.2 (by omega)
 have n4:decide ((W:Int)≤c)=!d4:=by rw[←h4,←decide_not]; exact decide_eq_decide.2 (by omega)
 rw[hR]
 rw[chkR,hh,hW,k1,k2,k3,k4,h1,h2,h3,h4,h5,h6]at hR
 refine callS_fn mixed Tryd.func17 rfl Tryd.ntmps17 (zA7 rfl) fun wf hsc=>?_
 have hbase:H.base≤b:=hb▸wf.base
 have hg':=hg
 obtain⟨a0,c0,e0⟩:=hg.sl
 have hscv:scb b v=true:=by
  simp only[scbL,scb,scbA,zA8,hb]at hsc
  exact hsc.1.1
 rw[e0,hh]at hscv
 cases dh1 with
 |true =>
  obtain rfl:3=R:=by simpa using hR
  rw[e0,hh]
  simp (maxDischargeDepth:=6) only[hb,hbase,hscv,k1,Tryd.results17,ruW,putL,Nat.reduceLeDiff,xF,ruU,entryE,Nat.reduceLT,Nat.reduceAdd,Nat.reduceMul,Nat.reduceEqDiff]
  exact Fin.pureE rfl rfl
 |false =>
  cases dh2 with
  |true =>
   obtain rfl:3=R:=by simpa using hR
   rw[e0,hh]
   simp (maxDischargeDepth:=6) only[hb,hbase,hscv,k1,k2,Tryd.results17,ruW,putL,Nat.reduceLeDiff,xF,ruU,entryE,Nat.reduceLT,Nat.reduceAdd,Nat.reduceMul,Nat.reduceEqDiff]
   exact Fin.pureE rfl rfl
  |false =>
   have hpos:0<g.length:=by have:=of_decide_eq_false k1; omega
   rcases hg with⟨h',_⟩|⟨_,n1',o1,s1,x1,t1,p1,L1,rfl,b1,n1l,le1,tk1⟩
   ·rw[h']at hpos; simp at hpos
   obtain⟨r0,hr0⟩:∃ q,g[0]?=some q:=⟨_,zA6 hpos⟩
   obtain⟨u0,hu0,ra0⟩:=tk1 0 r0 hr0
   obtain⟨a0',k0,e0'⟩:=ra0.sl
   have hl0:r0.length=W:=by rw[←hW,widG,zE2,hr0]; rfl
   rw[hl0]at e0'
   rw[e0']at hu0
   have i1:=grid_ia (n:=n1') (off:=o1) (s:=s1) (cap:=x1) (i:=((0:Nat):Int)) rfl hpos
   rw[show ((0:Nat):Int)=0 from rfl]at i1
   have q1:=grid_load (e:=t1) (o:=p1) hu0
   rw[zD3]at q1 i1
   rw[hh]at i1 hg' ⊢
   have hlt:=n1l
   rw[hb]at hlt
   have hws:dW1=true∨(dW1=false∧dW2=true)∨(dW1=false∧dW2=false):=by cases dW1<;>cases dW2<;>simp
   have hns:d5=false∨(d5=true∧d6=false)∨(d5=true∧d6=true):=by cases d5<;>cases d6<;>simp
   have hs:(d1=true∧d2=true∧d3=true∧d4=true)∨d1=false∨(d1=true∧d2=false)∨(d1=true∧d2=true∧d3=false)∨(d1=true∧d2=true∧d3=true∧d4=false):=by
    cases d1<;>cases d2<;>cases d3<;>cases d4<;>simp
   by_cases hbad:dW1=true∨dW2=true∨((d5=false∨d6=false)∧(d1=false∨d2=false∨d3=false∨d4=false))
   ·have hR3:3=R:=by
     rcases hbad with rfl|rfl|⟨ha,hb'⟩
     ·simpa using hR
     ·cases dW1<;>simpa using hR
     ·rcases ha with rfl|rfl<;>rcases hb' with rfl|rfl|rfl|rfl<;>cases dW1<;>cases dW2<;>simpa using hR
    subst hR3
    rcases hws with rfl|⟨rfl,rfl⟩|⟨rfl,rfl⟩
    ·rcases hns with rfl|⟨rfl,rfl⟩|⟨rfl,rfl⟩
     all_goals (simp (maxDischargeDepth:=6) only[hb,hbase,hlt,b1,i1,q1,qk_old,k1,k2,k3,k4,h5,h6,Tryd.results17,ruW,putL,Nat.reduceLeDiff,xF,ruU,entryE,Nat.reduceLT,Nat.reduceAdd,Nat.reduceMul,Nat.reduceEqDiff]; exact Fin.pureE rfl rfl)
    ·rcases hns with rfl|⟨rfl,rfl⟩|⟨rfl,rfl⟩
     all_goals (simp (maxDischargeDepth:=6) only[hb,hbase,hlt,b1,i1,q1,qk_old,k1,k2,k3,k4,h5,h6,Tryd.results17,ruW,putL,Nat.reduceLeDiff,xF,ruU,entryE,Nat.reduceLT,Nat.reduceAdd,Nat.reduceMul,Nat.reduceEqDiff]; exact Fin.pureE rfl rfl)
    ·rcases hns with rfl|⟨rfl,rfl⟩|⟨rfl,rfl⟩
     ·rcases hs with⟨rfl,rfl,rfl,rfl⟩|rfl|⟨rfl,rfl⟩|⟨rfl,rfl,rfl⟩|⟨rfl,rfl,rfl,rfl⟩
      ·simp at hbad
      all_goals (simp (maxDischargeDepth:=6) only[hb,hbase,hlt,b1,i1,q1,qk_old,k1,k2,k3,k4,h5,h6,n1,n2,n3,n4,zB5,zC0,Tryd.results17,ruW,putL,Nat.reduceLeDiff,xF,ruU,entryE,Nat.reduceLT,Nat.reduceAdd,Nat.reduceMul,Nat.reduceEqDiff]; exact Fin.pureE rfl rfl)
     ·rcases hs with⟨rfl,rfl,rfl,rfl⟩|rfl|⟨rfl,rfl⟩|⟨rfl,rfl,rfl⟩|⟨rfl,rfl,rfl,rfl⟩
      ·simp at hbad
      all_goals (simp (maxDischargeDepth:=6) only[hb,hbase,hlt,b1,i1,q1,qk_old,k1,k2,k3,k4,h5,h6,n1,n2,n3,n4,zB5,zC0,Tryd.results17,ruW,putL,Nat.reduceLeDiff,xF,ruU,entryE,Nat.reduceLT,Nat.reduceAdd,Nat.reduceMul,Nat.reduceEqDiff]; exact Fin.pureE rfl rfl)
     ·simp at hbad
   ·obtain⟨rfl,rfl,hgood⟩:dW1=false∧dW2=false∧((d5=true∧d6=true)∨(d1=true∧d2=true∧d3=true∧d4=true)):=by
     cases dW1<;>cases dW2<;>cases d1<;>cases d2<;>cases d3<;>cases d4<;>cases d5<;>cases d6<;>simp at hbad ⊢
    have hRB:R=cond (okGrid W g) 0 5:=by
     rw[←hR]
     rcases hgood with⟨rfl,rfl⟩|⟨rfl,rfl,rfl,rfl⟩<;>simp
    clear hR hbad hws
    have hgood3:(d5=false∧d1=true∧d2=true∧d3=true∧d4=true)∨(d5=true∧d6=false∧d1=true∧d2=true∧d3=true∧d4=true)∨(d5=true∧d6=true):=by
     rcases hns with rfl|⟨rfl,rfl⟩|⟨rfl,rfl⟩
     ·exact .inl ⟨rfl,by simpa using hgood⟩
     ·exact .inr (.inl ⟨rfl,rfl,by simpa using hgood⟩)
     ·exact .inr (.inr ⟨rfl,rfl⟩)
    clear hns hgood hs
    obtain⟨X,hX⟩:∃ X,X=ext H [⟨24,false,[.slice (some ⟨n1',o1,s1⟩) h x1,.int .i64 r,.int .i64 c]⟩]:=⟨_,rfl⟩
    rcases hgood3 with⟨rfl,rfl,rfl,rfl,rfl⟩|⟨rfl,rfl,rfl,rfl,rfl,rfl⟩|⟨rfl,rfl⟩
    all_goals
     simp (maxDischargeDepth:=6) only[hb,hbase,hlt,b1,i1,q1,qk_old,k1,k2,k3,k4,h5,h6,n1,n2,n3,n4,zB5,zC0,ruW,putL,Nat.reduceLeDiff,xF,ruU,entryE,Nat.reduceLT,Nat.reduceAdd,Nat.reduceMul,Nat.reduceEqDiff]
     refine w_env fun E hE=>?_
     have g1:E 1=.pointer (some ⟨b+0,0,none⟩):=by rw[hE]; simp only[ruU,entryE,Nat.reduceLT,Nat.reduceAdd,Nat.reduceMul,Nat.reduceEqDiff]
     have g3:E 3=.int .i64 (h:Int):=by rw[hE]; simp only[ruU,entryE,Nat.reduceLT,Nat.reduceAdd,Nat.reduceMul,Nat.reduceEqDiff]
     have g4:E 4=.int .i64 (W:Int):=by rw[hE]; simp only[ruU,entryE,Nat.reduceLT,Nat.reduceAdd,Nat.reduceMul,Nat.reduceEqDiff]
     have g6:E 6=.int .i64 ((0:Nat):Int):=by rw[hE]; (simp only[ruU,entryE,Nat.reduceLT,Nat.reduceAdd,Nat.reduceMul,Nat.reduceEqDiff]<;>rfl)
     clear hE
     refine blockC_meet (fun E' H'=>H'=X∧okGrid W g=true) ?_ ?_
     ·refine w_loop (fun (k:Nat) E' H'=>H'=X∧E' 1=.pointer (some ⟨b+0,0,none⟩)∧E' 3=.int .i64 (h:Int)∧E' 4=.int .i64 (W:Int)∧E' 6=.int .i64 (k:Int)∧k≤h∧∀ i l,i<k→g[i]?=some l→okRow W l=true) (fun k=>h-k) 0
       ⟨hX.symm,g1,g3,g4,g6,zB0 _,fun i l hi=>by omega⟩ ?_
      clear g1 g3 g4 g6
      rintro k E H' ⟨hH,g1,g3,g4,g6,hk,hpre⟩
      rw[hH]
      by_cases hkl:k=h
      ·have hc:decide ((k:Int)<(h:Int))=false:=by simp[hkl]
       simp (maxDischargeDepth:=6) only[g1,g3,g4,g6,hc,ruW,putL,Nat.reduceLeDiff,xF,ruU,entryE,Nat.reduceLT,Nat.reduceAdd,Nat.reduceMul,Nat.reduceEqDiff]
       refine joinR_normal ⟨rfl,?_⟩
       rw[okGrid,zC9]
       intro l hl
       obtain⟨i,hi⟩:=List.getElem?_of_mem hl
       exact hpre i l (by have:=(zE8.1 hi).1; omega) hi
      ·have hlk:k<h:=by omega
       have hc:decide ((k:Int)<(h:Int))=true:=decide_eq_true (by omega)
       obtain⟨w1,hr1⟩:∃ r,g[k]?=some r:=⟨_,zA6 (by omega)⟩
       obtain⟨u1,hu1,ra1⟩:=tk1 k w1 hr1
       obtain⟨a1,c1,e1⟩:=ra1.sl
       rw[e1]at hu1 ra1
       have i2:=grid_ia (n:=n1') (off:=o1) (s:=s1) (cap:=x1) (i:=(k:Int)) (len:=h) rfl hlk
       have q2:=grid_load (e:=t1) (o:=p1) hu1
       have hra:=row39_c X _ w1 (hX▸ra1.ext) (hw w1 (zB9 hr1))
       obtain⟨d,hd⟩:∃ d,wholeB w1=d:=⟨_,rfl⟩
       obtain⟨dl,hdl⟩:∃ d,decide (w1.length=W)=d:=⟨_,rfl⟩
       have hd2:decide (¬(w1.length:Int)=(W:Int))=!dl:=by
        rw[←hdl,decide_not]
        exact congrArg _ (decide_eq_decide.2 (by omega))
       have hor:okRow W w1=(dl&&d):=by rw[okRow,hd,hdl]
       rw[hd,hX]at hra
       rw[hX]
       have hbadR:(dl&&d)=false→5=R:=fun he=>by
        rw[hRB,okGrid,List.all_eq_false.2 ⟨w1,zB9 hr1,by rw[hor,he]; simp⟩]
        rfl
       cases dl with
       |false =>
        obtain rfl:5=R:=hbadR rfl
        simp (maxDischargeDepth:=6) only[g1,g3,g4,g6,hb,hbase,hlt,b1,i2,q2,qk_old,hc,hd2,zC0,joinR_ret,Tryd.results17,ruW,putL,Nat.reduceLeDiff,xF,ruU,entryE,Nat.reduceLT,Nat.reduceAdd,Nat.reduceMul,Nat.reduceEqDiff]
        exact Fin.pureE rfl rfl
       |true =>
        simp (maxDischargeDepth:=6) only[g1,g3,g4,g6,hb,hbase,hlt,b1,i2,q2,qk_old,hc,hd2,zB5,ruW,putL,Nat.reduceLeDiff,xF,ruU,entryE,Nat.reduceLT,Nat.reduceAdd,Nat.reduceMul,Nat.reduceEqDiff]
        refine hra.to ?_
        cases d with
        |false =>
         obtain rfl:5=R:=hbadR rfl
         simp (maxDischargeDepth:=6) only[zC0,joinR_ret,Tryd.results17,ruW,putL,Nat.reduceLeDiff,xF,ruU,entryE,Nat.reduceLT,Nat.reduceAdd,Nat.reduceMul,Nat.reduceEqDiff]
         exact Fin.pureE rfl rfl
        |true =>
         simp (maxDischargeDepth:=6) only[g1,g3,g4,g6,zB5,wrap_succ (show k<1000000 by omega),ruW,putL,Nat.reduceLeDiff,xF,ruU,entryE,Nat.reduceLT,Nat.reduceAdd,Nat.reduceMul,Nat.reduceEqDiff]
         refine loopC_next ⟨k+1,by omega,rfl,?_,?_,?_,?_,by omega,fun i l hi hl=>?_⟩
         ·simp only[g1,ruU,entryE,Nat.reduceLT,Nat.reduceAdd,Nat.reduceMul,Nat.reduceEqDiff]
         ·simp only[g3,ruU,entryE,Nat.reduceLT,Nat.reduceAdd,Nat.reduceMul,Nat.reduceEqDiff]
         ·simp only[g4,ruU,entryE,Nat.reduceLT,Nat.reduceAdd,Nat.reduceMul,Nat.reduceEqDiff]
         ·simp only[g6,ruU,entryE,Nat.reduceLT,Nat.reduceAdd,Nat.reduceMul,Nat.reduceEqDiff]
         ·rcases zC4 i k with h'|h'
          ·exact hpre i l h' hl
          ·obtain rfl:i=k:=by omega
           rw[hr1]at hl
           cases hl
           rw[hor]
           rfl
     ·rintro E H' ⟨hH,hall⟩
      obtain rfl:0=R:=by rw[hRB,hall]; rfl
      rw[hH,hX]
      simp (maxDischargeDepth:=6) only[Tryd.results17,ruW,putL,Nat.reduceLeDiff,xF,ruU,entryE,Nat.reduceLT,Nat.reduceAdd,Nat.reduceMul,Nat.reduceEqDiff]
      exact Fin.pureE rfl rfl
def largeR (g:List (List Ce)):Bool:=(g.take 13).any (fun l=>decide (60<l.length))||decide (12<g.length)
theorem largeR_false {g:List (List Ce)} (h:largeR g=false):g.length≤12∧∀ l∈g,l.length≤60:=by
 rw[largeR,Bool.or_eq_false_iff]at h
 have h2:=of_decide_eq_false h.2
 refine⟨by omega,fun l hl=>?_⟩
 have h1:=h.1
 rw[zE6 (by omega),List.any_eq_false]at h1
 have:=h1 l hl
 simpa using this
theorem large_c (H:AHeap) (v:Value) (g:List (List Ce)) (r c:Int) (hg:GridAt H v g):Pure 10 [.agg ⟨[v,.int .i64 r,.int .i64 c]⟩] H (.bool (largeR g)):=by
 obtain⟨b,hb⟩:∃ b,H.next=b:=⟨_,rfl⟩
 refine callS_fn mixed Tryd.func10 rfl Tryd.ntmps10 (zA7 rfl) fun wf hsc=>?_
 have hbase:H.base≤b:=hb▸wf.base
 have hg':=hg
 obtain⟨a0,c0,e0⟩:=hg.sl
 have hscv:scb b v=true:=by
  simp only[scbL,scb,scbA,zA8,hb]at hsc
  exact hsc.1.1
 obtain⟨B,hB⟩:∃ B,largeR g=B:=⟨_,rfl⟩
 rw[hB]
 obtain⟨X,hX⟩:∃ X,X=ext H [⟨24,false,[v,.int .i64 r,.int .i64 c]⟩]:=⟨_,rfl⟩
 rw[e0]at hscv hX ⊢
 simp (maxDischargeDepth:=6) only[hb,hbase,hscv,ruW,putL,Nat.reduceLeDiff,xF,ruU,entryE,Nat.reduceLT,Nat.reduceAdd,Nat.reduceMul,Nat.reduceEqDiff]
 refine w_env fun E hE=>?_
 have g1:E 1=.pointer (some ⟨b+0,0,none⟩):=by rw[hE]; simp only[ruU,entryE,Nat.reduceLT,Nat.reduceAdd,Nat.reduceMul,Nat.reduceEqDiff]
 have g3:E 3=.int .i64 ((0:Nat):Int):=by rw[hE]; (simp only[ruU,entryE,Nat.reduceLT,Nat.reduceAdd,Nat.reduceMul,Nat.reduceEqDiff]<;>rfl)
 clear hE
 refine blockC_meet (fun E' H'=>H'=X∧E' 1=.pointer (some ⟨b+0,0,none⟩)∧B=decide (12<g.length)) ?_ ?_
 ·refine w_loop (fun (k:Nat) E' H'=>H'=X∧E' 1=.pointer (some ⟨b+0,0,none⟩)∧E' 3=.int .i64 (k:Int)∧k≤g.length∧k≤13∧∀ i l,i<k→g[i]?=some l→l.length≤60) (fun k=>g.length-k) 0
   ⟨hX.symm,g1,g3,zB0 _,by omega,fun i l hi=>by omega⟩ ?_
  clear g1 g3
  rintro k E H' ⟨hH,g1,g3,hk,hk13,hpre⟩
  rw[hH,hX]
  have fin:(∀ i l,i<13→g[i]?=some l→l.length≤60)→B=decide (12<g.length):=fun hall=>by
   rw[←hB,largeR]
   have:(g.take 13).any (fun l=>decide (60<l.length))=false:=by
    rw[List.any_eq_false]
    intro l hl
    obtain⟨i,hi⟩:=List.getElem?_of_mem hl
    have hi13:i<13:=by
     have:=(zE8.1 hi).1
     rw[zE7]at this
     omega
    rw[List.getElem?_take,if_pos hi13]at hi
    have:=hall i l hi13 hi
    simp; omega
   rw[this,Bool.false_or]
  by_cases hkl:k=g.length
  ·have hc:decide ((k:Int)<(g.length:Int))=false:=by simp[hkl]
   simp (maxDischargeDepth:=6) only[g1,g3,hb,hbase,hc,ruW,putL,Nat.reduceLeDiff,xF,ruU,entryE,Nat.reduceLT,Nat.reduceAdd,Nat.reduceMul,Nat.reduceEqDiff]
   refine joinR_normal ⟨rfl,by simp only[g1,ruU,entryE,Nat.reduceLT,Nat.reduceAdd,Nat.reduceMul,Nat.reduceEqDiff],fin fun i l hi hl=>hpre i l (by have:=(zE8.1 hl).1; omega) hl⟩
  ·have hlk:k<g.length:=by omega
   have hc:decide ((k:Int)<(g.length:Int))=true:=decide_eq_true (by omega)
   by_cases hk3:k=13
   ·have hc2:decide ((k:Int)<13)=false:=by simp[hk3]
    simp (maxDischargeDepth:=6) only[g1,g3,hb,hbase,hc,hc2,ruW,putL,Nat.reduceLeDiff,xF,ruU,entryE,Nat.reduceLT,Nat.reduceAdd,Nat.reduceMul,Nat.reduceEqDiff]
    refine joinR_normal ⟨rfl,by simp only[g1,ruU,entryE,Nat.reduceLT,Nat.reduceAdd,Nat.reduceMul,Nat.reduceEqDiff],fin fun i l hi hl=>hpre i l (by omega) hl⟩
   ·have hc2:decide ((k:Int)<13)=true:=decide_eq_true (by omega)
    rcases hg with⟨h',_⟩|⟨_,n1,o1,s1,x1,t1,p1,L1,ev,b1,n1l,le1,tk1⟩
    ·rw[h']at hlk; simp at hlk
    rw[ev]at e0
    cases e0
    obtain⟨w1,hr1⟩:∃ r,g[k]?=some r:=⟨_,zA6 hlk⟩
    obtain⟨u1,hu1,ra1⟩:=tk1 k w1 hr1
    obtain⟨a1,c1,e1⟩:=ra1.sl
    rw[e1]at hu1
    have i1:=grid_ia (n:=n1) (off:=o1) (s:=s1) (cap:=c0) (i:=(k:Int)) rfl hlk
    have q1:=grid_load (e:=t1) (o:=p1) hu1
    rw[hb]at n1l
    obtain⟨d,hd⟩:∃ d,decide ((60:Int)<(w1.length:Int))=d:=⟨_,rfl⟩
    cases d with
    |true =>
     obtain rfl:true=B:=by
      rw[←hB,largeR,List.any_eq_true.2 ⟨w1,?_,?_⟩,Bool.true_or]
      ·refine zB9 (i:=k) ?_
       rw[List.getElem?_take,if_pos (by omega),hr1]
      ·have:=of_decide_eq_true hd
       exact decide_eq_true (by omega)
     simp (maxDischargeDepth:=6) only[g1,g3,hb,hbase,hc,hc2,i1,b1,n1l,q1,qk_old,hd,joinR_ret,Tryd.results10,ruW,putL,Nat.reduceLeDiff,xF,ruU,entryE,Nat.reduceLT,Nat.reduceAdd,Nat.reduceMul,Nat.reduceEqDiff]
     exact Fin.pureE rfl rfl
    |false =>
     simp (maxDischargeDepth:=6) only[g1,g3,hb,hbase,hc,hc2,i1,b1,n1l,q1,qk_old,hd,wrap_succ (show k<1000000 by omega),ruW,putL,Nat.reduceLeDiff,xF,ruU,entryE,Nat.reduceLT,Nat.reduceAdd,Nat.reduceMul,Nat.reduceEqDiff]
     refine loopC_next ⟨k+1,by omega,rfl,?_,?_,by omega,by omega,fun i l hi hl=>?_⟩
     ·simp only[g1,ruU,entryE,Nat.reduceLT,Nat.reduceAdd,Nat.reduceMul,Nat.reduceEqDiff]
     ·simp only[ruU,entryE,Nat.reduceLT,Nat.reduceAdd,Nat.reduceMul,Nat.reduceEqDiff]
     ·rcases zC4 i k with h'|h'
      ·exact hpre i l h' hl
      ·obtain rfl:i=k:=by omega
       rw[hr1]at hl
       cases hl
       have:=of_decide_eq_false hd
       omega
 ·rintro E H' ⟨hH,g1,hBe⟩
  rw[hH,hX]
  have hd:decide ((12:Int)<(g.length:Int))=B:=by rw[hBe]; exact decide_eq_decide.2 (by omega)
  simp (maxDischargeDepth:=6) only[g1,hb,hbase,hd,Tryd.results10,ruW,putL,Nat.reduceLeDiff,xF,ruU,entryE,Nat.reduceLT,Nat.reduceAdd,Nat.reduceMul,Nat.reduceEqDiff]
  exact Fin.pureE rfl rfl
def lenR (l:List UInt8):Int:=match ptsR l with
 |none=>0
 |some r=>r.length
theorem op_eqL (x:Op):eqL x.cells x.cells=true:=by
 have h:(x.text == x.text)=true:=by
  show x.text.beq x.text=true
  simp[ByteArray.beq]
 simp[Op.cells,eqL,eq1,h]
theorem fl47:flat Tryd.prog 10000 47=some [3,3,3,3,3,3,4,4,4,9]:=by kernel_rfl
theorem ag47:aggT Tryd.prog 47=some true:=by kernel_rfl
theorem gd47:Tryd.prog.eqGuardType Tryd.prog.depth 47=false:=by kernel_rfl
theorem op_fits (x:Op):fits Tryd.prog [3,3,3,3,3,3,4,4,4,9] x.cells=true:=by
 have h3:∀ n,fit1 Tryd.prog 3 (.int .i64 n)=true:=fun n=>by kernel_rfl
 have h4:∀ n,fit1 Tryd.prog 4 (.bool n)=true:=fun n=>by kernel_rfl
 have h9:∀ n,fit1 Tryd.prog 9 (.string n)=true:=fun n=>by kernel_rfl
 simp only[Op.cells,fits,h3,h4,h9,zE0]
def OwnOps (H:AHeap) (v:Value) (W:List Nat) (l:List Op):Prop :=
 (l=[]∧∃ a c,v=.slice a 0 c)∨(l≠[]∧∃ n s c o,v=.slice (some ⟨n,0,s⟩) l.length c∧bk H n=some ⟨47,o,opsOf l⟩∧n<H.next∧n∈W)
theorem opsOf_len (l:List Op):(opsOf l).length=l.length*10:=flat_len _ _ op_len l
theorem OwnOps.at_ {H:AHeap} {v:Value} {W:List Nat} {l:List Op} (h:OwnOps H v W l):OpsAt H v l:=by
 rcases h with h|⟨hl,n,s,c,o,rfl,hb,hlt,_⟩
 ·exact .inl h
 ·exact .inr ⟨hl,n,0,s,c,47,o,opsOf l,rfl,rk_of hb,hlt,by rw[opsOf_len]; omega,by rw[zD1,zE6 (by rw[opsOf_len]; exact zA5 _)]⟩
theorem same_c (H:AHeap) (va vb:Value) (W:List Nat) (l:List Op) (ha:OwnOps H va W l) (hb:OpsAt H vb l) (hok:H.base≤H.next) (hl:l.length<1000000) :
  CallA Tryd.prog 15 [va,vb] H (fun out X=>out=.ok (.bool true)∧Mod W H X):=by
 obtain⟨b,hbn⟩:∃ b,H.next=b:=⟨_,rfl⟩
 have haO:=ha.at_
 obtain⟨a1,c1,e1⟩:=haO.sl
 obtain⟨a2,c2,e2⟩:=hb.sl
 refine callE_fn mixed Tryd.func15 rfl Tryd.ntmps15 (zA7 rfl) ?_
 rw[e1,e2]
 have hdl:decide ((l.length:Int)=(l.length:Int))=true:=decide_eq_true rfl
 simp (maxDischargeDepth:=6) only[hdl,decide_true,ruW,putL,Nat.reduceLeDiff,xF,ruU,entryE,Nat.reduceLT,Nat.reduceAdd,Nat.reduceMul,Nat.reduceEqDiff]
 refine w_env fun E hE=>?_
 have g0:E 0=.slice a1 l.length c1:=by rw[hE]; simp only[ruU,entryE,Nat.reduceLT,Nat.reduceAdd,Nat.reduceMul,Nat.reduceEqDiff]
 have g1:E 1=.slice a2 l.length c2:=by rw[hE]; simp only[ruU,entryE,Nat.reduceLT,Nat.reduceAdd,Nat.reduceMul,Nat.reduceEqDiff]
 have g5:E 5=.bool true:=by rw[hE]; (simp only[ruU,entryE,Nat.reduceLT,Nat.reduceAdd,Nat.reduceMul,Nat.reduceEqDiff]<;>rfl)
 have g6:E 6=.int .i64 ((0:Nat):Int):=by rw[hE]; (simp only[ruU,entryE,Nat.reduceLT,Nat.reduceAdd,Nat.reduceMul,Nat.reduceEqDiff]<;>rfl)
 clear hE
 refine blockC_meet (fun E' X=>X=ext H []∧E' 0=.slice a1 l.length c1∧E' 5=.bool true) ?_ ?_
 ·refine w_loop (fun (k:Nat) E' X=>X=ext H []∧E' 0=.slice a1 l.length c1∧E' 1=.slice a2 l.length c2∧E' 5=.bool true∧E' 6=.int .i64 (k:Int)∧k≤l.length) (fun k=>l.length-k) 0
   ⟨rfl,g0,g1,g5,g6,zB0 _⟩ ?_
  clear g0 g1 g5 g6
  rintro k E X ⟨hX,g0,g1,g5,g6,hk⟩
  rw[hX]
  by_cases hkl:k=l.length
  ·have hc:decide ((k:Int)<(l.length:Int))=false:=by simp[hkl]
   simp (maxDischargeDepth:=6) only[g0,g1,g5,g6,hc,ruW,putL,Nat.reduceLeDiff,xF,ruU,entryE,Nat.reduceLT,Nat.reduceAdd,Nat.reduceMul,Nat.reduceEqDiff]
   exact joinR_normal ⟨rfl,by simp only[g0,ruU,entryE,Nat.reduceLT,Nat.reduceAdd,Nat.reduceMul,Nat.reduceEqDiff],by simp only[g5,ruU,entryE,Nat.reduceLT,Nat.reduceAdd,Nat.reduceMul,Nat.reduceEqDiff]⟩
  ·have hlk:k<l.length:=by omega
   have hc:decide ((k:Int)<(l.length:Int))=true:=decide_eq_true (by omega)
   rcases haO with⟨h',_⟩|⟨_,n1,o1,s1,x1,t1,p1,L1,ev,b1,n1l,le1,tk1⟩
   ·rw[h']at hlk; simp at hlk
   rcases hb with⟨h',_⟩|⟨_,n2,o2,s2,x2,t2,p2,L2,ev2,b2,n2l,le2,tk2⟩
   ·rw[h']at hlk; simp at hlk
   rw[ev]at e1
   rw[ev2]at e2
   cases e1
   cases e2
   obtain⟨w1,hr1⟩:∃ r,l[k]?=some r:=⟨_,zA6 hlk⟩
   have i1:=op_ia (n:=n1) (off:=o1) (s:=s1) (cap:=c1) (i:=(k:Int)) rfl hlk
   have i2:=op_ia (n:=n2) (off:=o2) (s:=s2) (cap:=c2) (i:=(k:Int)) rfl hlk
   have q1:=op_load (e:=t1) (o:=p1) hr1 le1 tk1
   have q2:=op_load (e:=t2) (o:=p2) hr1 le2 tk2
   rw[hbn]at n1l n2l
   simp (maxDischargeDepth:=6) only[g0,g1,g5,g6,hc,ruW,putL,Nat.reduceLeDiff,xF,ruU,entryE,Nat.reduceLT,Nat.reduceAdd,Nat.reduceMul,Nat.reduceEqDiff]
   refine w_drawB [] [] (by kernel_rfl) rfl rfl fun ops anc hA hG=>?_
   simp (maxDischargeDepth:=6) only[g0,g1,g5,g6,hbn,i1,i2,b1,b2,n1l,n2l,q1,q2,qk_old,Op.val,ruD,ruW,putL,Nat.reduceLeDiff,xF,ruU,entryE,Nat.reduceLT,Nat.reduceAdd,Nat.reduceMul,Nat.reduceEqDiff]
   refine wd_eqS (ts:=[3,3,3,3,3,3,4,4,4,9]) (xs:=w1.cells) (ys:=w1.cells) (r:=true) fl47 ag47 gd47 (by rw[op_eqL]; rfl) (by simp only[ruU,entryE,Nat.reduceLT,Nat.reduceAdd,Nat.reduceMul,Nat.reduceEqDiff]) (by simp only[ruU,entryE,Nat.reduceLT,Nat.reduceAdd,Nat.reduceMul,Nat.reduceEqDiff]) (by decide) (by (simp only[ruU,entryE,Nat.reduceLT,Nat.reduceAdd,Nat.reduceMul,Nat.reduceEqDiff]<;>rfl)) (by (simp only[ruU,entryE,Nat.reduceLT,Nat.reduceAdd,Nat.reduceMul,Nat.reduceEqDiff]<;>rfl)) (op_fits _) (op_fits _) ?_
   simp (maxDischargeDepth:=6) only[g0,g1,g5,g6,wrap_succ (show k<1000000 by omega),ruD,ruW,putL,Nat.reduceLeDiff,xF,ruU,entryE,Nat.reduceLT,Nat.reduceAdd,Nat.reduceMul,Nat.reduceEqDiff]
   refine loopC_next ⟨k+1,by omega,rfl,?_,?_,?_,?_,by omega⟩<;>simp only[g0,g1,ruU,entryE,Nat.reduceLT,Nat.reduceAdd,Nat.reduceMul,Nat.reduceEqDiff]
 ·clear g0 g1 g5 g6
  rintro E X ⟨hX,g0,g5⟩
  rw[hX]
  simp (maxDischargeDepth:=6) only[g0,g5,ruW,putL,Nat.reduceLeDiff,xF,ruU,entryE,Nat.reduceLT,Nat.reduceAdd,Nat.reduceMul,Nat.reduceEqDiff]
  refine w_env fun E2 hE=>?_
  have h0:E2 0=.slice a1 l.length c1:=by rw[hE]; simp only[g0,ruU,entryE,Nat.reduceLT,Nat.reduceAdd,Nat.reduceMul,Nat.reduceEqDiff]
  have h5:E2 5=.bool true:=by rw[hE]; simp only[g5,ruU,entryE,Nat.reduceLT,Nat.reduceAdd,Nat.reduceMul,Nat.reduceEqDiff]
  have h7:E2 7=.int .i64 ((0:Nat):Int):=by rw[hE]; (simp only[ruU,entryE,Nat.reduceLT,Nat.reduceAdd,Nat.reduceMul,Nat.reduceEqDiff]<;>rfl)
  clear hE g0 g5
  refine blockC_meet (fun E' X=>Mod W H X∧E' 5=.bool true) ?_ ?_
  ·refine w_loop (fun (k:Nat) E' X=>Mod W H X∧(∀ n s c,va=.slice (some ⟨n,0,s⟩) l.length c→0<l.length→∃ o L,bk X n=some ⟨47,o,L⟩∧L.length=l.length*10∧n<X.next)∧E' 0=.slice a1 l.length c1∧E' 5=.bool true∧E' 7=.int .i64 (k:Int)∧k≤l.length) (fun k=>l.length-k) 0
    ⟨Mod.refl,fun n s c e hpos=>?_,h0,h5,h7,zB0 _⟩ ?_
   ·rcases ha with⟨h',_⟩|⟨_,n',s',c',o,e',hbb,hlt,_⟩
    ·rw[h']at hpos; simp at hpos
    ·rw[e]at e'; cases e'; exact⟨o,_,hbb,opsOf_len l,hlt⟩
   clear h0 h5 h7
   rintro k E X ⟨mX,hbl,g0,g5,g7,hk⟩
   obtain⟨x,hx⟩:∃ x,X.next=x:=⟨_,rfl⟩
   rw[show X=ext X [] from rfl]
   by_cases hkl:k=l.length
   ·have hc:decide ((k:Int)<(l.length:Int))=false:=by simp[hkl]
    simp (maxDischargeDepth:=6) only[g0,g5,g7,hc,ruW,putL,Nat.reduceLeDiff,xF,ruU,entryE,Nat.reduceLT,Nat.reduceAdd,Nat.reduceMul,Nat.reduceEqDiff]
    exact joinR_normal ⟨mX,by simp only[g5,ruU,entryE,Nat.reduceLT,Nat.reduceAdd,Nat.reduceMul,Nat.reduceEqDiff]⟩
   ·have hlk:k<l.length:=by omega
    have hc:decide ((k:Int)<(l.length:Int))=true:=decide_eq_true (by omega)
    rcases ha with⟨h',_⟩|⟨_,n,s,c,o',ev,_,_,hnW⟩
    ·rw[h']at hlk; simp at hlk
    obtain⟨o,L,hbb,hLl,hnl⟩:=hbl n s c ev (by omega)
    rw[ev]at e1
    cases e1
    rw[hx]at hnl
    have i1:=op_ia (n:=n) (off:=0) (s:=s) (cap:=c1) (i:=(k:Int)) rfl hlk
    have hst:∀ M,stB Tryd.prog 47 M (0+k*10) (.agg ⟨[.int .i64 (-77),.int .i64 0,.int .i64 0,.int .i64 0,.int .i64 0,.int .i64 0,.bool false,.bool false,.bool false,.string .empty]⟩) (some ⟨47,o,L⟩)=some ⟨47,o,putL L (0+k*10) [.int .i64 (-77),.int .i64 0,.int .i64 0,.int .i64 0,.int .i64 0,.int .i64 0,.bool false,.bool false,.bool false,.string .empty]⟩:=fun M=>by
     exact stB_ok (v:=.agg ⟨[.int .i64 (-77),.int .i64 0,.int .i64 0,.int .i64 0,.int .i64 0,.int .i64 0,.bool false,.bool false,.bool false,.string .empty]⟩) (by kernel_rfl) (by simp[Value.cells]; omega) (by rfl) (by rfl)
    simp (maxDischargeDepth:=6) only[g0,g5,g7,hx,hnl,hbb,i1,hst,hc,wrap_succ (show k<1000000 by omega),ruW,putL,Nat.reduceLeDiff,xF,ruU,entryE,Nat.reduceLT,Nat.reduceAdd,Nat.reduceMul,Nat.reduceEqDiff]
    generalize hU:uw X n _ _=U
    have mU:Mod [n] X U:=hU▸Mod.uw (by simp)
    have hUb:∃ L2,bk U n=some ⟨47,o,L2⟩∧L2.length=l.length*10:=by
     rw[←hU,bk_uw_eq,hbb]
     exact⟨_,rfl,by rw[putL_length]; exact hLl⟩
    refine loopC_next ⟨k+1,by omega,mX.step mU hok (fun p hp=>by simp only[zA4]at hp; subst hp; exact .inl hnW),fun n' s' c' e _=>?_,?_,?_,?_,by omega⟩
    ·rw[ev]at e
     cases e
     obtain⟨L2,h1,h2⟩:=hUb
     exact⟨o,L2,h1,h2,mU.lt (by omega)⟩
    ·simp only[g0,ruU,entryE,Nat.reduceLT,Nat.reduceAdd,Nat.reduceMul,Nat.reduceEqDiff]
    ·simp only[g5,ruU,entryE,Nat.reduceLT,Nat.reduceAdd,Nat.reduceMul,Nat.reduceEqDiff]
    ·simp only[ruU,entryE,Nat.reduceLT,Nat.reduceAdd,Nat.reduceMul,Nat.reduceEqDiff]
  ·rintro E X ⟨mX,g5⟩
   rw[show X=ext X [] from rfl]
   simp (maxDischargeDepth:=6) only[g5,Tryd.results15,ruW,putL,Nat.reduceLeDiff,xF,ruU,entryE,Nat.reduceLT,Nat.reduceAdd,Nat.reduceMul,Nat.reduceEqDiff]
   exact⟨trivial,mX⟩
end Go.Proofs.YtaojjfebkldmnaaDoor
