/- Parts of the proof, one behind the other. -/
import Derived.Test.YtnigelgcjfhghaaGreatDoorM4
import Derived.Lib.ItoaLen
import Derived.Test.YtnigelgcjfhghaaGreatDoorRows
import Derived.ProofKit
import Derived.Carry
import Derived.OpenShut
import Derived.LaidMore
import Derived.Lay
set_option linter.all false
set_option maxRecDepth 10000
set_option maxHeartbeats 16000000
open And renaming intro → zA0
open Option renaming bind_eq_bind → zA1, bind_eq_some_iff → zA2, bind_some → zA3, map_some → zA6, map_eq_some_iff → zA9
open Bool renaming and_eq_true → zA4, false_eq_true → zB5, and_self → zD7
open List renaming length_cons → zA5, mem_cons → zA7, mem_singleton → zB0, getElem?_eq_getElem → zB1, length_append → zB2, mem_cons_of_mem → zB3, map_cons → zB4, mem_cons_self → zB6, all_eq_true → zB7, length_nil → zB8, length_singleton → zC0, mem_append → zC1, flatMap_cons → zC4, getD_eq_getElem?_getD → zC6, nil_append → zC8, length_map → zD3, mem_map → zD4, not_mem_nil → zD6, take_of_length_le → zD8, cons_append → zE0, getElem?_eq_none → zE2, append_nil → zE3, map_nil → zE4, getElem?_cons_succ → zE5, append_assoc → zE6, eq_nil_of_length_eq_zero → zE7
open Nat renaming le_refl → zA8, le_of_ble_eq_true → zB9, zero_le → zC2, add_zero → zC3, mul_one → zC5, lt_succ_self → zC7, zero_add → zC9, eq_of_beq_eq_true → zD1, lt_or_ge → zD2, le_trans → zD5, lt_of_lt_of_le → zD9, ble_eq → zE1
open Int renaming toNat_natCast → zD0

namespace Go.Proofs.YtnigelgcjfhghaaGreatDoor
open Go.Ax
set_option maxRecDepth 100000
structure OwnI (b:Nat) (X:AHeap) (v:Value) (ls:List Iv):Prop where
 vs:VsAt X 59 3 v (insC ls) ls.length
 av:∀ x∈ls,ArgA X x.2 x.1.args
 lo:∀ n∈idsV v,b≤n
 alo:∀ x∈ls,∀ n∈idsV x.2,b≤n∧n∉idsV v
 nd:(ls.flatMap fun x=>idsV x.2).Nodup
def badA (l:List UInt8):Option (Ins × Int):=(decA 0 l).find? fun r=>!decide (r.2=0)
def insA (l:List UInt8):List Ins:=(decA 0 l).map (·.1)
def DecOut (b:Nat) (l:List UInt8) (out:Out) (X:AHeap):Prop :=
 match badA l with
 |some r=>out=.ok (.tuple #[.slice none 0 0,fltV r.2 r.1.pos])
 |none=>∃ v ls,out=.ok (.tuple #[v,fltV 0 0])∧ls.map (·.1)=insA l∧OwnI b X v ls
theorem find_none:∀ {rs:List It},rs.all goI=true→(rs.map stI).find? (fun r=>!decide (r.2=0))=none
 |[],_=>rfl
 |r::rs,h=>by
  simp only[List.all_cons,zA4]at h
  have he:decide (r.2.2=0)=true:=h.1
  simp only[zB4,List.find?_cons,stI,he,Bool.not_true]
  exact find_none h.2
theorem decode_c (H:AHeap) (bsv:Value) (l:List UInt8) (hl:l.length≤60000) (hb:RdAt H 1 bsv (bv l) l.length) (hsc:scb H.next bsv=true) (hok:H.base≤H.next):CallA Tryz.prog 24 [bsv] H (fun out X=>DecOut H.next l out X∧Mod [] H X):=by
 obtain⟨b,hbn⟩:∃ b,H.next=b:=⟨_,rfl⟩
 have hbase:H.base≤b:=hbn▸hok
 obtain⟨ba,bc,eb⟩:=hb.sl
 have hd:decide ((60000:Int)<(l.length:Int))=false:=decide_eq_false (by omega)
 refine callE_fn mixed Tryz.func24 rfl Tryz.ntmps24 (zB9 rfl) ?_
 rw[eb]at hsc ⊢
 simp (maxDischargeDepth:=6) only[hbn,hbase,hd,ruW,putL,Nat.reduceLeDiff,xF,ruU,entryE,Nat.reduceLT,Nat.reduceAdd,Nat.reduceMul,Nat.reduceEqDiff]
 generalize hX:ext H _=X
 have mX:Mod [] H X:=hX▸Mod.ext hok
 have nX:X.next=b+3:=by rw[←hX,ext_next,hbn]; rfl
 have x0:bk X (b+0)=some ⟨42,false,[.slice none 0 0]⟩:=by rw[←hX,bk_at hbn (by simp)]; rfl
 have x1:bk X (b+1)=some ⟨26,false,[.int .i64 0,.int .i64 0]⟩:=by rw[←hX,bk_at hbn (by simp)]; rfl
 have x2:bk X (b+2)=some ⟨42,false,[.slice none 0 0]⟩:=by rw[←hX,bk_at hbn (by simp)]; rfl
 clear hX
 have okX:=mX.ok hok
 have hi:=instructions_c X ba l.length bc (by rw[nX,←hbn]; exact scb_mono (by omega) _ hsc) okX
 rw[nX]at hi
 rw[show X=ext X [] from rfl]
 refine CallS.to (show CallS Tryz.prog 49 _ (ext X []) _ _ from hi) ?_
 simp (maxDischargeDepth:=6) only[ruW,putL,Nat.reduceLeDiff,xF,ruU,entryE,Nat.reduceLT,Nat.reduceAdd,Nat.reduceMul,Nat.reduceEqDiff]
 refine w_env fun E hE=>?_
 have g2:E 2=.pointer (some ⟨b+0,0,none⟩):=by rw[hE]; simp only[ruU,entryE,Nat.reduceLT,Nat.reduceAdd,Nat.reduceMul,Nat.reduceEqDiff]
 have g3:E 3=.pointer (some ⟨b+1,0,none⟩):=by rw[hE]; simp only[ruU,entryE,Nat.reduceLT,Nat.reduceAdd,Nat.reduceMul,Nat.reduceEqDiff]
 have g4:E 4=.pointer (some ⟨b+2,0,none⟩):=by rw[hE]; simp only[ruU,entryE,Nat.reduceLT,Nat.reduceAdd,Nat.reduceMul,Nat.reduceEqDiff]
 have g12:E 12=.func (.func 82) ⟨[]⟩ ⟨[.pointer (some ⟨b+3,0,none⟩)]⟩:=by rw[hE]; simp only[ruU,entryE,Nat.reduceLT,Nat.reduceAdd,Nat.reduceMul,Nat.reduceEqDiff]
 clear hE hi
 generalize hY:ext X _=Y
 have mY:Mod [] X Y:=hY▸Mod.ext okX
 have nY:Y.next=b+4:=by rw[←hY,ext_next,nX]; rfl
 have q3:bk Y (b+3)=some ⟨23,false,[.slice ba l.length bc]⟩:=by
  have:=bk_at (H:=X) (L:=[⟨23,false,[.slice ba l.length bc]⟩]) (i:=0) nX (by simp)
  rw[←hY]
  exact this
 clear hY
 have okY:=mY.ok okX
 refine w_rangeK (f:=82) (ca:=[.pointer (some ⟨b+3,0,none⟩)]) okY (by decide) g12 (by kernel_rfl) fun K hlp hdf mK hbK=>?_
 replace mK:=mK []
 rw[nY]at hlp hdf hbK ⊢
 have mXK:=mY.trans mK
 have mHK:=mX.trans mXK
 have okK:=mHK.ok hok
 have hI:(yDec (l:=b+4+1) (p:=b) (d:=b+4) rfl g2 g3 g4).Inv [] [b+0,b+1,b+2,b+4+1] [b+0,b+1,b+2,b+4+1] K :=
  ⟨by omega,by omega,(mXK.bk (by omega) (by simp)).trans x0,fun r hr=>by simp at hr,.inl ⟨rfl,.slice none 0 0,rfl,rfl,hlp,(mXK.bk (by omega) (by simp)).trans x1,(mXK.bk (by omega) (by simp)).trans x2,VsAt.nil,fun n hn=>by simp[idsV]at hn⟩⟩
 have hbl:∀ n∈rdF (.slice ba l.length bc) l.length,n<b:=fun n hn=>hbn▸((eb▸hb).ne n hn).2
 refine (iter_c _ K (b+3) (.slice ba l.length bc) l _ _ hI okK (by omega) hl ((mK.bk (by omega) (by simp)).trans q3) (by simp) (by omega) ((eb▸hb).mod0 mHK) (fun n hn=>by have:=hbl n hn; simp; omega)).mono ?_
 rintro _ K1 ⟨rfl,rs,F,W,hI1,hrs,m1,hav,hnd⟩
 obtain⟨_,hll1,i0,hss,hI1⟩:=hI1
 have hdK1:K1.get (b+4)=K.get (b+4):=m1.get (b+4) (by omega) (by simp)
 have okK1:=m1.ok okK
 have nK1:=m1.next
 rcases hI1 with⟨hall,v,rfl,rfl,hl1,i1,i2,hv,hvi⟩|⟨r,rs0,rfl,hall,hr,rfl,rfl,hl1,i1⟩
 ·have hbad:badA l=none:=by rw[badA,←hrs]; exact find_none hall
  obtain⟨vv,ev⟩:=hv.len
  have hsv:=hv.sc
  refine⟨_,_,_,hl1.get,by simp[lpDec],rfl,?_⟩
  generalize hK2:setLoop K1 (b+4+1) _ _=K2
  have nK2:K2.next=K1.next:=hK2▸rfl
  have j0:bk K2 (b+0)=_:=(hK2▸bk_setLoop (by omega):bk K2 (b+0)=bk K1 (b+0)).trans i0
  have j1:bk K2 (b+1)=_:=(hK2▸bk_setLoop (by omega):bk K2 (b+1)=bk K1 (b+1)).trans i1
  have j2:bk K2 (b+2)=_:=(hK2▸bk_setLoop (by omega):bk K2 (b+2)=bk K1 (b+2)).trans i2
  have hdK2:K2.get (b+4)=K1.get (b+4):=hK2▸setLoop_get (by omega)
  have mK2:Mod [b+4+1] K1 K2:=hK2▸Mod.upd (by simp)
  have l0:b+0<K1.next:=by omega
  have l1:b+1<K1.next:=by omega
  have l2:b+2<K1.next:=by omega
  have b2:K2.base≤K1.next:=by have:=mK2.ok okK1; rw[nK2]at this; exact this
  have d10:¬b+1=b+0:=by omega
  rw[show K2=ext K2 [] from rfl]
  rw[ev]at j2 hsv
  simp (maxDischargeDepth:=6) only[g2,g3,g4,nK2,j0,j1,j2,l0,l1,l2,b2,d10,hsv,uw_next,bk_uw_ne,ne_eq,not_false_eq_true,ruW,putL,Nat.reduceLeDiff,xF,ruU,entryE,Nat.reduceLT,Nat.reduceAdd,Nat.reduceMul,Nat.reduceEqDiff]
  rw[←ev]
  generalize hK3:uw K2 (b+0) 0 _=K3
  have mK3:Mod [b+0,b+1] K2 K3:=hK3▸Mod.uw (by simp)
  have nK3:K3.next=K1.next:=by rw[←hK3,uw_next,nK2]
  have k0:bk K3 (b+0)=some ⟨42,false,[v]⟩:=by rw[←hK3,bk_uw_eq,j0]; rfl
  have k1:bk K3 (b+1)=some ⟨26,false,[.int .i64 0,.int .i64 0]⟩:=by rw[←hK3,bk_uw_ne (by omega),j1]
  generalize hK4:uw K3 (b+1) 0 _=K4
  have mK4:Mod [b+0,b+1] K3 K4:=hK4▸Mod.uw (by simp)
  have nK4:K4.next=K1.next:=by rw[←hK4,uw_next,nK3]
  have p0:bk K4 (b+0)=some ⟨42,false,[v]⟩:=by rw[←hK4,bk_uw_ne (by omega),k0]
  have p1:bk K4 (b+1)=some ⟨26,false,[.int .i64 0,.int .i64 0]⟩:=by rw[←hK4,bk_uw_eq,k1]; rfl
  have hdK4:K4.get (b+4)=K2.get (b+4):=((hK4▸uw_get (by omega)):K4.get (b+4)=K3.get (b+4)).trans (hK3▸uw_get (by omega))
  refine lv_mark ⟨_,_,hdK4.trans (hdK2.trans (hdK1.trans hdf))⟩ ?_
  rw[ext_nil]
  generalize hK5:K4.upd (b+4) _=K5
  have mK5:Mod [b+4] K4 K5:=hK5▸Mod.upd (by simp)
  have nK5:K5.next=K1.next:=(hK5▸rfl:K5.next=K4.next).trans nK4
  have r0:bk K5 (b+0)=_:=(bk_get (by rw[←hK5,AHeap.get_upd,if_neg (by omega)])).trans p0
  have r1:bk K5 (b+1)=_:=(bk_get (by rw[←hK5,AHeap.get_upd,if_neg (by omega)])).trans p1
  have mE:Mod [b+0,b+1,b+4,b+4+1] K1 K5:=(((mK2.mono (by simp)).trans (mK3.mono (by simp))).trans (mK4.mono (by simp))).trans (mK5.mono (by simp))
  rw[show K5=ext K5 [] from rfl]
  simp (maxDischargeDepth:=6) only[Tryz.results24,g2,g3,nK5,l0,l1,r0,r1,ruW,putL,Nat.reduceLeDiff,xF,ruU,entryE,Nat.reduceLT,Nat.reduceAdd,Nat.reduceMul,Nat.reduceEqDiff]
  have hmm:Mod [] H K5:=(mHK.step m1 hok (fun n hn=>by simp only[zA7,zD6,or_false]at hn; right; omega)).step mE hok (fun n hn=>by simp only[zA7,zD6,or_false]at hn; right; omega)
  refine⟨?_,hmm⟩
  simp only[DecOut,hbad]
  have hbd:bk K1 (b+4)=none:=by
   unfold bk cellsAt
   rw[hdK1.trans hdf]
   rfl
  have hvd:∀ n∈idsV v,n≠b+4:=fun n hn e=>by
   obtain⟨_,_,⟨_,rfl⟩|⟨_,n',rfl,hb',_⟩⟩:=hv
   ·simp[idsV]at hn
   ·simp only[idsV,zB0]at hn
    rw[←hn,e,hbd]at hb'
    cases hb'
  have hvk:∀ n∈idsV v,K5.get n=K1.get n:=fun n hn=>mE.get n (hv.ne n hn).2 (fun h=>by
   have h1:=hvi n hn
   have h2:=hvd n hn
   simp only[zA7,zD6,or_false]at h
   omega)
  refine⟨v,rs.map ivOf,rfl,?_,⟨?_,fun z hz=>?_,fun n hn=>by have:=hvi n hn; omega,fun z hz n hn=>?_,?_⟩⟩
  ·rw[insA,←hrs,List.map_map,List.map_map]
   rfl
  ·rw[zD3]
   exact hv.of mE.next hvk
  ·obtain⟨w,hw,rfl⟩:=zD4.1 hz
   exact (hav w hw).1.of mE.next fun n hn=>mE.get n ((hav w hw).1.ne n hn).2 (fun h=>by
    have:=((hav w hw).2 n hn).1
    simp only[zA7,zD6,or_false]at h
    omega)
  ·obtain⟨w,hw,rfl⟩:=zD4.1 hz
   obtain⟨a1,a2⟩:=(hav w hw).2 n hn
   exact⟨by omega,fun h=>a2 (by simp[h])⟩
  ·rw[List.flatMap_map]
   exact hnd
 ·have hbad:badA l=some (r.1,r.2.2):=by
   rw[badA,←hrs,List.map_append,List.find?_append]
   rw[find_none hall,Option.none_or]
   have he:decide (r.2.2=0)=false:=hr
   simp only[zB4,zE4,List.find?_cons,stI,he,Bool.not_false]
  refine⟨_,_,_,hl1.get,by simp[lpDec],rfl,?_⟩
  generalize hK2:setLoop K1 (b+4+1) _ _=K2
  have nK2:K2.next=K1.next:=hK2▸rfl
  have j0:bk K2 (b+0)=_:=(hK2▸bk_setLoop (by omega):bk K2 (b+0)=bk K1 (b+0)).trans i0
  have j1:bk K2 (b+1)=_:=(hK2▸bk_setLoop (by omega):bk K2 (b+1)=bk K1 (b+1)).trans i1
  have hdK2:K2.get (b+4)=K1.get (b+4):=hK2▸setLoop_get (by omega)
  have mK2:Mod [b+4+1] K1 K2:=hK2▸Mod.upd (by simp)
  rw[show K2=ext K2 [] from rfl]
  simp (maxDischargeDepth:=6) only[ruW,putL,Nat.reduceLeDiff,xF,ruU,entryE,Nat.reduceLT,Nat.reduceAdd,Nat.reduceMul,Nat.reduceEqDiff]
  refine lv_mark ⟨_,_,hdK2.trans (hdK1.trans hdf)⟩ ?_
  rw[ext_nil]
  generalize hK5:K2.upd (b+4) _=K5
  have mK5:Mod [b+4] K2 K5:=hK5▸Mod.upd (by simp)
  have nK5:K5.next=K1.next:=(hK5▸rfl:K5.next=K2.next).trans nK2
  have e0:bk K5 (b+0)=_:=(bk_get (by rw[←hK5,AHeap.get_upd,if_neg (by omega)])).trans j0
  have e1:bk K5 (b+1)=_:=(bk_get (by rw[←hK5,AHeap.get_upd,if_neg (by omega)])).trans j1
  have l0:b+0<K1.next:=by omega
  have l1:b+1<K1.next:=by omega
  rw[show K5=ext K5 [] from rfl]
  simp (maxDischargeDepth:=6) only[Tryz.results24,g2,g3,nK5,l0,l1,e0,e1,ruW,putL,Nat.reduceLeDiff,xF,ruU,entryE,Nat.reduceLT,Nat.reduceAdd,Nat.reduceMul,Nat.reduceEqDiff]
  refine⟨by simp only[DecOut,hbad],?_⟩
  refine ((mHK.step m1 hok (fun n hn=>?_)).step mK2 hok (fun n hn=>?_)).step mK5 hok (fun n hn=>?_)<;>(simp only[zA7,zD6,or_false]at hn; right; omega)
def nameR (op:Nat):List UInt8:=match opsL[op]? with
 |some (n,_)=>n.data.toList
 |none=>[]
def textI (x:Ins):List UInt8:=nameR x.op.toNat++(x.args.flatMap fun n=>32::Go.Lib.itoa n)++[10]
def textL (ls:List Ins):List UInt8:=ls.flatMap textI
def splitR (c:UInt8):List UInt8→List (List UInt8)
 |[]=>[[]]
 |x::r=>if x=c then []::splitR c r else match splitR c r with
  |h::t=>(x::h)::t
  |[]=>[[x]]
theorem split_ne (c:UInt8):∀ s,splitR c s≠[]
 |[]=>by simp[splitR]
 |x::r=>by
  rw[splitR]
  split
  ·simp
  ·split<;>simp
theorem split_none {c:UInt8}:∀ {s:List UInt8},Go.Lib.indexByte s c=-1→splitR c s=[s]
 |[],_=>rfl
 |x::r,h=>by
  unfold Go.Lib.indexByte at h
  by_cases hc:x=c
  ·subst hc; simp at h
  ·have hc':(x == c)=false:=by simpa using hc
   rw[hc']at h
   simp only[zB5,if_false]at h
   have hg:=Go.Lib.indexByte_ge r c
   have h2:Go.Lib.indexByte r c=-1:=by
    split at h
    ·rename_i h3; simpa using h3
    ·omega
   rw[splitR,if_neg hc,split_none h2]
theorem split_some {c:UInt8}:∀ {s:List UInt8} {i:Nat},Go.Lib.indexByte s c=(i:Int)→i<s.length∧splitR c s=s.take i::splitR c (s.drop (i+1))
 |[],i,h=>by simp[Go.Lib.indexByte]at h
 |x::r,i,h=>by
  unfold Go.Lib.indexByte at h
  by_cases hc:x=c
  ·subst hc
   have:i=0:=by simp at h; omega
   subst this
   refine⟨by simp,?_⟩
   rw[splitR,if_pos rfl]
   rfl
  ·have hc':(x == c)=false:=by simpa using hc
   rw[hc']at h
   simp only[zB5,if_false]at h
   split at h
   ·omega
   ·rename_i h3
    have h3:Go.Lib.indexByte r c≠-1:=by simpa using h3
    have hge:=Go.Lib.indexByte_ge r c
    obtain⟨k,rfl⟩:∃ k,i=k+1:=⟨i-1,by omega⟩
    obtain⟨h4,h5⟩:=split_some (c:=c) (s:=r) (i:=k) (by omega)
    refine⟨by simp only[zA5]; omega,?_⟩
    rw[splitR,if_neg hc,h5]
    rfl
theorem split_free {c:UInt8}:∀ {l:List UInt8},(∀ x∈l,x≠c)→splitR c l=[l]
 |[],_=>rfl
 |x::r,h=>by rw[splitR,if_neg (h x (zB6 ..)),split_free fun y hy=>h y (zB3 _ hy)]
theorem split_at {c:UInt8} {t:List UInt8}:∀ {l:List UInt8},(∀ x∈l,x≠c)→splitR c (l++c::t)=l::splitR c t
 |[],_=>by rw[zC8,splitR,if_pos rfl]
 |x::r,h=>by rw[zE0,splitR,if_neg (h x (zB6 ..)),split_at fun y hy=>h y (zB3 _ hy)]
theorem split_join {c:UInt8}:∀ {s h:List UInt8} {t:List (List UInt8)},splitR c s=h::t→s=h++t.flatMap fun w=>c::w
 |[],h,t,e=>by
  simp only[splitR,List.cons.injEq]at e
  obtain⟨rfl,rfl⟩:=e
  rfl
 |x::r,h,t,e=>by
  rw[splitR]at e
  by_cases hc:x=c
  ·rw[if_pos hc]at e
   simp only[List.cons.injEq]at e
   obtain⟨rfl,rfl⟩:=e
   obtain⟨h',t',e'⟩:=List.exists_cons_of_ne_nil (split_ne c r)
   have:=split_join e'
   rw[e',zC4,zC8,zE0,←this,hc]
  ·rw[if_neg hc]at e
   obtain⟨h',t',e'⟩:=List.exists_cons_of_ne_nil (split_ne c r)
   rw[e']at e
   simp only[List.cons.injEq]at e
   obtain⟨rfl,rfl⟩:=e
   rw[zE0,←split_join e']
def digR (c:UInt8):Bool:=decide (48≤c.toNat)&&decide (c.toNat≤57)
def valR (w:List UInt8):Nat:=w.foldl (fun n c=>10*n+(c.toNat-48)) 0
def shapeR (w:List UInt8):Bool:=decide (1≤w.length)&&decide (w.length≤5)&&!(decide (w.getD 0 0=48)&&decide (1<w.length))
def numR (w:List UInt8):Int × Int:=if shapeR w=true then (if w.all digR=true then (if valR w≤65535 then ((valR w:Int),0) else (0,3)) else (0,5)) else (0,5)
def opK (w:List UInt8):Nat→Int
 |0=>-1
 |k+1=>if nameR k=w then (k:Int) else opK w k
def argsR:List (List UInt8)→List Int→List Int × Int
 |[],a=>(a,0)
 |w::r,a=>if (numR w).2=0 then argsR r (a++[(numR w).1]) else (a,(numR w).2)
def lineR (s:List UInt8):Ins × Int :=
 if opK ((splitR 32 s).headD []) 28<0 then (⟨0,-1,[]⟩,5) else
 if (argsR (splitR 32 s).tail []).2≠0 then (⟨0,opK ((splitR 32 s).headD []) 28,(argsR (splitR 32 s).tail []).1⟩,(argsR (splitR 32 s).tail []).2) else
 if (argsR (splitR 32 s).tail []).1.length<(kindsR (opK ((splitR 32 s).headD []) 28).toNat []).length∨(argsR (splitR 32 s).tail []).1.length≠(kindsR (opK ((splitR 32 s).headD []) 28).toNat (argsR (splitR 32 s).tail []).1).length then (⟨0,opK ((splitR 32 s).headD []) 28,(argsR (splitR 32 s).tail []).1⟩,5) else
 (⟨0,opK ((splitR 32 s).headD []) 28,(argsR (splitR 32 s).tail []).1⟩,0)
abbrev ownR (l:List UInt8):List UInt8:=Go.Lib.trimSuffix l [10]
def goP (l:List UInt8):Bool:=!decide (l=[])&&Go.Lib.hasSuffix l [10]&&decide ((lineR (ownR l)).2=0)
def parseR:List (List UInt8)→Nat→List UInt8→List UInt8 × Int × Nat
 |[],k,out=>(out,0,k)
 |l::r,k,out =>
  if l=[] then (out,0,k) else
  if Go.Lib.hasSuffix l [10]=false then ([],5,k) else
  if (lineR (ownR l)).2≠0 then ([],(lineR (ownR l)).2,k) else parseR r (k+1) (out++encB (lineR (ownR l)).1)
def parsedR (s:List UInt8):List UInt8 × Int × Nat :=
 if (parseR (linesR s) 0 []).2.1≠0 then parseR (linesR s) 0 [] else
 if 60000<(parseR (linesR s) 0 []).1.length then ([],4,(parseR (linesR s) 0 []).2.2) else ((parseR (linesR s) 0 []).1,0,0)
abbrev aB (n:Int):List UInt8:=[n.toNat.toUInt8,(n.toNat / 256).toUInt8]
theorem aB_val {n:Int} (h0:0≤n) (h1:n≤65535):((n.toNat.toUInt8.toNat+256*(n.toNat / 256).toUInt8.toNat:Nat):Int)=n:=by
 have e1:n.toNat.toUInt8.toNat=n.toNat % 256:=UInt8.toNat_ofNat' ..
 have e2:(n.toNat / 256).toUInt8.toNat=n.toNat / 256 % 256:=UInt8.toNat_ofNat' ..
 rw[e1,e2]
 omega
theorem aB_of (a b:UInt8):aB ((a.toNat+256*b.toNat:Nat):Int)=[a,b]:=by
 have ha:=a.toNat_lt
 have hb:=b.toNat_lt
 have e1:((a.toNat+256*b.toNat:Nat):Int).toNat.toUInt8=a:=UInt8.toNat_inj.1 (by
  rw[show ((a.toNat+256*b.toNat:Nat):Int).toNat.toUInt8.toNat=((a.toNat+256*b.toNat:Nat):Int).toNat % 256 from UInt8.toNat_ofNat' ..]
  omega)
 have e2:(((a.toNat+256*b.toNat:Nat):Int).toNat / 256).toUInt8=b:=UInt8.toNat_inj.1 (by
  rw[show (((a.toNat+256*b.toNat:Nat):Int).toNat / 256).toUInt8.toNat=((a.toNat+256*b.toNat:Nat):Int).toNat / 256 % 256 from UInt8.toNat_ofNat' ..]
  omega)
 rw[aB,e1,e2]
theorem encB_eq (x:Ins):encB x=x.op.toNat.toUInt8::x.args.flatMap aB:=rfl
theorem kinds_three {op:Nat} (h:op<28):(∃ k:List UInt8,k.length≤1∧∀ args,kindsR op args=k)∨(op=17∧∀ args,kindsR op args=guardR args)∨(op=24∧∀ args,kindsR op args=envR args):=by
 match op,h with
 |0,_=>exact .inl ⟨_,by decide,fun _=>rfl⟩
 |1,_=>exact .inl ⟨_,by decide,fun _=>rfl⟩
 |2,_=>exact .inl ⟨_,by decide,fun _=>rfl⟩
 |3,_=>exact .inl ⟨_,by decide,fun _=>rfl⟩
 |4,_=>exact .inl ⟨_,by decide,fun _=>rfl⟩
 |5,_=>exact .inl ⟨_,by decide,fun _=>rfl⟩
 |6,_=>exact .inl ⟨_,by decide,fun _=>rfl⟩
 |7,_=>exact .inl ⟨_,by decide,fun _=>rfl⟩
 |8,_=>exact .inl ⟨_,by decide,fun _=>rfl⟩
 |9,_=>exact .inl ⟨_,by decide,fun _=>rfl⟩
 |10,_=>exact .inl ⟨_,by decide,fun _=>rfl⟩
 |11,_=>exact .inl ⟨_,by decide,fun _=>rfl⟩
 |12,_=>exact .inl ⟨_,by decide,fun _=>rfl⟩
 |13,_=>exact .inl ⟨_,by decide,fun _=>rfl⟩
 |14,_=>exact .inl ⟨_,by decide,fun _=>rfl⟩
 |15,_=>exact .inl ⟨_,by decide,fun _=>rfl⟩
 |16,_=>exact .inl ⟨_,by decide,fun _=>rfl⟩
 |17,_=>exact .inr (.inl ⟨rfl,fun _=>rfl⟩)
 |18,_=>exact .inl ⟨_,by decide,fun _=>rfl⟩
 |19,_=>exact .inl ⟨_,by decide,fun _=>rfl⟩
 |20,_=>exact .inl ⟨_,by decide,fun _=>rfl⟩
 |21,_=>exact .inl ⟨_,by decide,fun _=>rfl⟩
 |22,_=>exact .inl ⟨_,by decide,fun _=>rfl⟩
 |23,_=>exact .inl ⟨_,by decide,fun _=>rfl⟩
 |24,_=>exact .inr (.inr ⟨rfl,fun _=>rfl⟩)
 |25,_=>exact .inl ⟨_,by decide,fun _=>rfl⟩
 |26,_=>exact .inl ⟨_,by decide,fun _=>rfl⟩
 |27,_=>exact .inl ⟨_,by decide,fun _=>rfl⟩
 |n+28,h=>omega
theorem guard_len0:(guardR []).length=1:=rfl
theorem guard_len {args:List Int} (h:args≠[]):(guardR args).length=1+2*(args.getD 0 0).toNat:=by
 rw[guardR,if_neg h,zB2,rep_len]
 simp only[zA5,zB8]
 omega
theorem env_len0 {args:List Int} (h:args.length<2):(envR args).length=2:=by rw[envR,if_pos h]; rfl
theorem env_len {args:List Int} (h:2≤args.length):(envR args).length=2+(args.getD 1 0).toNat:=by
 rw[envR,if_neg (by omega),zB2,rep_len]
 simp only[zA5,zB8]
 omega
theorem take_getD {args:List Int} {k i:Nat} (h:i<k):(args.take k).getD i 0=args.getD i 0:=by
 rw[zC6,zC6,List.getElem?_take,if_pos h]
theorem kinds_pre {op:Nat} {args:List Int} {k:Nat} (hop:op<28) (h:args.length=(kindsR op args).length) (hk:k<args.length):k<(kindsR op (args.take k)).length:=by
 rcases kinds_three hop with⟨q,_,e⟩|⟨_,e⟩|⟨_,e⟩
 ·rw[e]at h ⊢; omega
 ·rw[e]at h ⊢
  cases k with
  |zero=>rw[List.take_zero,guard_len0]; omega
  |succ k =>
   have h1:args≠[]:=fun e=>by rw[e]at hk; simp at hk
   have h2:args.take (k+1)≠[]:=fun e=>by have:=congrArg List.length e; rw[List.length_take]at this; simp only[zB8]at this; omega
   rw[guard_len h1]at h
   rw[guard_len h2,take_getD (by omega)]
   omega
 ·rw[e]at h ⊢
  by_cases h1:args.length<2
  ·rw[env_len0 h1]at h; omega
  ·rw[env_len (by omega)]at h
   by_cases h2:k<2
   ·rw[env_len0 (by rw[List.length_take]; omega)]; omega
   ·rw[env_len (by rw[List.length_take]; omega),take_getD (by omega)]
    omega
theorem kinds_post {op:Nat} {args:List Int} (hop:op<28) (h1:¬args.length<(kindsR op args).length) (h2:∀ k,k<args.length→k<(kindsR op (args.take k)).length):args.length=(kindsR op args).length:=by
 by_cases h0:args.length=0
 ·omega
 have h3:=h2 (args.length-1) (by omega)
 rcases kinds_three hop with⟨q,_,e⟩|⟨_,e⟩|⟨_,e⟩
 ·rw[e]at h1 h3 ⊢; omega
 ·rw[e]at h1 h3 ⊢
  have hn:args≠[]:=fun e=>by rw[e]at h0; simp at h0
  rw[guard_len hn]at h1 ⊢
  by_cases h4:args.length=1
  ·omega
  ·have hn2:args.take (args.length-1)≠[]:=fun e=>by have:=congrArg List.length e; rw[List.length_take]at this; simp only[zB8]at this; omega
   rw[guard_len hn2,take_getD (by omega)]at h3
   omega
 ·rw[e]at h1 h3 ⊢
  by_cases h4:args.length<2
  ·rw[env_len0 h4]at h1; omega
  ·rw[env_len (by omega)]at h1 ⊢
   by_cases h5:args.length=2
   ·omega
   ·rw[env_len (by rw[List.length_take]; omega),take_getD (by omega)]at h3
    omega
theorem kinds_least {op:Nat} {args:List Int} (hop:op<28) (h:args.length=(kindsR op args).length):(kindsR op []).length≤args.length:=by
 by_cases h0:args.length=0
 ·have:args=[]:=zE7 h0
  rw[this]at h
  rw[←h]
  simp
 have:=kinds_pre hop h (k:=0) (by omega)
 rcases kinds_three hop with⟨q,_,e⟩|⟨_,e⟩|⟨_,e⟩
 ·rw[e]at h ⊢; omega
 ·rw[e]at h ⊢; rw[guard_len0]; omega
 ·rw[e]at h ⊢
  rw[env_len0 (by simp)]
  by_cases h4:args.length<2
  ·rw[env_len0 h4]at h; omega
  ·omega
theorem getD_small {args:List Int} (h:∀ y∈args,0≤y∧y≤65535) (i:Nat):0≤args.getD i 0∧args.getD i 0≤65535:=by
 rw[zC6]
 cases hi:args[i]? with
 |none=>simp
 |some y=>simpa using h y (List.mem_of_getElem? hi)
theorem opnd_ok {y:Int} (h:0≤y∧y≤65535):opndR y=true:=by
 simp only[opndR,zA4,decide_eq_true_eq]
 exact h
theorem encA_iff {op:Nat} {args:List Int} (hop:op<28) (h:args.length=(kindsR op args).length) (hs:∀ y∈args,0≤y∧y≤65535):encA (op:Int) args=0:=by
 have h1:=kinds_least hop h
 have h2:=opnd_ok (getD_small hs 0)
 have h3:=opnd_ok (getD_small hs 1)
 unfold encA
 rw[if_neg (by omega),zD0,if_neg (by omega),if_neg (by rw[h2,h3]; simp),if_neg (by omega),if_pos (zB7.2 fun y hy=>opnd_ok (hs y hy))]
theorem rdA_back {op:Nat} {args:List Int} {rest:List UInt8} (hop:op<28) (h:args.length=(kindsR op args).length) (hs:∀ y∈args,0≤y∧y≤65535):∀ (j k:Nat),k+j=args.length→rdA op (args.take k) ((args.drop k).flatMap aB++rest)=(args,some rest)
 |0,k,hk=>by
  rw[zD8 (by omega),List.drop_eq_nil_of_le (by omega)]
  exact rdA_done (by omega)
 |j+1,k,hk=>by
  have hkl:k<args.length:=by omega
  have h1:=kinds_pre hop h hkl
  obtain⟨h2,h3⟩:=hs args[k] (List.getElem_mem hkl)
  rw[List.drop_eq_getElem_cons hkl,zC4,zE6]
  show rdA op _ (_::_::_)=_
  rw[rdA_more (by rw[List.length_take]; omega),aB_val h2 h3,show args.take k++[args[k]]=args.take (k+1) by rw[List.take_add_one,zB1 hkl]; rfl]
  exact rdA_back hop h hs j (k+1) (by omega)
theorem op_byte {n:Int} (h0:0≤n) (h1:n<28):n.toNat.toUInt8.toNat=n.toNat:=by
 rw[show n.toNat.toUInt8.toNat=n.toNat % 256 from UInt8.toNat_ofNat' ..]
 omega
theorem decA_back {x:Ins} {rest:List UInt8} {p:Nat} (h:encA x.op x.args=0):decA p (encB x++rest)=(⟨p,x.op,x.args⟩,0)::decA (p+1+2*x.args.length) rest:=by
 obtain⟨h0,h1,h2,h3⟩:=encA_ok h
 have e:=op_byte h0 h1
 have:=rdA_back (rest:=rest) (show x.op.toNat<28 by omega) h2 h3 x.args.length 0 (by omega)
 rw[List.take_zero,List.drop_zero]at this
 rw[encB_eq,zE0,decA_ok (by rw[e]; omega) (by rw[e]; exact this),e,Int.toNat_of_nonneg h0]
def placeL:Nat→List Ins→List Ins
 |_,[]=>[]
 |p,x::r=>⟨p,x.op,x.args⟩::placeL (p+1+2*x.args.length) r
theorem decA_all:∀ {xs:List Ins} {p:Nat},(∀ x∈xs,encA x.op x.args=0)→decA p (encL xs)=(placeL p xs).map fun x=>(x,0)
 |[],p,_=>decA_nil p
 |x::r,p,h=>by
  rw[encL,zC4,decA_back (h x (zB6 ..))]
  show _::decA _ (encL r)=_
  rw[decA_all fun y hy=>h y (zB3 _ hy)]
  rfl
theorem place_text:∀ (xs:List Ins) (p:Nat),textL (placeL p xs)=textL xs
 |[],_=>rfl
 |x::r,p=>by
  simp only[placeL,textL,zC4]at *
  have:=place_text r (p+1+2*x.args.length)
  simp only[textL]at this
  rw[this]
  rfl
theorem bad_back {xs:List Ins} (h:∀ x∈xs,encA x.op x.args=0):badA (encL xs)=none∧insA (encL xs)=placeL 0 xs:=by
 rw[badA,insA,decA_all h]
 refine⟨?_,?_⟩
 ·rw[List.find?_eq_none]
  intro y hy
  obtain⟨z,_,rfl⟩:=zD4.1 hy
  simp
 ·rw[List.map_map]
  exact List.map_id' _
theorem rdA_was {op:Nat}:∀ (n:Nat) {a0 args:List Int} {rest r:List UInt8},rest.length≤n→rdA op a0 rest=(args,some r) →
  ∃ new,args=a0++new∧rest=new.flatMap aB++r∧¬args.length<(kindsR op args).length∧∀ k,a0.length≤k→k<args.length→k<(kindsR op (args.take k)).length:=by
 intro n
 induction n with
 |zero =>
  intro a0 args rest r hn h
  by_cases hk:a0.length<(kindsR op a0).length
  ·rw[rdA_end hk (by omega)]at h; cases h
  ·rw[rdA_done hk]at h
   cases h
   exact⟨[],by simp,by simp,hk,fun k h1 h2=>absurd h1 (by omega)⟩
 |succ n ih =>
  intro a0 args rest r hn h
  by_cases hk:a0.length<(kindsR op a0).length
  ·match rest,hn with
   |[],_=>rw[rdA_end hk (by simp)]at h; cases h
   |[_],_=>rw[rdA_end hk (by simp)]at h; cases h
   |a::b::q,hn =>
    rw[rdA_more hk]at h
    obtain⟨new,h1,h2,h3,h4⟩:=ih (by simp only[zA5]at hn; omega) h
    refine⟨((a.toNat+256*b.toNat:Nat):Int)::new,by rw[h1]; simp,?_,h3,fun k h5 h6=>?_⟩
    ·rw[zC4,aB_of,h2]
     simp
    ·by_cases h7:k=a0.length
     ·rw[h7,h1,zE6,List.take_left]
      exact hk
     ·exact h4 k (by rw[zB2,zC0]; omega) h6
  ·rw[rdA_done hk]at h
   cases h
   exact⟨[],by simp,by simp,hk,fun k h1 h2=>absurd h1 (by omega)⟩
theorem find_cons_none {α:Type} {p:α→Bool} {x:α} {l:List α} (h:(x::l).find? p=none):p x=false∧l.find? p=none:=by
 rw[List.find?_cons]at h
 cases hp:p x with
 |true=>rw[hp]at h; cases h
 |false=>rw[hp]at h; exact⟨rfl,h⟩
theorem enc_was:∀ (n:Nat) {l:List UInt8} {p:Nat},l.length≤n→(decA p l).find? (fun r=>!decide (r.2=0))=none→encL ((decA p l).map (·.1))=l∧∀ x∈(decA p l).map (·.1),encA x.op x.args=0:=by
 intro n
 induction n with
 |zero =>
  intro l p hn _
  have:l=[]:=zE7 (by omega)
  rw[this,decA_nil]
  exact⟨rfl,fun x hx=>by simp at hx⟩
 |succ n ih =>
  intro l p hn h
  match l,hn with
  |[],_=>rw[decA_nil]; exact⟨rfl,fun x hx=>by simp at hx⟩
  |op::rest,hn =>
   by_cases ho:28≤op.toNat
   ·rw[decA_bad ho]at h
    have:=(find_cons_none h).1
    simp at this
   cases hr:rdA op.toNat [] rest with
   |mk args q =>
    cases q with
    |none =>
     rw[decA_end ho hr]at h
     have:=(find_cons_none h).1
     simp at this
    |some r =>
     obtain⟨new,h1,h2,h3,h4⟩:=rdA_was rest.length (zA8 _) hr
     rw[zC8]at h1
     subst h1
     have hsm:=rdA_small op.toNat rest.length [] rest (zA8 _) (fun x hx=>by simp at hx)
     rw[hr]at hsm
     rw[decA_ok ho hr]at h ⊢
     have hlen:r.length≤n:=by
      have:=congrArg List.length h2
      rw[zB2]at this
      simp only[zA5]at hn
      omega
     obtain⟨h5,h6⟩:=ih hlen (find_cons_none h).2
     have he:encA (op.toNat:Int) args=0:=encA_iff (by omega) (kinds_post (by omega) h3 fun k hk=>h4 k (by simp) hk) hsm
     refine⟨?_,fun x hx=>?_⟩
     ·rw[zB4,encL,zC4]
      show encB _++encL _=_
      rw[h5,encB_eq]
      simp only[zD0]
      rw[zE0,←h2]
      congr 1
      exact UInt8.toNat_inj.1 (by rw[show op.toNat.toUInt8.toNat=op.toNat % 256 from UInt8.toNat_ofNat' ..]; have:=op.toNat_lt; omega)
     ·rw[zB4,zA7]at hx
      rcases hx with rfl|hx
      ·exact he
      ·exact h6 x hx
theorem enc_of_dec {l:List UInt8} (h:badA l=none):encL (insA l)=l∧∀ x∈insA l,encA x.op x.args=0:=enc_was l.length (zA8 _) h
theorem u8_dig {d:Nat} (h:d<10):(UInt8.ofNat (48+d)).toNat=48+d:=by
 rw[show (UInt8.ofNat (48+d)).toNat=(48+d) % 256 from UInt8.toNat_ofNat' ..]
 omega
theorem dec_cons {u:Nat} (h:¬u<10):Go.Lib.decDigits u=Go.Lib.decDigits (u / 10)++[UInt8.ofNat (48+u % 10)]:=by rw[Go.Lib.decDigits,dif_neg h]
theorem dig_iff {c:UInt8}:digR c=true ↔ 48≤c.toNat∧c.toNat≤57:=by simp[digR]
theorem dec_dig (u:Nat):∀ c∈Go.Lib.decDigits u,digR c=true:=by
 induction u using Nat.strongRecOn with
 |_ u ih =>
  intro c hc
  by_cases h:u<10
  ·rw[Go.Lib.decDigits_one h,zB0]at hc
   rw[hc,dig_iff,u8_dig h]
   omega
  ·rw[dec_cons h,zC1,zB0]at hc
   rcases hc with hc|hc
   ·exact ih (u / 10) (by omega) c hc
   ·rw[hc,dig_iff,u8_dig (by omega)]
    omega
theorem val_snoc (a:List UInt8) (c:UInt8):valR (a++[c])=10*valR a+(c.toNat-48):=by simp[valR,List.foldl_append]
theorem val_one (c:UInt8):valR [c]=c.toNat-48:=by simp[valR]
theorem dec_val (u:Nat):valR (Go.Lib.decDigits u)=u:=by
 induction u using Nat.strongRecOn with
 |_ u ih =>
  by_cases h:u<10
  ·rw[Go.Lib.decDigits_one h,val_one,u8_dig h]
   omega
  ·rw[dec_cons h,val_snoc,ih (u / 10) (by omega),u8_dig (by omega)]
   omega
theorem dec_len:∀ (k u:Nat),u<10 ^ (k+1)→(Go.Lib.decDigits u).length≤k+1
 |0,u,h=>by rw[Go.Lib.decDigits_one (by simpa using h)]; simp
 |k+1,u,h=>by
  by_cases h0:u<10
  ·rw[Go.Lib.decDigits_one h0]; simp
  ·rw[Nat.pow_succ]at h
   have:=dec_len k (u / 10) (by omega)
   rw[dec_cons h0,zB2,zC0]
   omega
theorem dec_pos (u:Nat):1≤(Go.Lib.decDigits u).length:=by
 by_cases h:u<10
 ·rw[Go.Lib.decDigits_one h]; simp
 ·rw[dec_cons h]; simp
theorem dec_head (u:Nat) (hu:1≤u):(Go.Lib.decDigits u).getD 0 0≠48:=by
 induction u using Nat.strongRecOn with
 |_ u ih =>
  by_cases h:u<10
  ·rw[Go.Lib.decDigits_one h]
   intro e
   have:=congrArg UInt8.toNat e
   rw[show ([UInt8.ofNat (48+u)]:List UInt8).getD 0 0=UInt8.ofNat (48+u) from rfl,u8_dig h]at this
   have:48+u=48:=this
   omega
  ·have:=ih (u / 10) (by omega) (by omega)
   rw[dec_cons h,zC6,List.getElem?_append_left (by have:=dec_pos (u / 10); omega),←zC6]
   exact this
theorem num_itoa {n:Int} (h0:0≤n) (h1:n≤65535):numR (Go.Lib.itoa n)=(n,0):=by
 obtain⟨u,rfl⟩:∃ u:Nat,n=u:=⟨n.toNat,by omega⟩
 rw[Go.Lib.itoa_nonneg]
 have h2:=dec_len 4 u (by omega)
 have h3:=dec_pos u
 have h4:shapeR (Go.Lib.decDigits u)=true:=by
  simp only[shapeR,zA4,decide_eq_true_eq,Bool.not_eq_true',Bool.and_eq_false_iff,decide_eq_false_iff_not]
  refine⟨⟨h3,h2⟩,?_⟩
  by_cases hu:u<10
  ·right; rw[Go.Lib.decDigits_one hu]; simp
  ·left; exact dec_head u (by omega)
 rw[numR,if_pos h4,if_pos (zB7.2 (dec_dig u)),dec_val,if_pos (by omega)]
theorem snoc_of {α:Type}:∀ {l:List α},l≠[]→∃ a c,l=a++[c]
 |[],h=>absurd rfl h
 |[x],_=>⟨[],x,rfl⟩
 |x::y::r,_=>by
  obtain⟨a,c,e⟩:=snoc_of (l:=y::r) (by simp)
  exact⟨x::a,c,by rw[e]; rfl⟩
theorem dec_back:∀ (n:Nat) {w:List UInt8},w.length≤n→w≠[]→(∀ c∈w,digR c=true)→(w.getD 0 0≠48∨w.length=1)→Go.Lib.decDigits (valR w)=w∧(w.getD 0 0≠48→1≤valR w)
 |0,w,h,hne,_,_=>absurd (zE7 (by omega)) hne
 |n+1,w,h,hne,hd,hh=>by
  obtain⟨a,c,rfl⟩:=snoc_of hne
  have hc:=dig_iff.1 (hd c (by simp))
  have e1:UInt8.ofNat (48+(c.toNat-48))=c:=UInt8.toNat_inj.1 (by rw[u8_dig (by omega)]; omega)
  by_cases ha:a=[]
  ·subst ha
   rw[zC8,val_one,Go.Lib.decDigits_one (by omega),e1]
   refine⟨rfl,fun hz=>?_⟩
   have:c≠48:=hz
   have:c.toNat≠48:=fun e=>this (UInt8.toNat_inj.1 e)
   omega
  ·have hal:0<a.length:=List.length_pos_iff.2 ha
   have hg:(a++[c]).getD 0 0=a.getD 0 0:=by rw[zC6,List.getElem?_append_left hal,←zC6]
   have hz:a.getD 0 0≠48:=by
    rcases hh with hh|hh
    ·rw[←hg]; exact hh
    ·rw[zB2,zC0]at hh; omega
   obtain⟨i1,i2⟩:=dec_back n (w:=a) (by rw[zB2,zC0]at h; omega) ha (fun x hx=>hd x (by simp[hx])) (.inl hz)
   have i3:=i2 hz
   rw[val_snoc,dec_cons (by omega),show (10*valR a+(c.toNat-48)) / 10=valR a by omega,show (10*valR a+(c.toNat-48)) % 10=c.toNat-48 by omega,i1,e1]
   exact⟨rfl,fun _=>by omega⟩
theorem num_back {w:List UInt8} (h:(numR w).2=0):Go.Lib.itoa (numR w).1=w∧0≤(numR w).1∧(numR w).1≤65535:=by
 unfold numR at h ⊢
 by_cases h1:shapeR w=true
 ·rw[if_pos h1]at h ⊢
  by_cases h2:w.all digR=true
  ·rw[if_pos h2]at h ⊢
   by_cases h3:valR w≤65535
   ·rw[if_pos h3]
    simp only[shapeR,zA4,decide_eq_true_eq,Bool.not_eq_true',Bool.and_eq_false_iff,decide_eq_false_iff_not]at h1
    obtain⟨⟨k1,k2⟩,k3⟩:=h1
    have:=dec_back w.length (zA8 _) (fun e=>by rw[e]at k1; simp at k1) (zB7.1 h2) (k3.imp id fun h=>by omega)
    rw[Go.Lib.itoa_nonneg]
    exact⟨this.1,by simp only; omega,by simp only; omega⟩
   ·rw[if_neg h3]at h; cases h
  ·rw[if_neg h2]at h; cases h
 ·rw[if_neg h1]at h; cases h
theorem names_free:((List.range 28).all fun i=>decide (nameR i≠[])&&(decide ((nameR i).length≤9)&&(nameR i).all fun c=>decide (c≠32)&&decide (c≠10)))=true:=by decide +kernel
theorem names_diff:((List.range 28).all fun i=>(List.range 28).all fun j=>decide (nameR i=nameR j→i=j))=true:=by decide +kernel
theorem name_free {i:Nat} (h:i<28):nameR i≠[]∧(nameR i).length≤9∧∀ c∈nameR i,c≠32∧c≠10:=by
 have:=zB7.1 names_free i (List.mem_range.2 h)
 simp only[zA4,decide_eq_true_eq,zB7]at this
 exact this
theorem name_inj {i j:Nat} (hi:i<28) (hj:j<28) (h:nameR i=nameR j):i=j:=by
 have:=zB7.1 (zB7.1 names_diff i (List.mem_range.2 hi)) j (List.mem_range.2 hj)
 exact of_decide_eq_true this h
theorem opK_name {i:Nat}:∀ {k:Nat},i<k→k≤28→opK (nameR i) k=i
 |0,h,_=>absurd h (by omega)
 |k+1,h,hk=>by
  rw[opK]
  by_cases e:nameR k=nameR i
  ·rw[if_pos e,name_inj (by omega) (by omega) e]
  ·rw[if_neg e]
   have:k≠i:=fun h=>e (by rw[h])
   exact opK_name (by omega) (by omega)
theorem opK_back {w:List UInt8}:∀ {k:Nat},0≤opK w k→∃ i:Nat,opK w k=(i:Int)∧i<k∧nameR i=w
 |0,h=>by rw[opK]at h; omega
 |k+1,h=>by
  rw[opK]at h ⊢
  by_cases e:nameR k=w
  ·rw[if_pos e]
   exact⟨k,rfl,by omega,e⟩
  ·rw[if_neg e]at h ⊢
   obtain⟨i,h1,h2,h3⟩:=opK_back h
   exact⟨i,h1,by omega,h3⟩
theorem opK_ge (w:List UInt8):∀ k:Nat,-1≤opK w k
 |0=>by rw[opK]; omega
 |k+1=>by
  rw[opK]
  split
  ·omega
  ·exact opK_ge w k
theorem itoa_free {n:Int} (h:0≤n):∀ c∈Go.Lib.itoa n,c≠32∧c≠10:=by
 obtain⟨u,rfl⟩:∃ u:Nat,n=u:=⟨n.toNat,by omega⟩
 rw[Go.Lib.itoa_nonneg]
 intro c hc
 have:=dig_iff.1 (dec_dig u c hc)
 refine⟨fun e=>?_,fun e=>?_⟩
 ·rw[e]at this; have h1:(32:UInt8).toNat=32:=rfl; omega
 ·rw[e]at this; have h1:(10:UInt8).toNat=10:=rfl; omega
theorem split_words {ns:List Int}:∀ {w:List UInt8},(∀ c∈w,c≠32)→(∀ n∈ns,0≤n)→splitR 32 (w++ns.flatMap fun n=>32::Go.Lib.itoa n)=w::ns.map Go.Lib.itoa:=by
 induction ns with
 |nil=>intro w h _; rw[List.flatMap_nil,zE3,split_free h]; rfl
 |cons n r ih =>
  intro w h hn
  rw[zC4,zE0,split_at h,ih (fun c hc=>(itoa_free (hn n (zB6 ..)) c hc).1) fun m hm=>hn m (zB3 _ hm)]
  rfl
theorem args_itoa:∀ {ns a:List Int},(∀ n∈ns,0≤n∧n≤65535)→argsR (ns.map Go.Lib.itoa) a=(a++ns,0)
 |[],a,_=>by simp[argsR]
 |n::r,a,h=>by
  obtain⟨h0,h1⟩:=h n (zB6 ..)
  rw[zB4,argsR,num_itoa h0 h1,if_pos rfl,args_itoa fun m hm=>h m (zB3 _ hm)]
  simp
theorem args_back:∀ {ws:List (List UInt8)} {a:List Int},(argsR ws a).2=0→∃ ns,(argsR ws a).1=a++ns∧ws=ns.map Go.Lib.itoa∧∀ n∈ns,0≤n∧n≤65535
 |[],a,_=>⟨[],by simp[argsR],rfl,fun n hn=>by simp at hn⟩
 |w::r,a,h=>by
  rw[argsR]at h ⊢
  by_cases e:(numR w).2=0
  ·rw[if_pos e]at h ⊢
   obtain⟨ns,h1,h2,h3⟩:=args_back h
   obtain⟨k1,k2⟩:=num_back e
   refine⟨(numR w).1::ns,by rw[h1]; simp,by rw[zB4,k1,←h2],fun n hn=>?_⟩
   rcases zA7.1 hn with rfl|hn
   ·exact k2
   ·exact h3 n hn
  ·rw[if_neg e]at h
   exact absurd h e
def bodyI (x:Ins):List UInt8:=nameR x.op.toNat++x.args.flatMap fun n=>32::Go.Lib.itoa n
theorem text_body (x:Ins):textI x=bodyI x++[10]:=rfl
theorem body_free {x:Ins} (h:encA x.op x.args=0):∀ c∈bodyI x,c≠10:=by
 obtain⟨h0,h1,_,h3⟩:=encA_ok h
 intro c hc
 rcases zC1.1 hc with hc|hc
 ·exact ((name_free (show x.op.toNat<28 by omega)).2.2 c hc).2
 ·obtain⟨n,hn,hc⟩:=List.mem_flatMap.1 hc
  rcases zA7.1 hc with rfl|hc
  ·decide
  ·exact (itoa_free (h3 n hn).1 c hc).2
theorem suffix_snoc (b:List UInt8):Go.Lib.hasSuffix (b++[10]) [10]=true:=by
 unfold Go.Lib.hasSuffix
 rw[List.isSuffixOf_iff_suffix]
 exact⟨b,rfl⟩
theorem own_snoc (b:List UInt8):ownR (b++[10])=b:=by
 unfold ownR Go.Lib.trimSuffix
 rw[suffix_snoc,if_pos rfl]
 simp
theorem suffix_back {l:List UInt8} (h:Go.Lib.hasSuffix l [10]=true):∃ b,l=b++[10]:=by
 unfold Go.Lib.hasSuffix at h
 rw[List.isSuffixOf_iff_suffix]at h
 obtain⟨b,e⟩:=h
 exact⟨b,e.symm⟩
theorem line_text {x:Ins} (h:encA x.op x.args=0):lineR (bodyI x)=(⟨0,x.op,x.args⟩,0):=by
 obtain⟨h0,h1,h2,h3⟩:=encA_ok h
 have e1:splitR 32 (bodyI x)=nameR x.op.toNat::x.args.map Go.Lib.itoa:=split_words (fun c hc=>((name_free (show x.op.toNat<28 by omega)).2.2 c hc).1) fun n hn=>(h3 n hn).1
 have e2:opK (nameR x.op.toNat) 28=x.op:=by rw[opK_name (by omega) (zA8 _)]; omega
 have e3:argsR (x.args.map Go.Lib.itoa) []=(x.args,0):=by rw[args_itoa h3]; simp
 have e4:=kinds_least (show x.op.toNat<28 by omega) h2
 simp only[lineR,e1,List.headD_cons,List.tail_cons,e2,e3]
 rw[if_neg (by omega),if_neg (by simp),if_neg (by omega)]
theorem line_back {b:List UInt8} (h:(lineR b).2=0):encA (lineR b).1.op (lineR b).1.args=0∧bodyI (lineR b).1=b:=by
 obtain⟨w,ws,e⟩:=List.exists_cons_of_ne_nil (split_ne 32 b)
 have hj:=split_join e
 simp only[lineR,e,List.headD_cons,List.tail_cons]at h ⊢
 by_cases h1:opK w 28<0
 ·rw[if_pos h1]at h; cases h
 rw[if_neg h1]at h ⊢
 by_cases h2:(argsR ws []).2≠0
 ·rw[if_pos h2]at h; exact absurd h h2
 rw[if_neg h2]at h ⊢
 obtain⟨i,o1,o2,o3⟩:=opK_back (show 0≤opK w 28 by omega)
 obtain⟨ns,a1,a2,a3⟩:=args_back (show (argsR ws []).2=0 from Decidable.of_not_not h2)
 rw[zC8]at a1
 rw[a1,o1,zD0]at h ⊢
 split at h
 ·cases h
 rename_i h3
 rw[if_neg h3]
 refine⟨encA_iff (args:=ns) o2 (by omega) a3,?_⟩
 rw[hj,a2]
 simp only[bodyI,zD0,o3,List.flatMap_map]
theorem lines_at {r:List UInt8}:∀ {l:List UInt8},(∀ c∈l,c≠10)→linesR (l++10::r)=(l++[10])::linesR r
 |[],_=>by rw[zC8,linesR,if_pos rfl]; rfl
 |c::l,h=>by
  rw[zE0,linesR,if_neg (h c (zB6 ..)),lines_at fun y hy=>h y (zB3 _ hy)]
  rfl
theorem lines_text:∀ {xs:List Ins},(∀ x∈xs,encA x.op x.args=0)→linesR (textL xs)=xs.map textI++[[]]
 |[],_=>rfl
 |x::r,h=>by
  rw[textL,zC4,text_body,zE6]
  show linesR (bodyI x++10::textL r)=_
  rw[lines_at (body_free (h x (zB6 ..))),lines_text fun y hy=>h y (zB3 _ hy)]
  rfl
theorem parse_text:∀ {xs:List Ins} {k:Nat} {out:List UInt8},(∀ x∈xs,encA x.op x.args=0)→∃ k',parseR (xs.map textI++[[]]) k out=(out++encL xs,0,k')
 |[],k,out,_=>⟨k,by simp[parseR,encL]⟩
 |x::r,k,out,h=>by
  have hx:=h x (zB6 ..)
  obtain⟨k',e⟩:=parse_text (xs:=r) (k:=k+1) (out:=out++encB x) fun y hy=>h y (zB3 _ hy)
  refine⟨k',?_⟩
  rw[zB4,zE0,parseR,text_body,own_snoc,line_text hx,suffix_snoc,if_neg (by simp),if_neg (by simp),if_neg (by simp)]
  show parseR _ _ (out++encB x)=_
  rw[e,zE6]
  rfl
theorem parsed_text {xs:List Ins} (h:∀ x∈xs,encA x.op x.args=0) (hl:(encL xs).length≤60000):parsedR (textL xs)=(encL xs,0,0):=by
 obtain⟨k,e⟩:=parse_text (k:=0) (out:=[]) h
 rw[zC8]at e
 rw[parsedR,lines_text h,e,if_neg (by simp),if_neg (by simp only; omega)]
theorem lines_flat:∀ s:List UInt8,(linesR s).flatten=s
 |[]=>rfl
 |c::r=>by
  have:=lines_flat r
  rw[linesR]
  split
  ·rw[List.flatten_cons,this]; rfl
  ·split
   ·rename_i h t e
    rw[e]at this
    rw[←this]; simp
   ·rename_i e
    rw[e]at this
    rw[←this]; simp
theorem lines_last:∀ s:List UInt8,∃ a z,linesR s=a++[z]∧∀ x∈a,x≠[]
 |[]=>⟨[],[],rfl,fun x hx=>by simp at hx⟩
 |c::r=>by
  obtain⟨a,z,e,h⟩:=lines_last r
  rw[linesR]
  split
  ·refine⟨[c]::a,z,by rw[e]; rfl,fun x hx=>?_⟩
   rcases zA7.1 hx with rfl|hx
   ·simp
   ·exact h x hx
  ·rw[e]
   cases a with
   |nil=>exact⟨[],c::z,rfl,fun x hx=>by simp at hx⟩
   |cons y q =>
    refine⟨(c::y)::q,z,rfl,fun x hx=>?_⟩
    rcases zA7.1 hx with rfl|hx
    ·simp
    ·exact h x (zB3 _ hx)
theorem parse_back:∀ {ls:List (List UInt8)} {k:Nat} {out:List UInt8},(parseR ls k out).2.1=0→∃ xs rest,(parseR ls k out).1=out++encL xs∧(∀ x∈xs,encA x.op x.args=0)∧ls=xs.map textI++rest∧(rest=[]∨∃ t,rest=[]::t)
 |[],k,out,_=>⟨[],[],by simp[parseR,encL],fun x hx=>by simp at hx,rfl,.inl rfl⟩
 |l::r,k,out,h=>by
  rw[parseR]at h ⊢
  by_cases h1:l=[]
  ·rw[if_pos h1]
   exact⟨[],l::r,by simp[encL],fun x hx=>by simp at hx,rfl,.inr ⟨r,by rw[h1]⟩⟩
  rw[if_neg h1]at h ⊢
  by_cases h2:Go.Lib.hasSuffix l [10]=false
  ·rw[if_pos h2]at h; cases h
  rw[if_neg h2]at h ⊢
  by_cases h3:(lineR (ownR l)).2≠0
  ·rw[if_pos h3]at h; exact absurd h h3
  rw[if_neg h3]at h ⊢
  obtain⟨xs,rest,e1,e2,e3,e4⟩:=parse_back h
  obtain⟨b,rfl⟩:=suffix_back (show Go.Lib.hasSuffix l [10]=true by cases hh:Go.Lib.hasSuffix l [10]<;>simp_all)
  rw[own_snoc]at h3 e1 ⊢
  obtain⟨k1,k2⟩:=line_back (show (lineR b).2=0 from Decidable.of_not_not h3)
  refine⟨(lineR b).1::xs,rest,?_,fun x hx=>?_,?_,e4⟩
  ·rw[e1,zE6]; rfl
  ·rcases zA7.1 hx with rfl|hx
   ·exact k1
   ·exact e2 x hx
  ·rw[zB4,text_body,k2,e3]; rfl
theorem parsed_back {s:List UInt8} (h:(parsedR s).2.1=0):badA (parsedR s).1=none∧textL (insA (parsedR s).1)=s∧(parsedR s).1.length≤60000:=by
 unfold parsedR at h ⊢
 by_cases h1:(parseR (linesR s) 0 []).2.1≠0
 ·rw[if_pos h1]at h; exact absurd h h1
 rw[if_neg h1]at h ⊢
 by_cases h2:60000<(parseR (linesR s) 0 []).1.length
 ·rw[if_pos h2]at h; cases h
 rw[if_neg h2]
 obtain⟨xs,rest,e1,e2,e3,e4⟩:=parse_back (show (parseR (linesR s) 0 []).2.1=0 from Decidable.of_not_not h1)
 rw[zC8]at e1
 rw[e1]at h2 ⊢
 obtain⟨b1,b2⟩:=bad_back e2
 refine⟨b1,?_,by omega⟩
 rw[b2,place_text]
 have hf:=lines_flat s
 rw[e3,List.flatten_append]at hf
 have ht:(xs.map textI).flatten=textL xs:=by rw[textL,List.flatMap_def]
 rw[ht]at hf
 rcases e4 with rfl|⟨t,rfl⟩
 ·simpa using hf
 ·have:t=[]:=by
   apply Classical.byContradiction
   intro hne
   obtain⟨t',z,rfl⟩:=snoc_of hne
   obtain⟨a,z',e5,e6⟩:=lines_last s
   rw[e3,←zE0,←zE6]at e5
   obtain⟨e7,_⟩:=List.append_inj' e5 rfl
   exact e6 [] (by rw[←e7]; simp) rfl
  subst this
  simpa using hf
theorem itoa_len {n:Int} (h:0≤n∧n≤65535):(Go.Lib.itoa n).length≤5:=by
 obtain⟨u,rfl⟩:∃ u:Nat,n=u:=⟨n.toNat,by omega⟩
 rw[Go.Lib.itoa_nonneg]
 exact dec_len 4 u (by omega)
theorem text_len1 {x:Ins} (h:encA x.op x.args=0):(textI x).length≤10*(encB x).length:=by
 obtain⟨h0,h1,_,h3⟩:=encA_ok h
 have hn:=(name_free (show x.op.toNat<28 by omega)).2.1
 have:∀ l:List Int,(∀ n∈l,0≤n∧n≤65535)→(l.flatMap fun n=>32::Go.Lib.itoa n).length≤10*(l.flatMap aB).length:=by
  intro l
  induction l with
  |nil=>intro _; simp
  |cons n r ih =>
   intro hl
   have:=ih fun m hm=>hl m (zB3 _ hm)
   have:=itoa_len (hl n (zB6 ..))
   simp only[zC4,zB2,zA5,zB8]
   omega
 have:=this x.args h3
 rw[encB_eq,textI]
 simp only[zB2,zA5,zB8]
 omega
theorem text_len:∀ {xs:List Ins},(∀ x∈xs,encA x.op x.args=0)→(textL xs).length≤10*(encL xs).length
 |[],_=>by simp[textL]
 |x::r,h=>by
  have h1:=text_len1 (h x (zB6 ..))
  have h2:=text_len fun y hy=>h y (zB3 _ hy)
  unfold textL encL at h2 ⊢
  simp only[zC4,zB2]
  omega
set_option maxRecDepth 100000
theorem ix_bs {l:List UInt8} {i:Nat} (h:i<l.length):aIndex Tryz.prog 9 (.string (bs l)) (.int .i64 (i:Int))=some (.int .u8 ((l.getD i 0).toNat:Int)):=by
 have:(bs l).data.toList[i]?=some (l.getD i 0):=by
  rw[zC6]
  show l[i]?=_
  rw[zB1 h]
  rfl
 exact ix_str u9 rfl this
theorem take_snoc {l:List UInt8} {j:Nat} (h:j<l.length):l.take (j+1)=l.take j++[l.getD j 0]:=by
 rw[List.take_add_one,zC6,zB1 h]
 rfl
theorem pow_small {j:Nat} (h:j≤5):10 ^ j≤100000:=Nat.pow_le_pow_right (by decide) h
theorem number_c (H:AHeap) (w:List UInt8):Pure 68 [.string (bs w)] H (.tuple #[.int .i64 (numR w).1,.int .i64 (numR w).2]):=by
 refine callS_fn mixed Tryz.func68 rfl Tryz.ntmps68 (zB9 rfl) fun wf hsc=>?_
 by_cases h1:w.length<1
 ·have e:numR w=(0,5):=by rw[numR,if_neg (by simp[shapeR]; omega)]
  have hd:decide ((w.length:Int)<1)=true:=decide_eq_true (by omega)
  rw[e]
  simp (maxDischargeDepth:=6) only[bt_lenStr u9,bs_size,hd,Tryz.results68,ruW,putL,Nat.reduceLeDiff,xF,ruU,entryE,Nat.reduceLT,Nat.reduceAdd,Nat.reduceMul,Nat.reduceEqDiff]
  exact Fin.pureE rfl rfl
 have hd1:decide ((w.length:Int)<1)=false:=decide_eq_false (by omega)
 by_cases h2:5<w.length
 ·have e:numR w=(0,5):=by rw[numR,if_neg (by simp[shapeR]; omega)]
  have hd:decide ((5:Int)<(w.length:Int))=true:=decide_eq_true (by omega)
  rw[e]
  simp (maxDischargeDepth:=6) only[bt_lenStr u9,bs_size,hd1,hd,Tryz.results68,ruW,putL,Nat.reduceLeDiff,xF,ruU,entryE,Nat.reduceLT,Nat.reduceAdd,Nat.reduceMul,Nat.reduceEqDiff]
  exact Fin.pureE rfl rfl
 have hd2:decide ((5:Int)<(w.length:Int))=false:=decide_eq_false (by omega)
 have i0:aIndex Tryz.prog 9 (.string (bs w)) (.int .i64 0)=some (.int .u8 ((w.getD 0 0).toNat:Int)):=ix_bs (i:=0) (by omega)
 obtain⟨z,hz⟩:∃ z,decide (((w.getD 0 0).toNat:Int)=48)=z:=⟨_,rfl⟩
 have hz':decide (w.getD 0 0=48)=z:=by
  rw[←hz]
  by_cases h:w.getD 0 0=48
  ·rw[h]; rfl
  ·rw[decide_eq_false h,decide_eq_false (fun e=>h (UInt8.toNat_inj.1 (by have h48:(48:UInt8).toNat=48:=rfl; omega)))]
 obtain⟨y,hy⟩:∃ y,decide ((1:Int)<(w.length:Int))=y:=⟨_,rfl⟩
 have hy':decide (1<w.length)=y:=by
  rw[←hy]
  by_cases h:1<w.length
  ·rw[decide_eq_true h,decide_eq_true (by omega)]
  ·rw[decide_eq_false h,decide_eq_false (by omega)]
 have hsh:shapeR w=!(z&&y):=by
  rw[shapeR,hz',hy',decide_eq_true (show 1≤w.length by omega),decide_eq_true (show w.length≤5 by omega)]
  rfl
 have key:shapeR w=true→numR w=(if w.all digR=true then (if valR w≤65535 then ((valR w:Int),0) else (0,3)) else (0,5)):=fun h=>by rw[numR,if_pos h]
 have hcase:(z=true∧y=true)∨(z=true∧y=false)∨z=false:=by cases z<;>cases y<;>simp
 rcases hcase with⟨rfl,rfl⟩|⟨rfl,rfl⟩|rfl
 ·have e:numR w=(0,5):=by rw[numR,if_neg (by rw[hsh]; simp)]
  rw[e]
  simp (maxDischargeDepth:=6) only[bt_lenStr u9,bs_size,hd1,hd2,i0,hz,hy,Tryz.results68,ruW,putL,Nat.reduceLeDiff,xF,ruU,entryE,Nat.reduceLT,Nat.reduceAdd,Nat.reduceMul,Nat.reduceEqDiff]
  exact Fin.pureE rfl rfl
 all_goals
  replace key:=key (by rw[hsh]; rfl)
  simp (maxDischargeDepth:=6) only[bt_lenStr u9,bs_size,hd1,hd2,i0,hz,hy,Tryz.results68,ruW,putL,Nat.reduceLeDiff,xF,ruU,entryE,Nat.reduceLT,Nat.reduceAdd,Nat.reduceMul,Nat.reduceEqDiff]
  refine w_env fun E hE=>?_
  have g0:E 0=.string (bs w):=by rw[hE]; simp only[ruU,entryE,Nat.reduceLT,Nat.reduceAdd,Nat.reduceMul,Nat.reduceEqDiff]
  have g4:E 4=.int .i64 ((0:Nat):Int):=by rw[hE]; (simp only[ruU,entryE,Nat.reduceLT,Nat.reduceAdd,Nat.reduceMul,Nat.reduceEqDiff]<;>rfl)
  have g25:E 25=.int .i64 (w.length:Int):=by rw[hE]; simp only[ruU,entryE,Nat.reduceLT,Nat.reduceAdd,Nat.reduceMul,Nat.reduceEqDiff]
  have g26:E 26=.int .i64 ((0:Nat):Int):=by rw[hE]; (simp only[ruU,entryE,Nat.reduceLT,Nat.reduceAdd,Nat.reduceMul,Nat.reduceEqDiff]<;>rfl)
  clear hE
  refine w_loop (fun (j:Nat) E' H'=>H'=ext H []∧j≤w.length∧(∀ c∈w.take j,digR c=true)∧valR (w.take j)<10 ^ j∧E' 0=.string (bs w)∧E' 4=.int .i64 (valR (w.take j):Int)∧E' 25=.int .i64 (w.length:Int)∧E' 26=.int .i64 (j:Int)) (fun j=>w.length-j) 0
   ⟨rfl,zC2 _,by simp,by simp[valR],g0,by rw[g4]; rfl,g25,g26⟩ ?_
  clear g0 g4 g25 g26 E
  rintro j E H' ⟨hH,hj,hdg,hv,g0,g4,g25,g26⟩
  rw[hH]
  by_cases hje:j=w.length
  ·have hdj:decide ((j:Int)<(w.length:Int))=false:=decide_eq_false (by omega)
   rw[zD8 (by omega)]at g4 hdg hv
   rw[if_pos (zB7.2 hdg)]at key
   simp (maxDischargeDepth:=6) only[g0,g4,g25,g26,hdj,ruW,putL,Nat.reduceLeDiff,xF,ruU,entryE,Nat.reduceLT,Nat.reduceAdd,Nat.reduceMul,Nat.reduceEqDiff]
   refine (operand_c (ext H []) (valR w:Int)).to ?_
   obtain⟨o,ho⟩:∃ o,opndR (valR w:Int)=o:=⟨_,rfl⟩
   have ho':=ho
   simp only[opndR]at ho'
   rw[decide_eq_true (show (0:Int)≤(valR w:Int) by omega),Bool.true_and]at ho'
   cases o with
   |true =>
    rw[if_pos (by have:=of_decide_eq_true ho'; omega)]at key
    rw[key]
    simp (maxDischargeDepth:=6) only[g0,g4,ho,Tryz.results68,ruW,putL,Nat.reduceLeDiff,xF,ruU,entryE,Nat.reduceLT,Nat.reduceAdd,Nat.reduceMul,Nat.reduceEqDiff]
    exact Fin.pureE rfl rfl
   |false =>
    rw[if_neg (by have:=of_decide_eq_false ho'; omega)]at key
    rw[key]
    simp (maxDischargeDepth:=6) only[g0,g4,ho,Tryz.results68,ruW,putL,Nat.reduceLeDiff,xF,ruU,entryE,Nat.reduceLT,Nat.reduceAdd,Nat.reduceMul,Nat.reduceEqDiff]
    exact Fin.pureE rfl rfl
  ·have hjl:j<w.length:=by omega
   have hdj:decide ((j:Int)<(w.length:Int))=true:=decide_eq_true (by omega)
   have ij:=ix_bs hjl
   have hp:=pow_small (show j≤5 by omega)
   obtain⟨c,hc⟩:∃ c,w.getD j 0=c:=⟨_,rfl⟩
   rw[hc]at ij
   have hcl:=c.toNat_lt
   have hcm:c∈w:=by
    rw[←hc,zC6,zB1 hjl]
    exact List.getElem_mem hjl
   obtain⟨p,hpd⟩:∃ p,decide ((c.toNat:Int)<48)=p:=⟨_,rfl⟩
   obtain⟨q,hqd⟩:∃ q,decide ((57:Int)<(c.toNat:Int))=q:=⟨_,rfl⟩
   have hw:IntKind.i64.wrap ((j:Int)+1)=((j+1:Nat):Int):=wrap_succ (by omega)
   have hbad:¬(48≤c.toNat∧c.toNat≤57)→numR w=(0,5):=fun h=>by
    rw[key,if_neg]
    intro h2
    exact h (dig_iff.1 (zB7.1 h2 c hcm))
   cases p with
   |true =>
    rw[hbad (by have:=of_decide_eq_true hpd; omega)]
    simp (maxDischargeDepth:=6) only[g0,g4,g25,g26,hdj,ij,hpd,Tryz.results68,ruW,putL,Nat.reduceLeDiff,xF,ruU,entryE,Nat.reduceLT,Nat.reduceAdd,Nat.reduceMul,Nat.reduceEqDiff]
    exact Fin.pureE rfl rfl
   |false =>
    cases q with
    |true =>
     rw[hbad (by have:=of_decide_eq_true hqd; omega)]
     simp (maxDischargeDepth:=6) only[g0,g4,g25,g26,hdj,ij,hpd,hqd,Tryz.results68,ruW,putL,Nat.reduceLeDiff,xF,ruU,entryE,Nat.reduceLT,Nat.reduceAdd,Nat.reduceMul,Nat.reduceEqDiff]
     exact Fin.pureE rfl rfl
    |false =>
     have a1:=of_decide_eq_false hpd
     have a2:=of_decide_eq_false hqd
     have hm:IntKind.i64.wrap (10*(valR (w.take j):Int))=((10*valR (w.take j):Nat):Int):=by rw[show (10*(valR (w.take j):Int))=((10*valR (w.take j):Nat):Int) by omega]; exact wrap_nat (by omega)
     have hs8:IntKind.u8.wrap ((c.toNat:Int)-48)=((c.toNat-48:Nat):Int):=by
      simp only[IntKind.wrap,IntKind.signed,IntKind.bits]
      simp
      omega
     have hcv:∀ G:AHeap,aConvert Tryz.prog G 5 3 (.int .u8 ((c.toNat-48:Nat):Int))=some (.int .i64 ((c.toNat-48:Nat):Int),G):=fun G=>by
      rw[cv_int (u:=.int .u8) (k:=.i64) (by kernel_rfl) (by kernel_rfl),wrap_nat (by omega)]
     have ha:IntKind.i64.wrap (((10*valR (w.take j):Nat):Int)+((c.toNat-48:Nat):Int))=((10*valR (w.take j)+(c.toNat-48):Nat):Int):=by rw[←Int.natCast_add]; exact wrap_nat (by omega)
     have hts:=take_snoc hjl
     rw[hc]at hts
     simp (maxDischargeDepth:=6) only[g0,g4,g25,g26,hdj,ij,hpd,hqd,hm,hs8,hcv,ha,hw,w_convert,ruW,putL,Nat.reduceLeDiff,xF,ruU,entryE,Nat.reduceLT,Nat.reduceAdd,Nat.reduceMul,Nat.reduceEqDiff]
     refine loopC_next ⟨j+1,by omega,rfl,by omega,fun x hx=>?_,?_,?_,?_,?_,?_⟩
     ·rw[hts,zC1,zB0]at hx
      rcases hx with hx|rfl
      ·exact hdg x hx
      ·exact dig_iff.2 ⟨by omega,by omega⟩
     ·rw[hts,val_snoc,Nat.pow_succ]
      omega
     ·simp only[g0,ruU,entryE,Nat.reduceLT,Nat.reduceAdd,Nat.reduceMul,Nat.reduceEqDiff]
     ·rw[hts,val_snoc]; simp only[ruU,entryE,Nat.reduceLT,Nat.reduceAdd,Nat.reduceMul,Nat.reduceEqDiff]
     ·simp only[g25,ruU,entryE,Nat.reduceLT,Nat.reduceAdd,Nat.reduceMul,Nat.reduceEqDiff]
     ·simp only[ruU,entryE,Nat.reduceLT,Nat.reduceAdd,Nat.reduceMul,Nat.reduceEqDiff]
set_option maxRecDepth 100000
def nmV:List Value:=(List.range 28).map fun i=>.string (bs (nameR i))
theorem nm_len:nmV.length=28:=rfl
theorem nm_get {i:Nat} (h:i<28):nmV[i]?=some (.string (bs (nameR i))):=by
 rw[nmV,List.getElem?_map,List.getElem?_range h]
 rfl
theorem sh_name {s i:Nat} (h:i<28):(shV s)[2*i]?=some (.string (bs (nameR i))):=by
 match i,h with
 |0,_=>rfl
 |1,_=>rfl
 |2,_=>rfl
 |3,_=>rfl
 |4,_=>rfl
 |5,_=>rfl
 |6,_=>rfl
 |7,_=>rfl
 |8,_=>rfl
 |9,_=>rfl
 |10,_=>rfl
 |11,_=>rfl
 |12,_=>rfl
 |13,_=>rfl
 |14,_=>rfl
 |15,_=>rfl
 |16,_=>rfl
 |17,_=>rfl
 |18,_=>rfl
 |19,_=>rfl
 |20,_=>rfl
 |21,_=>rfl
 |22,_=>rfl
 |23,_=>rfl
 |24,_=>rfl
 |25,_=>rfl
 |26,_=>rfl
 |27,_=>rfl
 |n+28,h=>omega
theorem sh_sc {s N:Nat} (h:s+27≤N):scbL N (shV s)=true:=by
 have:∀ j,1≤j→j<27→scb N (fxV (s+j))=true:=fun j h1 h2=>by
  have:decide (s+j<N)=true:=decide_eq_true (by omega)
  have:Nat.blt (s+j) N=true:=blt_of (by omega)
  simp[scb,scbA,scbL,this]
 rw[scbL_iff]
 intro v hv
 simp only[shV,zA7,zD6,or_false]at hv
 rcases hv with rfl|rfl|rfl|rfl|rfl|rfl|rfl|rfl|rfl|rfl|rfl|rfl|rfl|rfl|rfl|rfl|rfl|rfl|rfl|rfl|rfl|rfl|rfl|rfl|rfl|rfl|rfl|rfl|rfl|rfl|rfl|rfl|rfl|rfl|rfl|rfl|rfl|rfl|rfl|rfl|rfl|rfl|rfl|rfl|rfl|rfl|rfl|rfl|rfl|rfl|rfl|rfl|rfl|rfl|rfl|rfl
 all_goals first|rfl|exact this _ (by decide) (by decide)
theorem sh_kv {s N i:Nat} {kv:Value} (h:s+27≤N) (hk:(shV s)[2*i+1]?=some kv):scb N kv=true:=by
 have:=sh_sc h
 rw[scbL_iff]at this
 exact this kv (List.mem_of_getElem? hk)
theorem u54:Tryz.prog.underlying 54=some (.slice 9):=by kernel_rfl
theorem s9:szOf Tryz.prog 9=some 1:=by kernel_rfl
theorem nm_sc {N k:Nat}:scbL N (nmV.take k)=true:=by
 rw[scbL_iff]
 intro v hv
 obtain⟨i,_,rfl⟩:=zD4.1 (List.mem_of_mem_take hv)
 rfl
theorem str_app {X:AHeap} {v:Value} {vs:List Value} {cnt x:Nat} (h:VsAt X 9 1 v vs cnt) (hx:X.next=x) (hb:X.base≤X.next) (hlen:cnt≤1000000) (hs:scbL X.next vs=true) (w:ByteArray) :
  ∃ G,aBuiltin Tryz.prog (ext X [⟨9,false,[.string w]⟩]) .append ⟨[54,54]⟩ [v,.slice (some ⟨x+0,0,some 0⟩) 1 1]=some (.slice (some ⟨x+1,0,none⟩) (cnt+1) (cnt+1),ext G [])∧VsAt G 9 1 (.slice (some ⟨x+1,0,none⟩) (cnt+1) (cnt+1)) (vs++[.string w]) (cnt+1)∧Mod (idsV v) X G∧G.next=x+2:=by
 have h2:VsAt (ext X [⟨9,false,[.string w]⟩]) 9 1 v vs cnt:=h.of (by rw[ext_next]; omega) (fun n hn=>ext_get_old (h.ne n hn).2)
 have hk:bk (ext X [⟨9,false,[.string w]⟩]) (x+0)=some ⟨9,false,[.string w]⟩:=by rw[bk_at hx (by simp)]; rfl
 have hsm:small (cnt+1) 16=true:=by simp only[small,zA4,zE1]; omega
 obtain⟨G,k1,k2,k3,k4,_⟩:=vs_app (P:=Tryz.prog) (H:=ext X [⟨9,false,[.string w]⟩]) (st:=54) (xt:=54) (e:=9) (sz:=1) (by1:=16) (z:=.string .empty) (n:=x+0) (off:=0) (cnt2:=1) (cap:=1) (s:=some 0) (x:=x+1) (ws:=[.string w]) (b:=⟨9,false,[.string w]⟩)
  u54 s9 (by kernel_rfl) (by kernel_rfl) rfl (by kernel_rfl) h2 (rk_of hk) (by simp) rfl rfl (by decide) hsm (by rw[ext_next,hx]; rfl) (scbL_append (by rw[ext_next]; exact scbL_mono (by omega) _ hs) rfl)
 exact⟨G,k1,k2,(Mod.ext hb).trans (k3 ((Mod.ext (W:=[]) hb).ok hb)),k4⟩
theorem names_c (H:AHeap) (hok:H.base≤H.next):CallA Tryz.prog 33 [] H (fun out X=>∃ v,out=.ok v∧VsAt X 9 1 v nmV 28∧Mod [] H X∧∀ n∈idsV v,H.next≤n):=by
 obtain⟨b,hbn⟩:∃ b,H.next=b:=⟨_,rfl⟩
 have hbase:H.base≤b:=hbn▸hok
 refine callE_fn mixed Tryz.func33 rfl Tryz.ntmps33 (zB9 rfl) ?_
 simp (maxDischargeDepth:=6) only[hbn,hbase,ruW,putL,Nat.reduceLeDiff,xF,ruU,entryE,Nat.reduceLT,Nat.reduceAdd,Nat.reduceMul,Nat.reduceEqDiff]
 refine (shapes_c (ext H [])).to ?_
 simp (maxDischargeDepth:=6) only[hbn,hbase,ext_next,zB8,zC3,ruW,putL,Nat.reduceLeDiff,xF,ruU,entryE,Nat.reduceLT,Nat.reduceAdd,Nat.reduceMul,Nat.reduceEqDiff]
 refine w_env fun E hE=>?_
 have g1:E 1=.slice none 0 0:=by rw[hE]; simp only[ruU,entryE,Nat.reduceLT,Nat.reduceAdd,Nat.reduceMul,Nat.reduceEqDiff]
 have g4:E 4=.agg ⟨shV b⟩:=by rw[hE]; simp only[ruU,entryE,Nat.reduceLT,Nat.reduceAdd,Nat.reduceMul,Nat.reduceEqDiff]
 have g5:E 5=.int .i64 ((0:Nat):Int):=by rw[hE]; (simp only[ruU,entryE,Nat.reduceLT,Nat.reduceAdd,Nat.reduceMul,Nat.reduceEqDiff]<;>rfl)
 clear hE
 generalize hX0:ext _ _=X0
 have m0:Mod [] H X0:=by
  rw[←hX0]
  first
   |exact Mod.ext hok
   |exact (Mod.ext hok).trans (Mod.ext ((Mod.ext (W:=[]) hok).ok hok))
 have n0:b+27≤X0.next:=by rw[←hX0]; simp only[ext_next,hbn,shB,zA5,zB8]; omega
 clear hX0
 refine w_loop (fun (z:Nat × Value) E' X=>Mod [] H X∧b+27≤X.next∧VsAt X 9 1 z.2 (nmV.take z.1) z.1∧(∀ n∈idsV z.2,b≤n)∧z.1≤28∧E' 1=z.2∧E' 4=.agg ⟨shV b⟩∧E' 5=.int .i64 (z.1:Int)) (fun z=>28-z.1) (0,.slice none 0 0)
  ⟨m0,n0,VsAt.nil,fun n hn=>by simp[idsV]at hn,by decide,g1,g4,g5⟩ ?_
 clear g1 g4 g5 m0 n0 X0 E
 rintro⟨i,v⟩ E X ⟨m,nx,hv,hvi,hi,g1,g4,g5⟩
 simp only at hv hvi hi g1 g5
 obtain⟨x,hx⟩:∃ x,X.next=x:=⟨_,rfl⟩
 have hxb:X.base≤x:=hx▸m.ok hok
 rw[hx]at nx
 obtain⟨va,ev⟩:=hv.len
 rw[show X=ext X [] from rfl]
 by_cases hie:i=28
 ·have hd:decide ((i:Int)<28)=false:=decide_eq_false (by omega)
  rw[ev]at g1
  simp (maxDischargeDepth:=6) only[g1,g4,g5,hd,Tryz.results33,ruW,putL,Nat.reduceLeDiff,xF,ruU,entryE,Nat.reduceLT,Nat.reduceAdd,Nat.reduceMul,Nat.reduceEqDiff]
  rw[←ev]
  subst hie
  refine⟨v,rfl,?_,m,hvi⟩
  rw[zD8 (by rw[nm_len]; omega)]at hv
  exact hv
 ·have hil:i<28:=by omega
  have hd:decide ((i:Int)<28)=true:=decide_eq_true (by omega)
  obtain⟨f,ca,Fk,hkv,hkb,hkF,hkc⟩:=kinds_c b i hil
  have hix:=ix114 hil (sh_name hil) hkv
  have hks:∀ N,x≤N→scb N (.func (.func f) ⟨[]⟩ ⟨ca⟩)=true:=fun N h=>sh_kv (by omega) hkv
  have hcs:∀ N,x≤N→scbL N ca=true:=fun N h=>by
   have:=hks N h
   rw[sc_func,zA4]at this
   exact this.2
  have hc0:=hcs x (zA8 _)
  have hc1:=hcs (x+1) (by omega)
  obtain⟨Y,hY⟩:∃ Y,ext X [⟨113,false,[.string (bs (nameR i)),.func (.func f) ⟨[]⟩ ⟨ca⟩]⟩]=Y:=⟨_,rfl⟩
  have mY:Mod [] X Y:=hY▸Mod.ext (by omega)
  have nY:Y.next=x+1:=by rw[←hY,ext_next,hx]; rfl
  have hvY:VsAt Y 9 1 v (nmV.take i) i:=hv.of mY.next fun n hn=>mY.get n (hv.ne n hn).2 (by simp)
  obtain⟨G,k1,vG,mG,nG⟩:=str_app hvY nY (mY.ok (by omega)) (by omega) nm_sc (bs (nameR i))
  have hAB:ext X [⟨113,false,[.string (bs (nameR i)),.func (.func f) ⟨[]⟩ ⟨ca⟩]⟩,⟨9,false,[.string (bs (nameR i))]⟩]=ext Y [⟨9,false,[.string (bs (nameR i))]⟩]:=by rw[←hY,ext_append]; rfl
  rw[←hAB]at k1
  replace k1:aBuiltin Tryz.prog (ext X [⟨113,false,[.string (bs (nameR i)),.func (.func f) ⟨[]⟩ ⟨ca⟩]⟩,⟨9,false,[.string (bs (nameR i))]⟩]) .append ⟨[54,54]⟩ [v,.slice (some ⟨x+1,0,some 0⟩) 1 1]=some (.slice (some ⟨x+1+1,0,none⟩) (i+1) (i+1),ext G []):=k1
  have hw:IntKind.i64.wrap ((i:Int)+1)=((i+1:Nat):Int):=wrap_succ (by omega)
  rw[ev]at g1 k1
  simp (maxDischargeDepth:=6) only[g1,g4,g5,hd,hix,hx,hxb,hc0,hc1,k1,hw,ruW,putL,Nat.reduceLeDiff,xF,ruU,entryE,Nat.reduceLT,Nat.reduceAdd,Nat.reduceMul,Nat.reduceEqDiff]
  have hts:nmV.take (i+1)=nmV.take i++[.string (bs (nameR i))]:=by rw[List.take_add_one,nm_get hil]; rfl
  have mm:=m.trans mY
  refine loopC_next ⟨(i+1,.slice (some ⟨x+1+1,0,none⟩) (i+1) (i+1)),by simp only; omega,mm.step mG hok fun n hn=>.inr (by have:=hvi n hn; omega),by rw[ext_nil,nG]; omega,by rw[hts]; exact vG,fun n hn=>by simp only[idsV,zB0]at hn; omega,by simp only; omega,?_,?_,?_⟩
  all_goals simp only[g4,ruU,entryE,Nat.reduceLT,Nat.reduceAdd,Nat.reduceMul,Nat.reduceEqDiff]
set_option maxRecDepth 100000
def textV (l:List UInt8):Value:=match badA l with
 |some r=>.tuple #[.string .empty,fltV r.2 r.1.pos]
 |none=>.tuple #[.string (bs (textL (insA l))),fltV 0 0]
theorem itoa_ne (n:Int) (h:0≤n):Go.Lib.itoa n≠[]:=by
 obtain⟨u,rfl⟩:∃ u:Nat,n=u:=⟨n.toNat,by omega⟩
 rw[Go.Lib.itoa_nonneg]
 intro e
 have:=dec_pos u
 rw[e]at this
 simp at this
theorem enc_bound:∀ xs:List Ins,xs.length≤(encL xs).length∧∀ x∈xs,x.args.length≤(encL xs).length
 |[]=>⟨zC2 _,fun x hx=>by simp at hx⟩
 |y::r=>by
  obtain⟨h1,h2⟩:=enc_bound r
  have h3:∀ l:List Int,l.length≤(l.flatMap aB).length:=fun l=>by
   induction l with
   |nil=>simp
   |cons a q ih=>rw[zC4,zB2,zA5]; simp only[aB,zA5,zB8]; omega
  have h4:=h3 y.args
  have h5:(encL (y::r)).length=(1+(y.args.flatMap aB).length)+(encL r).length:=by
   rw[encL,zC4,zB2,encB_eq,zA5]
   show _+(encL r).length=_
   omega
  rw[h5]
  refine⟨by rw[zA5]; omega,fun x hx=>?_⟩
  rcases zA7.1 hx with rfl|hx
  ·omega
  ·have:=h2 x hx; omega
theorem text_c (H:AHeap) (bsv:Value) (l:List UInt8) (hl:l.length≤60000) (hb:RdAt H 1 bsv (bv l) l.length) (hp:Pow H):Pure 26 [bsv] H (textV l):=by
 refine callS_drop (fun wf hsc=>?_) (fun _=>by unfold textV; split<;>exact fun _=>rfl)
 obtain⟨b,hbn⟩:∃ b,H.next=b:=⟨_,rfl⟩
 have hok:=wf.base
 have hbase:H.base≤b:=hbn▸hok
 obtain⟨ba,bc,eb⟩:=hb.sl
 rw[scbL_iff]at hsc
 have hsc0:=hsc _ (zB0.2 rfl)
 refine callE_fn mixed Tryz.func26 rfl Tryz.ntmps26 (zB9 rfl) ?_
 simp (maxDischargeDepth:=6) only[hbn,hbase,ruW,putL,Nat.reduceLeDiff,xF,ruU,entryE,Nat.reduceLT,Nat.reduceAdd,Nat.reduceMul,Nat.reduceEqDiff]
 have mH:Mod [] H (ext H [⟨26,false,[.int .i64 0,.int .i64 0]⟩]):=Mod.ext hok
 refine (decode_c (ext H [⟨26,false,[.int .i64 0,.int .i64 0]⟩]) bsv l hl (hb.mod0 mH) (scb_mono mH.next _ hsc0) (mH.ok hok)).mono ?_
 rintro out X ⟨hout,mX⟩
 have kX:bk X (b+0)=some ⟨26,false,[.int .i64 0,.int .i64 0]⟩:=(mX.bk (by rw[ext_next,hbn]; simp) (by simp)).trans (by rw[bk_at hbn (by simp)]; rfl)
 rw[ext_next,hbn]at hout
 have mm:=mH.trans mX
 have nX:b+1≤X.next:=by have:=mX.next; rw[ext_next,hbn]at this; exact this
 obtain⟨x,hx⟩:∃ x,X.next=x:=⟨_,rfl⟩
 have hxb:X.base≤x:=hx▸mm.ok hok
 rw[hx]at nX
 have y0:b+0<x:=by omega
 have y1:b+0<x+1:=by omega
 rw[show X=ext X [] from rfl]
 unfold DecOut at hout
 unfold textV
 split at hout
 ·rename_i r hbad
  subst hout
  try rw[hbad]
  obtain⟨⟨pos,op,args⟩,e⟩:=r
  have he:decide (¬e=0)=true:=by
   have:=List.find?_some (show (decA 0 l).find? _=some _ from hbad)
   simpa using this
  simp (maxDischargeDepth:=6) only[hx,hxb,y0,kX,he,ruW,putL,Nat.reduceLeDiff,xF,ruU,entryE,Nat.reduceLT,Nat.reduceAdd,Nat.reduceMul,Nat.reduceEqDiff]
  refine w_drawB [] [] (by kernel_rfl) (by kernel_rfl) rfl fun ops anc hA hG=>?_
  simp (maxDischargeDepth:=6) only[hx,hxb,y0,y1,kX,qk_old,Tryz.results26,ruD,ruW,putL,Nat.reduceLeDiff,xF,ruU,entryE,Nat.reduceLT,Nat.reduceAdd,Nat.reduceMul,Nat.reduceEqDiff]
  have mU:∀ vs,Mod [] H (uw X (b+0) 0 vs):=fun vs=>mm.step (W':=[b+0]) (Mod.uw (by simp)) hok fun n hn=>.inr (by simp only[zB0]at hn; omega)
  exact⟨rfl,(mU _).trans (Mod.ext ((mU _).ok hok))⟩
 ·rename_i hbad
  obtain⟨v,ls,rfl,hls,own⟩:=hout
  obtain⟨va,ev⟩:=own.vs.len
  subst ev
  try rw[hbad]
  try simp only
  have hz:∀ i:Decidable (¬True),@decide (¬True) i=false:=fun i=>by simp
  simp (maxDischargeDepth:=6) only[hx,hxb,y0,kX,hz,ruW,putL,Nat.reduceLeDiff,xF,ruU,entryE,Nat.reduceLT,Nat.reduceAdd,Nat.reduceMul,Nat.reduceEqDiff]
  refine (shapes_c (ext X [⟨26,false,[.int .i64 0,.int .i64 0]⟩,⟨110,false,[.pointer none,.slice none 0 0]⟩])).to ?_
  simp (maxDischargeDepth:=6) only[hx,hxb,y0,kX,hz,ext_next,shB,shV,zero114,ruW,putL,Nat.reduceLeDiff,xF,ruU,entryE,Nat.reduceLT,Nat.reduceAdd,Nat.reduceMul,Nat.reduceEqDiff]
  obtain⟨v,ev⟩:∃ v,v=Value.slice va ls.length ls.length:=⟨_,rfl⟩
  rw[←ev]at own
  refine w_env fun E hE=>?_
  have g3:E 3=.pointer (some ⟨b+0,0,none⟩):=by rw[hE]; simp only[ruU,entryE,Nat.reduceLT,Nat.reduceAdd,Nat.reduceMul,Nat.reduceEqDiff]
  have g6:E 6=.pointer (some ⟨x+1,0,none⟩):=by rw[hE]; simp only[ruU,entryE,Nat.reduceLT,Nat.reduceAdd,Nat.reduceMul,Nat.reduceEqDiff]
  have g7:E 7=.pointer (some ⟨x+29,0,none⟩):=by rw[hE]; simp only[ruU,entryE,Nat.reduceLT,Nat.reduceAdd,Nat.reduceMul,Nat.reduceEqDiff]
  have g22:E 22=v:=by rw[hE,ev]; simp only[ruU,entryE,Nat.reduceLT,Nat.reduceAdd,Nat.reduceMul,Nat.reduceEqDiff]
  have g23:E 23=.int .i64 (ls.length:Int):=by rw[hE]; simp only[ruU,entryE,Nat.reduceLT,Nat.reduceAdd,Nat.reduceMul,Nat.reduceEqDiff]
  have g24:E 24=.int .i64 ((0:Nat):Int):=by rw[hE]; (simp only[ruU,entryE,Nat.reduceLT,Nat.reduceAdd,Nat.reduceMul,Nat.reduceEqDiff]<;>rfl)
  clear hE
  generalize hX0:ext X _=X0
  have m0:Mod [] X X0:=hX0▸Mod.ext (by rw[hx]; exact hxb)
  have n0:x+30≤X0.next:=by rw[←hX0,ext_next,hx]; simp
  have k1:bk X0 (x+1)=some ⟨110,false,[.pointer none,.slice none 0 0]⟩:=by rw[←hX0,bk_at hx (by simp)]; rfl
  have k29:bk X0 (x+29)=some ⟨114,false,shV (x+2)⟩:=by rw[←hX0,bk_at hx (by simp)]; rfl
  clear hX0
  have b0:BldAt X0 (x+1) (.slice none 0 0) []:=⟨⟨none,.inl rfl,k1⟩,by omega,VsAt.nil,by simp[idsV]⟩
  have hIR:InsRd X v ls:=⟨own.vs.rd,fun z hz=>(own.av z hz).rd,fun z hz=>VsAt.sc (own.av z hz)⟩
  obtain⟨henc,hall⟩:=enc_of_dec hbad
  have hall':∀ z∈ls,encA z.1.op z.1.args=0:=fun z hz=>hall _ (by rw[←hls]; exact List.mem_map_of_mem hz)
  have htl:=text_len hall
  have hbd:=enc_bound (insA l)
  rw[henc]at htl hbd
  have hll:ls.length≤l.length:=by have:=hbd.1; rw[←hls,zD3]at this; exact this
  obtain⟨T,hT⟩:∃ T,textL (insA l)=T:=⟨_,rfl⟩
  rw[hT]at htl ⊢
  have hbX:=mm.ok hok
  refine w_loop (fun (z:Nat × List UInt8 × Value) E' X'=>Mod [] X X'∧x+30≤X'.next∧BldAt X' (x+1) z.2.2 z.2.1∧(∀ n∈idsV z.2.2,x+30≤n)∧bk X' (x+29)=some ⟨114,false,shV (x+2)⟩∧z.2.1++textL ((ls.map (·.1)).drop z.1)=T∧z.1≤ls.length∧E' 3=.pointer (some ⟨b+0,0,none⟩)∧E' 6=.pointer (some ⟨x+1,0,none⟩)∧E' 7=.pointer (some ⟨x+29,0,none⟩)∧E' 22=v∧E' 23=.int .i64 (ls.length:Int)∧E' 24=.int .i64 (z.1:Int)) (fun z=>ls.length-z.1) (0,[],.slice none 0 0)
   ⟨m0,n0,b0,fun n hn=>by simp[idsV]at hn,k29,by rw[hls]; exact hT,zC2 _,g3,g6,g7,g22,g23,g24⟩ ?_
  clear g3 g6 g7 g22 g23 g24 m0 n0 b0 k1 k29 X0 E
  rintro⟨i,txt,v1⟩ E X1 ⟨m1,n1,hB,hvi,k29,htx,hil,g3,g6,g7,g22,g23,g24⟩
  simp only at hB hvi htx hil g24
  obtain⟨y,hy⟩:∃ y,X1.next=y:=⟨_,rfl⟩
  have hyb:X1.base≤y:=hy▸m1.ok hbX
  rw[hy]at n1
  rw[show X1=ext X1 [] from rfl]
  by_cases hie:i=ls.length
  ·have hd:decide ((i:Int)<(ls.length:Int))=false:=decide_eq_false (by omega)
   rw[ev]at g22
   simp (maxDischargeDepth:=6) only[g3,g6,g7,g22,g23,g24,hd,ruW,putL,Nat.reduceLeDiff,xF,ruU,entryE,Nat.reduceLT,Nat.reduceAdd,Nat.reduceMul,Nat.reduceEqDiff]
   rw[List.drop_of_length_le (by rw[zD3]; omega)]at htx
   rw[show textL []=[] from rfl,zE3]at htx
   rw[htx]at hB
   refine (string_c (ext X1 []) hB (by omega) (m1.ok hbX)).mono ?_
   rintro _ X2 ⟨rfl,m2⟩
   have mB:Mod [] X X2:=m1.step m2 hbX fun n hn=>.inr (by have:=hvi n hn; omega)
   have kk:bk X2 (b+0)=some ⟨26,false,[.int .i64 0,.int .i64 0]⟩:=(mB.bk (by omega) (by simp)).trans kX
   have nn:b+0<X2.next:=by have:=mB.next; omega
   rw[show X2=ext X2 [] from rfl]
   simp (maxDischargeDepth:=6) only[g3,g6,g7,g22,g23,g24,kk,nn,Tryz.results26,ruW,putL,Nat.reduceLeDiff,xF,ruU,entryE,Nat.reduceLT,Nat.reduceAdd,Nat.reduceMul,Nat.reduceEqDiff]
   have mE:=mm.trans mB
   exact⟨trivial,mE.step (W':=[b+0]) (Mod.uw (by simp)) hok fun n hn=>.inr (by simp only[zB0]at hn; omega)⟩
  ·have hil':i<ls.length:=by omega
   have hd:decide ((i:Int)<(ls.length:Int))=true:=decide_eq_true (by omega)
   obtain⟨z,hz'⟩:∃ z,ls[i]?=some z:=⟨_,zB1 hil'⟩
   have hzm:z∈ls:=List.mem_of_getElem? hz'
   obtain⟨n,off,s,c,e,o,M,e1,n1',r1,ia,ld⟩:=(hIR.mod0 m1).one hz'
   have hzr:=(hIR.mod0 m1).av z hzm
   have hzs:=(hIR.mod0 m1).sc z hzm
   obtain⟨q0,q1,q2,q3⟩:=encA_ok (hall' z hzm)
   have hal:z.1.args.length≤l.length:=hbd.2 z.1 (by rw[←hls]; exact List.mem_map_of_mem hzm)
   obtain⟨⟨pos,op,args⟩,av⟩:=z
   obtain⟨aa,ac,ea⟩:=hzr.sl
   simp only at hzr hzs ea q0 q1 q2 q3 hal
   obtain⟨k,rfl⟩:∃ k:Nat,op=k:=⟨op.toNat,by omega⟩
   have hk:k<28:=by omega
   rw[hy]at n1' hzs
   simp only[ivV,ivC]at ld
   rw[ea]at ld hzs
   have h29:x+29<y:=by omega
   have hnm:=sh_name (s:=x+2) hk
   have ia4:aIndexAddr Tryz.prog 114 (.pointer (some ⟨x+29,0,none⟩)) (.int .i64 (k:Int))=some (.pointer (some ⟨x+29,2*k,none⟩)):=ia114 hk
   simp (maxDischargeDepth:=6) only[g3,g6,g7,g22,g23,g24,hd,hy,hyb,ia,r1,n1',ld,hzs,h29,k29,ia4,hnm,qk_old,ruW,putL,Nat.reduceLeDiff,xF,ruU,entryE,Nat.reduceLT,Nat.reduceAdd,Nat.reduceMul,Nat.reduceEqDiff]
   have hdr:(ls.map (·.1)).drop i=⟨pos,k,args⟩::(ls.map (·.1)).drop (i+1):=by
    have hgx:(ls.map (·.1))[i]?=some ⟨pos,k,args⟩:=by rw[List.getElem?_map,hz']; rfl
    rw[List.drop_eq_getElem_cons (by rw[zD3]; omega)]
    congr 1
    exact Option.some.inj ((zB1 _).symm.trans hgx)
   obtain⟨R,hR⟩:∃ R,textL ((ls.map (·.1)).drop (i+1))=R:=⟨_,rfl⟩
   obtain⟨f,hf⟩:∃ f:Int→List UInt8,(fun n=>32::Go.Lib.itoa n)=f:=⟨_,rfl⟩
   rw[hdr,textL,zC4]at htx
   have htx2:(txt++nameR k)++(args.flatMap f++(10::R))=T:=by
    rw[←htx,←hR,←hf,textI]
    simp[textL]
   clear htx
   have hlT:=congrArg List.length htx2
   simp only[zB2,zA5]at hlT
   obtain⟨Z,hZ⟩:∃ Z,ext X1 [⟨59,false,[.int .i64 pos,.int .i64 (k:Int),.slice aa args.length ac]⟩]=Z:=⟨_,rfl⟩
   have mZ:Mod [] X1 Z:=hZ▸Mod.ext (by omega)
   have nZ:Z.next=y+1:=by rw[←hZ,ext_next,hy]; rfl
   have kZ:bk Z (y+0)=some ⟨59,false,[.int .i64 pos,.int .i64 (k:Int),.slice aa args.length ac]⟩:=by rw[←hZ,bk_at hy (by simp)]; rfl
   have mXZ:=m1.trans mZ
   rw[hZ]
   refine (writeString_c Z (hB.mod0 mZ) (name_free hk).1 (by omega) (mXZ.ok hbX)).mono ?_
   clear hZ
   rintro _ X2 ⟨v2,rfl,hB2,m2,hv2⟩
   have hvy:∀ n∈idsV v1,n<y:=fun n hn=>hy▸(hB.vs.ne n hn).2
   have mX2:Mod [] X X2:=mXZ.step m2 hbX fun n hn=>by
    simp only[zA7]at hn
    rcases hn with rfl|hn
    ·exact .inr (by omega)
    ·exact .inr (by have:=hvi n hn; omega)
   have nX2:=m2.next
   rw[nZ]at nX2 hv2
   have k2:bk X2 (y+0)=some ⟨59,false,[.int .i64 pos,.int .i64 (k:Int),.slice aa args.length ac]⟩:=(m2.bk (by omega) (by
    simp only[zA7,not_or]
    exact⟨by omega,fun h=>by have:=hvy _ h; omega⟩)).trans kZ
   have k29b:bk X2 (x+29)=some ⟨114,false,shV (x+2)⟩:=((m2.bk (by omega) (by
    simp only[zA7,not_or]
    exact⟨by omega,fun h=>by have:=hvi _ h; omega⟩)).trans (mZ.bk (by omega) (by simp))).trans k29
   have y2:y+0<X2.next:=by omega
   rw[show X2=ext X2 [] from rfl]
   simp (maxDischargeDepth:=6) only[g3,g6,g7,g22,g23,g24,k2,y2,qk_old,ruW,putL,Nat.reduceLeDiff,xF,ruU,entryE,Nat.reduceLT,Nat.reduceAdd,Nat.reduceMul,Nat.reduceEqDiff]
   refine w_env fun E2 hE=>?_
   have h3:E2 3=.pointer (some ⟨b+0,0,none⟩):=by rw[hE]; simp only[g3,ruU,entryE,Nat.reduceLT,Nat.reduceAdd,Nat.reduceMul,Nat.reduceEqDiff]
   have h6:E2 6=.pointer (some ⟨x+1,0,none⟩):=by rw[hE]; simp only[g6,ruU,entryE,Nat.reduceLT,Nat.reduceAdd,Nat.reduceMul,Nat.reduceEqDiff]
   have h7:E2 7=.pointer (some ⟨x+29,0,none⟩):=by rw[hE]; simp only[g7,ruU,entryE,Nat.reduceLT,Nat.reduceAdd,Nat.reduceMul,Nat.reduceEqDiff]
   have h22:E2 22=v:=by rw[hE]; simp only[g22,ruU,entryE,Nat.reduceLT,Nat.reduceAdd,Nat.reduceMul,Nat.reduceEqDiff]
   have h23:E2 23=.int .i64 (ls.length:Int):=by rw[hE]; simp only[g23,ruU,entryE,Nat.reduceLT,Nat.reduceAdd,Nat.reduceMul,Nat.reduceEqDiff]
   have h24:E2 24=.int .i64 (i:Int):=by rw[hE]; simp only[g24,ruU,entryE,Nat.reduceLT,Nat.reduceAdd,Nat.reduceMul,Nat.reduceEqDiff]
   have h35:E2 35=.slice aa args.length ac:=by rw[hE]; simp only[ruU,entryE,Nat.reduceLT,Nat.reduceAdd,Nat.reduceMul,Nat.reduceEqDiff]
   have h36:E2 36=.int .i64 (args.length:Int):=by rw[hE]; simp only[ruU,entryE,Nat.reduceLT,Nat.reduceAdd,Nat.reduceMul,Nat.reduceEqDiff]
   have h37:E2 37=.int .i64 ((0:Nat):Int):=by rw[hE]; (simp only[ruU,entryE,Nat.reduceLT,Nat.reduceAdd,Nat.reduceMul,Nat.reduceEqDiff]<;>rfl)
   clear hE g3 g6 g7 g22 g23 g24 E
   rw[ext_nil]
   refine w_loop (fun (q:Nat × List UInt8 × Value) E' X'=>Mod [] X X'∧y+1≤X'.next∧BldAt X' (x+1) q.2.2 q.2.1∧(∀ n∈idsV q.2.2,y+1≤n)∧bk X' (x+29)=some ⟨114,false,shV (x+2)⟩∧q.2.1++((args.drop q.1).flatMap f++(10::R))=T∧q.1≤args.length∧E' 3=.pointer (some ⟨b+0,0,none⟩)∧E' 6=.pointer (some ⟨x+1,0,none⟩)∧E' 7=.pointer (some ⟨x+29,0,none⟩)∧E' 22=v∧E' 23=.int .i64 (ls.length:Int)∧E' 24=.int .i64 (i:Int)∧E' 35=.slice aa args.length ac∧E' 36=.int .i64 (args.length:Int)∧E' 37=.int .i64 (q.1:Int)) (fun q=>args.length-q.1) (0,txt++nameR k,v2)
    ⟨mX2,nX2,hB2,hv2,k29b,htx2,zC2 _,h3,h6,h7,h22,h23,h24,h35,h36,h37⟩ ?_
   clear h3 h6 h7 h22 h23 h24 h35 h36 h37 E2 y2 k2 k29b nX2 mX2 hv2 hB2 m2 v2 X2 htx2 hlT
   rintro⟨j,tx3,v3⟩ E X3 ⟨m3,n3,hB3,hv3,k3,htx3,hj,g3,g6,g7,g22,g23,g24,g35,g36,g37⟩
   simp only at hB3 hv3 htx3 hj g37
   have hlT:=congrArg List.length htx3
   simp only[zB2,zA5]at hlT
   have ok3:=m3.ok hbX
   have hv3x:∀ n∈(x+1)::idsV v3,n∈([]:List Nat)∨X.next≤n:=fun n hn=>by
    simp only[zA7]at hn
    rcases hn with rfl|hn
    ·exact .inr (by omega)
    ·exact .inr (by have:=hv3 n hn; omega)
   rw[show X3=ext X3 [] from rfl]
   by_cases hje:j=args.length
   ·have hdj:decide ((j:Int)<(args.length:Int))=false:=decide_eq_false (by omega)
    simp (maxDischargeDepth:=6) only[g3,g6,g7,g22,g23,g24,g35,g36,g37,hdj,ruW,putL,Nat.reduceLeDiff,xF,ruU,entryE,Nat.reduceLT,Nat.reduceAdd,Nat.reduceMul,Nat.reduceEqDiff]
    refine (writeByte_c (ext X3 []) 10 hB3 (by omega) ok3).mono ?_
    rintro _ X4 ⟨v4,rfl,hB4,m4,hv4⟩
    have mX4:=m3.step m4 hbX hv3x
    have nn4:=m4.next
    have hw:IntKind.i64.wrap ((i:Int)+1)=((i+1:Nat):Int):=wrap_succ (by omega)
    rw[show X4=ext X4 [] from rfl]
    simp (maxDischargeDepth:=6) only[g3,g6,g7,g22,g23,g24,hw,ruW,putL,Nat.reduceLeDiff,xF,ruU,entryE,Nat.reduceLT,Nat.reduceAdd,Nat.reduceMul,Nat.reduceEqDiff]
    rw[hje,List.drop_length,List.flatMap_nil,zC8]at htx3
    refine loopC_next ⟨(i+1,tx3++[10],v4),by simp only; omega,mX4,by rw[ext_nil]; rw[ext_next]at nn4; omega,hB4,fun n hn=>by have:=hv4 n hn; rw[ext_next]at this; omega,?_,?_,by simp only; omega,?_,?_,?_,?_,?_,?_⟩
    ·exact (m4.bk (by rw[ext_next]; omega) (by
      simp only[zA7,not_or]
      exact⟨by omega,fun h=>by have:=hv3 _ h; omega⟩)).trans k3
    ·show (tx3++[10])++textL ((ls.map (·.1)).drop (i+1))=T
     rw[hR,zE6]
     exact htx3
    all_goals simp only[g3,g6,g7,g22,g23,g24,ruU,entryE,Nat.reduceLT,Nat.reduceAdd,Nat.reduceMul,Nat.reduceEqDiff]
   ·have hjl:j<args.length:=by omega
    have hdj:decide ((j:Int)<(args.length:Int))=true:=decide_eq_true (by omega)
    have hyr3:=(hIR.mod0 m3).av _ hzm
    simp only at hyr3
    rw[ea]at hyr3
    obtain⟨n',off',s',c',e',o',M',e3,n3',r3,m3'⟩:=hyr3.one hjl
    cases e3
    rw[iv_get,zB1 hjl,zA6]at m3'
    have i3:=ia_of (P:=Tryz.prog) (k:=.i64) (i:=j) (n:=n') (off:=off') (len:=args.length) (cap:=ac) (s:=s') u35 s3 hjl
    rw[zC5]at i3
    obtain⟨p,hpv⟩:∃ p,args[j]=p:=⟨_,rfl⟩
    rw[hpv]at m3'
    obtain⟨p0,p1⟩:=q3 p (hpv▸List.getElem_mem hjl)
    have hdr2:args.drop j=p::args.drop (j+1):=by rw[List.drop_eq_getElem_cons hjl,hpv]
    rw[hdr2,zC4,←hf,zE6]at htx3
    simp only[zE0]at htx3
    have hlT:=congrArg List.length htx3
    simp only[zB2,zA5]at hlT
    simp (maxDischargeDepth:=6) only[g3,g6,g7,g22,g23,g24,g35,g36,g37,hdj,i3,n3',r3,m3',qk_old,ruW,putL,Nat.reduceLeDiff,xF,ruU,entryE,Nat.reduceLT,Nat.reduceAdd,Nat.reduceMul,Nat.reduceEqDiff]
    refine (writeByte_c (ext X3 []) 32 hB3 (by omega) ok3).mono ?_
    rintro _ X4 ⟨v4,rfl,hB4,m4,hv4⟩
    have mX4:=m3.step m4 hbX hv3x
    have nn4:=m4.next
    rw[ext_next,zB8,zC3]at nn4 hv4
    have k4:bk X4 (x+29)=some ⟨114,false,shV (x+2)⟩:=(m4.bk (by rw[ext_next]; omega) (by
      simp only[zA7,not_or]
      exact⟨by omega,fun h=>by have:=hv3 _ h; omega⟩)).trans k3
    rw[show X4=ext X4 [] from rfl]
    simp (maxDischargeDepth:=6) only[g3,g6,g7,g22,g23,g24,g35,g36,g37,ruW,putL,Nat.reduceLeDiff,xF,ruU,entryE,Nat.reduceLT,Nat.reduceAdd,Nat.reduceMul,Nat.reduceEqDiff]
    refine (itoa_c (ext X4 []) (hp.mod (mm.trans mX4) (by simp)) p p0 p1).to ?_
    simp (maxDischargeDepth:=6) only[g3,g6,g7,g22,g23,g24,g35,g36,g37,ruW,putL,Nat.reduceLeDiff,xF,ruU,entryE,Nat.reduceLT,Nat.reduceAdd,Nat.reduceMul,Nat.reduceEqDiff]
    refine (writeString_c (ext X4 []) (w:=Go.Lib.itoa p) hB4 (itoa_ne p p0) (by rw[zB2,zC0]; omega) (mX4.ok hbX)).mono ?_
    rintro _ X5 ⟨v5,rfl,hB5,m5,hv5⟩
    have mX5:=mX4.step m5 hbX fun n hn=>by
     simp only[zA7]at hn
     rcases hn with rfl|hn
     ·exact .inr (by omega)
     ·exact .inr (by have:=hv4 n hn; omega)
    have nn5:=m5.next
    rw[ext_next,zB8,zC3]at nn5 hv5
    have k5:bk X5 (x+29)=some ⟨114,false,shV (x+2)⟩:=(m5.bk (by rw[ext_next]; omega) (by
      simp only[zA7,not_or]
      exact⟨by omega,fun h=>by have:=hv4 _ h; omega⟩)).trans k4
    have hwj:IntKind.i64.wrap ((j:Int)+1)=((j+1:Nat):Int):=wrap_succ (by omega)
    rw[show X5=ext X5 [] from rfl]
    simp (maxDischargeDepth:=6) only[g3,g6,g7,g22,g23,g24,g35,g36,g37,hwj,ruW,putL,Nat.reduceLeDiff,xF,ruU,entryE,Nat.reduceLT,Nat.reduceAdd,Nat.reduceMul,Nat.reduceEqDiff]
    refine loopC_next ⟨(j+1,tx3++[32]++Go.Lib.itoa p,v5),by simp only; omega,mX5,by rw[ext_nil]; omega,hB5,fun n hn=>by have:=hv5 n hn; omega,k5,?_,by simp only; omega,?_,?_,?_,?_,?_,?_,?_,?_,?_⟩
    ·show (tx3++[32]++Go.Lib.itoa p)++((args.drop (j+1)).flatMap f++(10::R))=T
     rw[←htx3,←hf]
     simp
    all_goals simp only[g3,g6,g7,g22,g23,g24,g35,g36,ruU,entryE,Nat.reduceLT,Nat.reduceAdd,Nat.reduceMul,Nat.reduceEqDiff]
open Go.ChangeShapes Go.WideShapes Go.ChangeAt Go.RowKit Go.Ax
section
variable {P : Program} {w : World} {r : Reach} {base : Nat}
theorem ok_strB {t:TypeId} {v:Value} (ht:P.underlying t=some .string) (h:Value.okWide P w r base t v):∃ s,v=.string s:=by
 unfold Value.okWide at h
 rw[ht]at h
 unfold Cell.okWide Cell.ok at h
 cases v<;>simp[ht]at h
 exact⟨_,rfl⟩
theorem ok_sliceB {t e:TypeId} {v:Value} (ht:P.underlying t=some (.slice e)) (h:Value.okWide P w r base t v):v=.slice none 0 0∨∃ b off len cap,v=.slice (some ⟨b,off,none⟩) len cap:=by
 unfold Value.okWide at h
 rw[ht]at h
 unfold Cell.okWide Cell.ok at h
 cases v with
 |slice a len cap =>
  cases a with
  |none =>
   simp only[ht]at h
   left
   cases len<;>cases cap<;>first|rfl|(simp at h)
  |some a =>
   simp only[ht]at h
   have hs:=h.2.2.2.1
   obtain⟨b,off,s⟩:=a
   simp only at hs
   subst hs
   exact .inr ⟨b,off,len,cap,rfl⟩
 |_=>simp[ht]at h
end
theorem trodAll_carryB {K:Type} {enc:TypeId × Value→K} {P:Program} (hl:laidOutB P=true) {W W':World} (hb:Below W.heap.size W W'):∀ {ts:List TypeId} {vs:List Value} {ds:List (DataW K)} {ps:List MemPlace},
  (ts.all fun t=>P.readableRec t&&Nat.blt t P.types.size)=true→DataW.TrodAll enc P W 0 (fun _=>true) true ts vs ds ps→(∀ x∈ps,x.block<W.heap.size)→DataW.TrodAll enc P W' 0 (fun b=>decide (b<W.heap.size)) true ts vs ds ps
 |[],[],[],ps,_,h,_=>h
 |t::ts,v::vs,d::ds,ps,ht,h,hp=>by
  obtain⟨p,q,h1,h2,rfl⟩:=h
  simp only[List.all_cons,zA4]at ht
  exact⟨p,q,Below.trod hl ht.1.1 (blt_lt ht.1.2) h1 hb (fun x hx=>hp x (by simp[hx])),trodAll_carryB hl hb (by simpa using ht.2) h2 (fun x hx=>hp x (by simp[hx])),rfl⟩
theorem ownB:ownKnob Tryz.prog.godebug=none:=by kernel_rfl
theorem laidOutBz:laidOutB Tryz.prog=true:=by kernel_rfl
theorem fl5:flat Tryz.prog 10000 5=some [5]:=by kernel_rfl
theorem u5:Tryz.prog.underlying 5=some (.int .u8):=by kernel_rfl
def LaidP (w:World) (e:TypeId):Prop:=∃ c,w.heap[3]?=some (.cells c e (0,0))∧c.toList=dc powD
theorem tab_laidP {w:World} {laid:List (String × DataW Unit)} (h:laidMet Tryz.prog laid w) (hx:("internal/strconv.uint64pow10", powD)∈laid):∃ e,LaidP w e:=by
 obtain⟨c1,t1,a1,b1⟩:=laid_tab h (name := "internal/strconv.uint64pow10") (d:=powD) hx (g:=3) (t:=207) (e:=190) (ts:=[190]) (D:=1000) (n:=20) (by kernel_rfl) (by kernel_rfl) (by kernel_rfl) (by kernel_rfl) (by kernel_rfl) (by kernel_rfl) (by kernel_rfl) (blt_lt (by kernel_rfl))
 exact⟨t1,c1,a1,b1⟩
theorem bk_put_eqB {H:AHeap} {g:Nat} {e:TypeId} {vs:List Value}:bk (H.put g (some (tabO e vs))) g=some ⟨e,false,vs⟩:=by
 refine blk_bk ⟨RV.ofList vs,?_,RV.n_ofList _,fun i hi=>?_⟩
 ·simp only[cellsAt,AHeap.get_put,if_true,tabO]
 ·rw[RV.get_ofList]
theorem add_pow {ρ:Ren} {H:AHeap} {W:World} {e:TypeId} (r:Rel Tryz.prog ρ H W) (hl:LaidP W e) (hex:∀ g,ρ.ex g=0) (hi:∀ n,H.get n≠none→ρ.blk n=3→n=3) (hn:3<H.next) :
  ∃ H1,Rel Tryz.prog ρ H1 W∧H1.next=H.next∧H1.base=H.base∧H1.dirty=H.dirty∧Pow H1∧∀ n,n≠3→H1.get n=H.get n:=by
 obtain⟨c1,a1,b1⟩:=hl
 have r1:=rel_tab r (g:=3) (show 3<Tryz.prog.globals.size by decide +kernel) (hex 3) hi a1 b1 (by kernel_rfl)
 exact⟨_,r1,rfl,rfl,rfl,⟨hn,e,bk_put_eqB⟩,fun n hn=>by rw[AHeap.get_put,if_neg hn]⟩
theorem u8s_of:∀ (vs:List Value),(∀ i,i<vs.length→∃ n:Int,vs.getD i undef=.int .u8 n∧0≤n∧n≤255)→∃ l:List UInt8,vs=bv l
 |[],_=>⟨[],rfl⟩
 |v::vs,hf=>by
  obtain⟨n,h0,h1,h2⟩:=hf 0 (by simp)
  have h0':v=.int .u8 n:=h0
  obtain⟨l,rfl⟩:=u8s_of vs fun i hi=>by
   have:=hf (i+1) (by simp only[zA5]; omega)
   simpa using this
  refine⟨n.toNat.toUInt8::l,?_⟩
  show _=.int .u8 ((n.toNat.toUInt8.toNat:Nat):Int)::bv l
  rw[h0',show n.toNat.toUInt8.toNat=n.toNat % 256 from UInt8.toNat_ofNat' ..,Nat.mod_eq_of_lt (by omega),Int.toNat_of_nonneg h1]
theorem trod_u8 {K:Type} {enc:TypeId × Value→K} {W:World} {spare:Nat→Bool} {held:Bool} {fuel b off len cap:Nat} {x:DataW K × List MemPlace}
  (h:DataW.trod enc Tryz.prog W 0 spare held fuel 23 [.slice (some ⟨b,off,none⟩) len cap]=some x):∀ i,i<len→∃ n:Int,W.cell? ⟨b,off+i,none⟩=some (.int .u8 n)∧0≤n∧n≤255:=by
 rcases DataW.trod_slice u23 h with⟨h1,_⟩|⟨a,len',cap',elems,rest,m,_,h1,_,_,_,_,hel,he,_⟩
 ·simp at h1
 ·simp only[List.cons.injEq,Value.slice.injEq,Option.some.injEq,and_true]at h1
  obtain⟨rfl,rfl,rfl⟩:=h1
  intro i hi
  have hc5:Tryz.prog.cellsOf 5=1:=cellsOf_szOf s5
  have hi':=he i hi
  rw[hc5,zB1 (by omega),zC5]at hi'
  cases hcs:W.cells? 0 ((⟨b,off,none⟩:Addr).add i) 1 with
  |none=>rw[hcs]at hi'; cases hi'
  |some cs =>
   rw[hcs,zA3]at hi'
   obtain⟨n,rfl,_,hwf⟩:=DataW.trod_int u5 hi'
   unfold World.cells? at hcs
   rw[if_pos (zC2 _)]at hcs
   have hcell:W.cell? (((⟨b,off,none⟩:Addr).add i).add 0)=some (.int .u8 n):=by
    have e:List.range 1=[0]:=rfl
    rw[e]at hcs
    cases hq:W.cell? (((⟨b,off,none⟩:Addr).add i).add 0) with
    |none=>rw[List.mapM_cons,hq]at hcs; cases hcs
    |some q =>
     rw[List.mapM_cons,hq]at hcs
     simp at hcs
     rw[hcs]
   rw[addr_add,addr_add,zC3]at hcell
   refine⟨n,hcell,?_⟩
   simp only[Lit.wf,zA4,decide_eq_true_eq]at hwf
   exact hwf
theorem pow_nou8 {c:Array Value} {i:Nat} {z:Int} (hc:c.toList=dc powD) (h:c[i]?=some (.int .u8 z)):False:=by
 have:Value.int .u8 z∈dc powD:=by
  rw[←hc,Array.mem_toList_iff]
  exact Array.mem_of_getElem? h
 rw[pow_list]at this
 obtain⟨y,_,h⟩:=zD4.1 this
 cases h
theorem nomemB (W:World) {e:TypeId} (hl:LaidP W e) (N b off:Nat) (hN:Tryz.prog.globals.size≤N):∃ H:AHeap,Rel Tryz.prog (enR N b off) H W∧H.base=H.next∧H.dirty=[]∧H.next=N+1∧Pow H:=by
 have h2:6≤N:=zD5 (zB9 (by kernel_rfl)) hN
 have r:Rel Tryz.prog (enR N b off) (AHeap.none (N+1)) W:=⟨zA8 _,⟨Nat.le_succ_of_le hN,fun g hg=>by
   have:g≠N:=by omega
   exact⟨if_neg this,if_neg this⟩⟩,fun m _ hm=>absurd (none_get _ m) hm,fun n o ho=>(by rw[none_get]at ho; cases ho),fun n o ho=>(by rw[none_get]at ho; cases ho)⟩
 obtain⟨H1,k1,k2,k3,k4,k5,_⟩:=add_pow r hl (fun _=>rfl) (fun n h=>absurd (none_get _ n) h) (by show 3<N+1; omega)
 exact⟨H1,k1,by rw[k3,k2]; rfl,by rw[k4]; rfl,by rw[k2]; rfl,k5⟩
theorem entryB {K:Type} {enc:TypeId × Value→K} {W:World} {v:Value} {d:DataW K} {p:List MemPlace} {base:Nat} {e:TypeId} (hl:LaidP W e) (hok:Value.okWide Tryz.prog W .any base 23 v) (h:DataW.Trod enc Tryz.prog W 0 (fun _=>true) true 23 v d p) (hnf:W.noneFrozen p) :
  ∃ (ρ:Ren) (H:AHeap) (u:Value) (l:List UInt8),Rel Tryz.prog ρ H W∧H.base=H.next∧H.dirty=[]∧ρ.val u=v∧scb H.next u=true∧RdAt H 1 u (bv l) l.length∧Pow H:=by
 obtain⟨N,hN⟩:∃ N,Tryz.prog.globals.size≤N:=⟨_,zA8 _⟩
 have h2:6≤N:=zD5 (zB9 (by kernel_rfl)) hN
 rcases ok_sliceB u23 hok with rfl|⟨b,off,len,cap,rfl⟩
 ·obtain⟨H,k1,k2,k3,k4,k5⟩:=nomemB W hl N 0 0 hN
  exact⟨_,H,.slice none 0 0,[],k1,k2,k3,by rw[Ren.val],rfl,RdAt.nil,k5⟩
 ·obtain⟨fuel,hf⟩:=h
  obtain⟨hlc,hh⟩:=trod_slice (ts:=[5]) u23 s5 fl5 hf hnf
  have hval:∀ N,(enR N b off).val (.slice (some ⟨N,0,some 0⟩) len cap)=.slice (some ⟨b,off,none⟩) len cap:=fun N=>by
   simp[Ren.val,enR]
  have hempty:len=0→∃ (ρ:Ren) (H:AHeap) (u:Value) (l:List UInt8),Rel Tryz.prog ρ H W∧H.base=H.next∧H.dirty=[]∧ρ.val u=.slice (some ⟨b,off,none⟩) len cap∧scb H.next u=true∧RdAt H 1 u (bv l) l.length∧Pow H:=fun h0=>by
   subst h0
   obtain⟨H,k1,k2,k3,k4,k5⟩:=nomemB W hl N b off hN
   exact⟨_,H,.slice (some ⟨N,0,some 0⟩) 0 cap,[],k1,k2,k3,hval _,blt_of (by rw[k4]; exact zC7 _),RdAt.nil,k5⟩
  rcases hh with h0|⟨c,e',fz,vs,hb,hvl,hcv,hfit,hfz⟩
  ·exact hempty (by simpa using h0)
  ·simp only[zA5,zB8,zC9,zC5]at hvl hfit hfz
   obtain⟨l,rfl⟩:=u8s_of vs (fun i hi=>by
    obtain⟨n,h1,h2,h3⟩:=trod_u8 hf i (by omega)
    refine⟨n,?_,h2,h3⟩
    have h4:=hcv i hi
    simp only[World.cell?,hb]at h1
    have h5:c[off+i]?=some (.int .u8 n):=by simpa using h1
    rw[h4]at h5
    exact Option.some.inj h5)
   have hbl:(bv l).length=l.length:=by simp[bv]
   rw[hbl]at hvl
   by_cases hpos:0<l.length
   ·have haf:afL (bv l)=true:=by
     clear hvl hfit hfz hcv hpos hbl
     induction l with
     |nil=>rfl
     |cons a l ih=>simp only[bv,zB4,afL,af]at ih ⊢; simp only[ih,zD7]
    have hr:=rel_en (w:=W) (e:=e') (b:=b) (off:=off) hN hb hcv (by omega) haf (fun i h1 h2=>hfz i h1 (by omega))
    have hc0:c[off]?=some (.int .u8 ((l[0].toNat:Nat):Int)):=by
     have:=hcv 0 (by omega)
     rw[zC6,bv_get,zB1 hpos]at this
     simpa using this
    obtain⟨c1,a1,b1⟩:=id hl
    have hb3:b≠3:=fun e=>by
     rw[e,a1]at hb
     simp only[Option.some.injEq,Obj.cells.injEq]at hb
     rw[←hb.1]at hc0
     exact pow_nou8 b1 hc0
    obtain⟨H1,k1,k2,k3,k4,k5,k6⟩:=add_pow hr hl (fun _=>rfl) (fun n hn he=>by
     by_cases e:n=N
     ·subst e
      rw[show (enR n b off).blk n=b from if_pos rfl]at he
      exact absurd he hb3
     ·rw[enH_get e]at hn
      exact absurd rfl hn) (by rw[enH_next]; omega)
    have hbN:bk H1 N=some ⟨e',true,bv l⟩:=(bk_get (k6 N (by omega))).trans enH_bk
    subst hvl
    refine⟨_,H1,.slice (some ⟨N,0,some 0⟩) l.length cap,l,k1,by rw[k3,k2]; rfl,by rw[k4]; rfl,hval N,blt_of (by rw[k2,enH_next]; exact zC7 _),⟨by rw[hbl,zC5],.inr ⟨hpos,N,0,some 0,cap,e',true,bv l,rfl,rk_of hbN,by rw[k2,enH_next]; omega,by omega,?_⟩⟩,k5⟩
    rw[List.drop_zero]
    exact zD8 (by omega)
   ·exact hempty (by omega)
theorem law_callsB {K:Type} {enc:TypeId × Value→K} {f:FuncId} {W:World} {v:Value} {d:DataW K} {p:List MemPlace} {e:TypeId} (hl:LaidP W e) (post:List Value) (h2:post.all af=true) {base:Nat} (hok:Value.okWide Tryz.prog W .any base 23 v) (h:DataW.Trod enc Tryz.prog W 0 (fun _=>true) true 23 v d p) (hnf:W.noneFrozen p)
  (walk:∀ (u:Value) (l:List UInt8) (H:AHeap),H.base≤H.next→Pow H→RdAt H 1 u (bv l) l.length→scb H.next u=true→CallA Tryz.prog f (u::post) H fun out H1=>out=.ok (.bool true)∧Mod [] H H1) :
  Calls Tryz.prog f (v::post).toArray W (fun e w'=>e=.returned (.bool true)∧RowKit.Below W.heap.size W w'):=by
 obtain⟨ρ,H,u,l,hr,hb,hd,rfl,hs,hrd,ht⟩:=entryB hl hok h hnf
 have e1:post.map ρ.val=post:=map_af ρ post (fun x hx=>zB7.1 h2 x hx)
 have s1:scbL H.next post=true:=scbL_of_af _ (afL_of fun x hx=>zB7.1 h2 x hx)
 have:=rel_calls hr (args:=u::post) (by simp only[scbL,hs,s1,zD7]) hb hd (walk u l H (Nat.le_of_eq hb) ht hrd hs)
 rw[zB4,e1]at this
 exact this
set_option maxRecDepth 100000
theorem split_len (c:UInt8):∀ s,(splitR c s).length=Go.Lib.countByte s c+1
 |[]=>rfl
 |x::r=>by
  have:=split_len c r
  rw[splitR]
  unfold Go.Lib.countByte at this ⊢
  by_cases h:x=c
  ·subst h
   rw[if_pos rfl,List.count_cons_self,zA5,this]
  ·rw[if_neg h,List.count_cons_of_ne h]
   obtain⟨a,t,e⟩:=List.exists_cons_of_ne_nil (split_ne c r)
   rw[e]at this ⊢
   simpa using this
theorem split_one {c:UInt8} {s:List UInt8} (h:(splitR c s).length=1):splitR c s=[s]:=by
 obtain⟨a,t,e⟩:=List.exists_cons_of_ne_nil (split_ne c s)
 have hj:=split_join e
 rw[e,zA5]at h
 have:t=[]:=zE7 (by omega)
 subst this
 rw[e,hj]
 simp
theorem count_le (c:UInt8) (s:List UInt8):Go.Lib.countByte s c≤s.length:=List.count_le_length ..
def strV (l:List (List UInt8)):List Value:=l.map fun w=>.string (bs w)
def splV (ws:List (List UInt8)) (k:Nat):List Value:=strV ws++List.replicate k (.string .empty)
theorem splV_len (ws:List (List UInt8)) (k:Nat):(splV ws k).length=ws.length+k:=by simp[splV,strV]
theorem putL_mid:∀ (A L:List Value) (x v:Value),putL (A++x::L) A.length [v]=A++v::L
 |[],L,x,v=>by cases L<;>rfl
 |y::A,L,x,v=>by
  show y::putL (A++x::L) A.length [v]=_
  rw[putL_mid A L x v]
  rfl
theorem splV_put (ws:List (List UInt8)) (k:Nat) (w:List UInt8):putL (splV ws (k+1)) ws.length [.string (bs w)]=splV (ws++[w]) k:=by
 have hl:(strV ws).length=ws.length:=by simp[strV]
 rw[splV,List.replicate_succ,←hl,putL_mid]
 simp[splV,strV]
theorem zeros_rep (n:Nat):zerosL [.string .empty] n=splV [] n:=by
 have:∀ n,zerosL [.string .empty] n=List.replicate n (Value.string .empty):=fun n=>by
  induction n with
  |zero=>rfl
  |succ n ih=>rw[zerosL,ih,List.replicate_succ]; rfl
 rw[this]
 rfl
theorem rep_sc {N:Nat} (ws:List (List UInt8)) (n:Nat):scbL N (splV ws n)=true:=by
 rw[scbL_iff]
 intro v hv
 rcases zC1.1 hv with hv|hv
 ·obtain⟨w,_,rfl⟩:=zD4.1 hv
  rfl
 ·rw[(List.mem_replicate.1 hv).2]
  rfl
theorem u54':Tryz.prog.underlying 54=some (.slice 9):=by kernel_rfl
theorem s9':szOf Tryz.prog 9=some 1:=by kernel_rfl
theorem eqb_none {H:AHeap} {a b:ByteArray}:aBin Tryz.prog H .eql 9 (.string a) (.string b)=none:=by kernel_rfl
theorem eqb_bs (a b:List UInt8):((bs a).toList == (bs b).toList)=decide (a=b):=by
 have h1:∀ l:List UInt8,(bs l).toList=l:=fun l=>by rw[Go.Lib.toList_data]
 rw[h1,h1]
 by_cases h:a=b
 ·subst h; simp
 ·simp[h]
theorem mkS_c {H:AHeap} {L:List Bl} {n b:Nat} (hb:H.next=b) (hn:n≤1000000):aMakeSlice Tryz.prog (ext H L) 54 (.int .i64 (n:Int)) (.int .i64 (n:Int))=some (.slice (some ⟨b+L.length,0,some 0⟩) n n,ext H (L++[⟨9,false,splV [] n⟩])):=by
 have hy:bytesOf Tryz.prog 9=some 16:=by kernel_rfl
 have hz:zeroOf Tryz.prog 9=some (.string .empty):=by kernel_rfl
 have hsm:small n 16=true:=by simp only[small,zA4,zE1]; omega
 have hc:(Value.string .empty).cells.toList=[.string .empty]:=rfl
 simp only[aMakeSlice,u54',hy,s9',hz,zA1,zA3,zD0,hsm,hc,zeros_rep]
 rw[if_pos (by simp),new_ext (rep_sc _ _),zA3,ext_next,hb]
theorem genSplit_c (H:AHeap) (s:List UInt8) (hs:s.length≤900000) (hok:H.base≤H.next):CallA Tryz.prog 95 [.string (bs s),.string (bs [32]),.int .i64 0,.int .i64 (-1)] H (fun out X=>∃ x,H.next≤x∧x<X.next∧out=.ok (.slice (some ⟨x,0,some 0⟩) (splitR 32 s).length (splitR 32 s).length)∧bk X x=some ⟨9,false,strV (splitR 32 s)⟩∧Mod [] H X):=by
 obtain⟨b,hbn⟩:∃ b,H.next=b:=⟨_,rfl⟩
 have hbase:H.base≤b:=hbn▸hok
 have hz0:decide ((-1:Int)=0)=false:=by decide
 have hz1:decide ((-1:Int)<0)=true:=by decide
 have hc:=split_len 32 s
 have hcl:=count_le 32 s
 obtain⟨n,hn⟩:∃ n,(splitR 32 s).length=n:=⟨_,rfl⟩
 rw[hn]at hc ⊢
 refine callE_fn mixed Tryz.func95 rfl Tryz.ntmps95 (zB9 rfl) ?_
 simp (maxDischargeDepth:=6) only[hbn,hbase,hz0,ruW,putL,Nat.reduceLeDiff,xF,ruU,entryE,Nat.reduceLT,Nat.reduceAdd,Nat.reduceMul,Nat.reduceEqDiff]
 refine (w_eqStr (a:=bs [32]) (b:=bs []) (by simp only[ruU,entryE,Nat.reduceLT,Nat.reduceAdd,Nat.reduceMul,Nat.reduceEqDiff]) (by simp only[ruU,entryE,Nat.reduceLT,Nat.reduceAdd,Nat.reduceMul,Nat.reduceEqDiff]) (by simp only[ruU,entryE,Nat.reduceLT,Nat.reduceAdd,Nat.reduceMul,Nat.reduceEqDiff]) (by simp only[ruU,entryE,Nat.reduceLT,Nat.reduceAdd,Nat.reduceMul,Nat.reduceEqDiff]<;>rfl) (by decide) eqb_none).mpr ?_
 rw[eqb_bs,show decide (([32]:List UInt8)=[])=false from rfl]
 simp (maxDischargeDepth:=6) only[hbn,hbase,hz1,ruW,putL,Nat.reduceLeDiff,xF,ruU,entryE,Nat.reduceLT,Nat.reduceAdd,Nat.reduceMul,Nat.reduceEqDiff]
 refine (count_c (ext H []) (bs s) 32).to ?_
 have hw1:IntKind.i64.wrap ((Go.Lib.countByte (bs s).data.toList 32:Int)+1)=(n:Int):=by
  have e:((Go.Lib.countByte (bs s).data.toList 32:Int)+1)=(n:Int):=by
   show ((Go.Lib.countByte s 32:Int)+1)=(n:Int)
   omega
  rw[e]
  exact wrap_nat (by omega)
 have hw2:IntKind.i64.wrap ((s.length:Int)+1)=((s.length+1:Nat):Int):=wrap_succ (by omega)
 have hmin:min (n:Int) ((s.length+1:Nat):Int)=(n:Int):=by omega
 have hw3:IntKind.i64.wrap ((n:Int)-1)=((n-1:Nat):Int):=(wrap_sm (by omega) (by omega)).trans (by omega)
 simp (maxDischargeDepth:=6) only[hbn,hbase,hw1,hw2,hmin,hw3,rb_lenStr u9,bt_lenStr u9,bs_size,w_makeSlice,mkS_c (L:=[]) hbn (show n≤1000000 by omega),ruW,putL,Nat.reduceLeDiff,xF,ruU,entryE,Nat.reduceLT,Nat.reduceAdd,Nat.reduceMul,Nat.reduceEqDiff]
 refine w_env fun E hE=>?_
 have g0:E 0=.string (bs s):=by rw[hE]; simp only[ruU,entryE,Nat.reduceLT,Nat.reduceAdd,Nat.reduceMul,Nat.reduceEqDiff]
 have g1:E 1=.string (bs [32]):=by rw[hE]; simp only[ruU,entryE,Nat.reduceLT,Nat.reduceAdd,Nat.reduceMul,Nat.reduceEqDiff]
 have g2:E 2=.int .i64 0:=by rw[hE]; simp only[ruU,entryE,Nat.reduceLT,Nat.reduceAdd,Nat.reduceMul,Nat.reduceEqDiff]
 have g3:E 3=.int .i64 ((n-1:Nat):Int):=by rw[hE]; simp only[ruU,entryE,Nat.reduceLT,Nat.reduceAdd,Nat.reduceMul,Nat.reduceEqDiff]
 have g9:E 9=.slice (some ⟨b+0,0,some 0⟩) n n:=by rw[hE]; (simp only[ruU,entryE,Nat.reduceLT,Nat.reduceAdd,Nat.reduceMul,Nat.reduceEqDiff]<;>rfl)
 have g10:E 10=.int .i64 ((0:Nat):Int):=by rw[hE]; (simp only[ruU,entryE,Nat.reduceLT,Nat.reduceAdd,Nat.reduceMul,Nat.reduceEqDiff]<;>rfl)
 clear hE
 generalize hX0:ext H _=X0
 have m0:Mod [] H X0:=hX0▸Mod.ext hok
 have n0:b+1≤X0.next:=by rw[←hX0,ext_next,hbn]; simp
 have k0:bk X0 (b+0)=some ⟨9,false,splV [] n⟩:=by rw[←hX0,bk_at hbn (by simp)]; rfl
 clear hX0
 refine blockC_meet (fun E' X=>∃ ws t,Mod [] H X∧b+1≤X.next∧bk X (b+0)=some ⟨9,false,splV ws 1⟩∧ws++[t]=splitR 32 s∧E' 0=.string (bs t)∧E' 9=.slice (some ⟨b+0,0,some 0⟩) n n∧E' 10=.int .i64 (ws.length:Int)) ?_ ?_
 ·refine w_loop (fun (z:List (List UInt8) × List UInt8) E' X=>Mod [] H X∧b+1≤X.next∧bk X (b+0)=some ⟨9,false,splV z.1 (n-z.1.length)⟩∧z.1++splitR 32 z.2=splitR 32 s∧z.2.length≤s.length∧E' 0=.string (bs z.2)∧E' 1=.string (bs [32])∧E' 2=.int .i64 0∧E' 3=.int .i64 ((n-1:Nat):Int)∧E' 9=.slice (some ⟨b+0,0,some 0⟩) n n∧E' 10=.int .i64 (z.1.length:Int)) (fun z=>n-z.1.length) ([],s)
   ⟨m0,n0,k0,rfl,zA8 _,g0,g1,g2,g3,g9,g10⟩ ?_
  clear g0 g1 g2 g3 g9 g10 m0 n0 k0 X0 E
  rintro⟨ws,t⟩ E X ⟨m,nx,k,htot,htl,g0,g1,g2,g3,g9,g10⟩
  simp only at k htot htl g0 g10
  have hlen:=congrArg List.length htot
  rw[zB2,hn]at hlen
  have hpos:=List.length_pos_iff.2 (split_ne 32 t)
  obtain⟨x,hx⟩:∃ x,X.next=x:=⟨_,rfl⟩
  rw[hx]at nx
  have hbx:b+0<x:=by omega
  rw[show X=ext X [] from rfl]
  by_cases hie:ws.length=n-1
  ·have hd:decide ((ws.length:Int)<((n-1:Nat):Int))=false:=decide_eq_false (by omega)
   have h1:=split_one (c:=32) (s:=t) (by omega)
   rw[h1]at htot
   rw[show n-ws.length=1 by omega]at k
   simp (maxDischargeDepth:=6) only[g0,g1,g2,g3,g9,g10,hd,ruW,putL,Nat.reduceLeDiff,xF,ruU,entryE,Nat.reduceLT,Nat.reduceAdd,Nat.reduceMul,Nat.reduceEqDiff]
   refine joinR_normal ⟨ws,t,m,by rw[ext_nil,hx]; exact nx,k,htot,?_,?_,?_⟩<;>simp only[g0,g9,g10,ruU,entryE,Nat.reduceLT,Nat.reduceAdd,Nat.reduceMul,Nat.reduceEqDiff]
  ·have hd:decide ((ws.length:Int)<((n-1:Nat):Int))=true:=decide_eq_true (by omega)
   simp (maxDischargeDepth:=6) only[g0,g1,g2,g3,g9,g10,hd,ruW,putL,Nat.reduceLeDiff,xF,ruU,entryE,Nat.reduceLT,Nat.reduceAdd,Nat.reduceMul,Nat.reduceEqDiff]
   refine (index1_c (ext X []) (bs t) 32).to ?_
   obtain⟨i0,hi0⟩:∃ i0,Go.Lib.indexByte (bs t).data.toList 32=i0:=⟨_,rfl⟩
   rw[hi0]
   have hi0':Go.Lib.indexByte t 32=i0:=hi0
   by_cases hneg:i0<0
   ·have hge:=Go.Lib.indexByte_ge t 32
    have h1:=split_none (c:=32) (s:=t) (by omega)
    rw[h1,zC0]at hlen
    exact absurd (show ws.length=n-1 by omega) hie
   ·have hd2:decide (i0<0)=false:=decide_eq_false hneg
    obtain⟨i,rfl⟩:∃ i:Nat,i0=i:=⟨i0.toNat,by omega⟩
    obtain⟨hil,hsp⟩:=split_some hi0'
    have hw0:IntKind.i64.wrap ((i:Int)+0)=(i:Int):=(wrap_sm (by omega) (by omega)).trans (by omega)
    have hw1:IntKind.i64.wrap ((i:Int)+((1:Nat):Int))=((i+1:Nat):Int):=(wrap_sm (by omega) (by omega)).trans (by omega)
    have hw4:IntKind.i64.wrap ((ws.length:Int)+1)=((ws.length+1:Nat):Int):=wrap_succ (by omega)
    have s1:∀ G:AHeap,aSlice Tryz.prog G 9 (.string (bs t)) none (some (.int .i64 (i:Int))) none=some (.string (bs (t.take i)),G):=fun G=>sl_to (by omega)
    have s2:∀ G:AHeap,aSlice Tryz.prog G 9 (.string (bs t)) (some (.int .i64 ((i+1:Nat):Int))) none none=some (.string (bs (t.drop (i+1))),G):=fun G=>sl_from (by omega)
    have hia:aIndexAddr Tryz.prog 54 (.slice (some ⟨b+0,0,some 0⟩) n n) (.int .i64 (ws.length:Int))=some (.pointer (some ⟨b+0,0+ws.length*1,none⟩)):=ia_of u54' s9' (by omega)
    rw[zC5,zC9]at hia
    have hsb:0+ws.length+1≤(splV ws (n-ws.length)).length:=by rw[splV_len]; omega
    have hput:putL (splV ws (n-ws.length)) ws.length [.string (bs (t.take i))]=splV (ws++[t.take i]) (n-(ws.length+1)):=by
     rw[show n-ws.length=(n-(ws.length+1))+1 by omega]
     exact splV_put ws _ _
    have hle:ws.length+1≤(splV ws (n-ws.length)).length:=by rw[splV_len]; omega
    simp (maxDischargeDepth:=6) only[g0,g1,g2,g3,g9,g10,hd2,hx,hbx,k,hw0,hw1,hw4,s1,s2,hia,hle,w_slice,bnds_none,bnds_some,bndsOk_none,bndsOk_some,bs_size,rb_lenStr u9,bt_lenStr u9,ruW,putL,Nat.reduceLeDiff,xF,ruU,entryE,Nat.reduceLT,Nat.reduceAdd,Nat.reduceMul,Nat.reduceEqDiff]
    rw[hsp]at htot
    refine loopC_next ⟨(ws++[t.take i],t.drop (i+1)),by simp only[zB2,zC0]; omega,?_,?_,?_,by rw[zE6]; exact htot,by simp only[List.length_drop]; omega,?_,?_,?_,?_,?_,?_⟩
    ·exact m.step (W':=[b+0]) (Mod.uw (by simp)) hok fun q hq=>.inr (by simp only[zB0]at hq; omega)
    ·rw[ext_nil,uw_next,hx]; exact nx
    ·rw[ext_nil,bk_uw_eq,k,zB2,zC0,←hput]
     rfl
    all_goals simp only[g1,g2,g3,g9,zB2,zC0,ruU,entryE,Nat.reduceLT,Nat.reduceAdd,Nat.reduceMul,Nat.reduceEqDiff]
 ·clear g0 g1 g2 g3 g9 g10 m0 n0 k0 X0 E
  rintro E X ⟨ws,t,m,nx,k,htot,g0,g9,g10⟩
  have hlen:=congrArg List.length htot
  rw[zB2,hn,zC0]at hlen
  obtain⟨x,hx⟩:∃ x,X.next=x:=⟨_,rfl⟩
  rw[hx]at nx
  have hbx:b+0<x:=by omega
  rw[show X=ext X [] from rfl]
  have hw4:IntKind.i64.wrap ((ws.length:Int)+1)=(n:Int):=(wrap_succ (by omega)).trans (by omega)
  have hia:aIndexAddr Tryz.prog 54 (.slice (some ⟨b+0,0,some 0⟩) n n) (.int .i64 (ws.length:Int))=some (.pointer (some ⟨b+0,0+ws.length*1,none⟩)):=ia_of u54' s9' (by omega)
  rw[zC5,zC9]at hia
  have hle:ws.length+1≤(splV ws 1).length:=by rw[splV_len]; omega
  have hsl:∀ G:AHeap,aSlice Tryz.prog G 54 (.slice (some ⟨b+0,0,some 0⟩) n n) none (some (.int .i64 (n:Int))) none=some (.slice (some ⟨b+0,0,some 0⟩) n n,G):=fun G=>by
   have:=sl_exact (P:=Tryz.prog) (H:=G) (t:=54) (n:=b+0) (off:=0) (len:=n) (cap:=n) (lo:=none) (hi:=some (.int .i64 (n:Int))) (l:=0) (h:=n) u54' s9' rfl (by simp[bound]) (zA8 _) (zC2 _) (by omega)
   simpa using this
  simp (maxDischargeDepth:=6) only[g0,g9,g10,hx,hbx,k,hw4,hia,hle,hsl,w_slice,bnds_none,bnds_some,bndsOk_none,bndsOk_some,Tryz.results95,ruW,putL,Nat.reduceLeDiff,xF,ruU,entryE,Nat.reduceLT,Nat.reduceAdd,Nat.reduceMul,Nat.reduceEqDiff]
  refine⟨b,zA8 _,?_,rfl,?_,?_⟩
  ·omega
  ·show bk (uw X (b+0) ws.length _) (b+0)=_
   rw[bk_uw_eq,k,←htot]
   show some (putB _ _ _)=_
   rw[putB_eq,splV_put]
   simp[splV]
  ·exact m.step (W':=[b+0]) (Mod.uw (by simp)) hok fun q hq=>.inr (by simp only[zB0]at hq; omega)
theorem split_c (H:AHeap) (s:List UInt8) (hs:s.length≤900000) (hok:H.base≤H.next):CallA Tryz.prog 67 [.string (bs s),.string (bs [32])] H (fun out X=>∃ x,H.next≤x∧x<X.next∧out=.ok (.slice (some ⟨x,0,some 0⟩) (splitR 32 s).length (splitR 32 s).length)∧bk X x=some ⟨9,false,strV (splitR 32 s)⟩∧Mod [] H X):=by
 obtain⟨b,hbn⟩:∃ b,H.next=b:=⟨_,rfl⟩
 have hbase:H.base≤b:=hbn▸hok
 refine callE_fn mixed Tryz.func67 rfl Tryz.ntmps67 (zB9 rfl) ?_
 simp (maxDischargeDepth:=6) only[ruW,putL,Nat.reduceLeDiff,xF,ruU,entryE,Nat.reduceLT,Nat.reduceAdd,Nat.reduceMul,Nat.reduceEqDiff]
 refine (genSplit_c (ext H []) s hs hok).mono ?_
 rintro _ X ⟨x,h1,h2,rfl,h3,h4⟩
 rw[show X=ext X [] from rfl]
 simp (maxDischargeDepth:=6) only[Tryz.results67,ruW,putL,Nat.reduceLeDiff,xF,ruU,entryE,Nat.reduceLT,Nat.reduceAdd,Nat.reduceMul,Nat.reduceEqDiff]
 exact⟨x,h1,h2,rfl,h3,h4⟩
set_option maxRecDepth 100000
def LineOut (b:Nat) (s:List UInt8) (out:Out) (X:AHeap):Prop:=∃ v,out=.ok (.tuple #[.agg ⟨[.int .i64 0,.int .i64 (lineR s).1.op,v]⟩,.int .i64 (lineR s).2])∧ArgA X v (lineR s).1.args∧∀ n∈idsV v,b≤n
theorem int_app {X:AHeap} {v:Value} {l:List Int} {x:Nat} (h:ArgA X v l) (hx:X.next=x) (hb:X.base≤X.next) (hlen:l.length≤10000000) (n:Int) :
  ∃ G,aBuiltin Tryz.prog (ext X [⟨3,false,[.int .i64 n]⟩]) .append ⟨[35,35]⟩ [v,.slice (some ⟨x+0,0,some 0⟩) 1 1]=some (.slice (some ⟨x+1,0,none⟩) (l.length+1) (l.length+1),ext G [])∧ArgA G (.slice (some ⟨x+1,0,none⟩) (l.length+1) (l.length+1)) (l++[n])∧Mod (idsV v) X G∧G.next=x+2:=by
 have h2:VsAt (ext X [⟨3,false,[.int .i64 n]⟩]) 3 1 v (iv l) l.length:=VsAt.of h (by rw[ext_next]; omega) (fun n hn=>ext_get_old (h.ne n hn).2)
 have hk:bk (ext X [⟨3,false,[.int .i64 n]⟩]) (x+0)=some ⟨3,false,[.int .i64 n]⟩:=by rw[bk_at hx (by simp)]; rfl
 have hsm:small (l.length+1) 8=true:=by simp only[small,zA4,zE1]; omega
 have hsc:scbL (ext X [⟨3,false,[.int .i64 n]⟩]).next (iv l++[.int .i64 n])=true:=by
  rw[scbL_iff]
  intro v' hv'
  rcases zC1.1 hv' with hv'|hv'
  ·obtain⟨w',_,rfl⟩:=zD4.1 hv'; rfl
  ·rw[zB0]at hv'; rw[hv']; rfl
 obtain⟨G,k1,k2,k3,k4,_⟩:=vs_app (P:=Tryz.prog) (H:=ext X [⟨3,false,[.int .i64 n]⟩]) (st:=35) (xt:=35) (e:=3) (sz:=1) (by1:=8) (z:=.int .i64 0) (n:=x+0) (off:=0) (cnt2:=1) (cap:=1) (s:=some 0) (x:=x+1) (ws:=[.int .i64 n]) (b:=⟨3,false,[.int .i64 n]⟩)
  u35 s3 (by kernel_rfl) (by kernel_rfl) rfl (by kernel_rfl) h2 (rk_of hk) (by simp) rfl rfl (by decide) hsm (by rw[ext_next,hx]; rfl) hsc
 refine⟨G,k1,?_,(Mod.ext hb).trans (k3 ((Mod.ext (W:=[]) hb).ok hb)),k4⟩
 show VsAt G 3 1 _ (iv (l++[n])) (l++[n]).length
 rw[zB2,show iv (l++[n])=iv l++[.int .i64 n] by simp[iv]]
 exact k2
theorem sl_tail (w n:Nat) (hn:1≤n) (G:AHeap):aSlice Tryz.prog G 54 (.slice (some ⟨w,0,some 0⟩) n n) (some (.int .i64 1)) none none=some (.slice (some ⟨w,if n=1 then 0 else 0+1*1,some 0⟩) (n-1) (n-1),G):=by
 simp only[aSlice,u54',s9',aSlice2,bound,zA1,zA3,exactAt]
 rw[if_pos (by omega),zA3]
 rw[if_pos ⟨zA8 _,hn⟩]
 rfl
theorem rd_tail {G:AHeap} {w:Nat} {h:List UInt8} {t:List (List UInt8)} (hb:bk G w=some ⟨9,false,strV (h::t)⟩) (hl:w<G.next):RdAt G 1 (.slice (some ⟨w,if t.length+1=1 then 0 else 0+1*1,some 0⟩) t.length t.length) (strV t) t.length:=by
 have hs:(strV t).length=t.length:=by simp[strV]
 refine⟨by rw[hs,zC5],?_⟩
 by_cases h0:t.length=0
 ·exact .inl ⟨h0,_,_,by rw[h0]⟩
 ·refine .inr ⟨by omega,w,0+1*1,some 0,t.length,9,false,strV (h::t),?_,rk_of hb,hl,?_,?_⟩
  ·rw[if_neg (by omega)]
  ·simp[strV]; omega
  ·show ((strV t).take (t.length*1))=_
   exact zD8 (by omega)
theorem parse_c (H:AHeap) (s:List UInt8) (hs:s.length≤900000) (hok:H.base≤H.next):CallA Tryz.prog 42 [.string (bs s)] H (fun out X=>LineOut H.next s out X∧Mod [] H X):=by
 obtain⟨b,hbn⟩:∃ b,H.next=b:=⟨_,rfl⟩
 have hbase:H.base≤b:=hbn▸hok
 obtain⟨h,t,hht⟩:=List.exists_cons_of_ne_nil (split_ne 32 s)
 have hline:∀ r,lineR s=r→(lineR s).1=r.1∧(lineR s).2=r.2:=fun r e=>by rw[e]; exact⟨rfl,rfl⟩
 have hL:lineR s=(if opK h 28<0 then (⟨0,-1,[]⟩,5) else
   if (argsR t []).2≠0 then (⟨0,opK h 28,(argsR t []).1⟩,(argsR t []).2) else
   if (argsR t []).1.length<(kindsR (opK h 28).toNat []).length∨(argsR t []).1.length≠(kindsR (opK h 28).toNat (argsR t []).1).length then (⟨0,opK h 28,(argsR t []).1⟩,5) else
   (⟨0,opK h 28,(argsR t []).1⟩,0)):=by simp only[lineR,hht,List.headD_cons,List.tail_cons]
 refine callE_fn mixed Tryz.func42 rfl Tryz.ntmps42 (zB9 rfl) ?_
 rw[hbn]
 simp (maxDischargeDepth:=6) only[hbn,hbase,ruW,putL,Nat.reduceLeDiff,xF,ruU,entryE,Nat.reduceLT,Nat.reduceAdd,Nat.reduceMul,Nat.reduceEqDiff]
 have mH:Mod [] H (ext H [⟨59,false,[.int .i64 0,.int .i64 0,.slice none 0 0]⟩]):=Mod.ext hok
 refine (split_c (ext H [⟨59,false,[.int .i64 0,.int .i64 0,.slice none 0 0]⟩]) s hs (mH.ok hok)).mono ?_
 rintro _ X ⟨w,hw1,hw2,rfl,kw,m1⟩
 rw[ext_next,hbn,zC0]at hw1
 have mX:=mH.trans m1
 have kb:bk X (b+0)=some ⟨59,false,[.int .i64 0,.int .i64 0,.slice none 0 0]⟩:=(m1.bk (by rw[ext_next,hbn]; simp) (by simp)).trans (by rw[bk_at hbn (by simp)]; rfl)
 rw[hht]at kw ⊢
 obtain⟨n,hn⟩:∃ n,(h::t).length=n:=⟨_,rfl⟩
 have hnt:n=t.length+1:=by rw[←hn,zA5]
 rw[hn]
 obtain⟨x,hx⟩:∃ x,X.next=x:=⟨_,rfl⟩
 have hxb:X.base≤x:=hx▸mX.ok hok
 rw[hx]at hw2
 clear m1 mH
 rw[show X=ext X [] from rfl]
 simp (maxDischargeDepth:=6) only[hx,hxb,ruW,putL,Nat.reduceLeDiff,xF,ruU,entryE,Nat.reduceLT,Nat.reduceAdd,Nat.reduceMul,Nat.reduceEqDiff]
 obtain⟨Z,hZ⟩:∃ Z,ext X [⟨59,false,[.int .i64 0,.int .i64 (-1),.slice none 0 0]⟩]=Z:=⟨_,rfl⟩
 have mZ:Mod [] X Z:=hZ▸Mod.ext (by omega)
 have nZ:Z.next=x+1:=by rw[←hZ,ext_next,hx]; rfl
 have kZ:bk Z (x+0)=some ⟨59,false,[.int .i64 0,.int .i64 (-1),.slice none 0 0]⟩:=by rw[←hZ,bk_at hx (by simp)]; rfl
 rw[hZ]
 clear hZ
 have mHZ:=mX.trans mZ
 have kbZ:=(mZ.bk (by omega) (by simp)).trans kb
 have kwZ:=(mZ.bk (by omega) (by simp)).trans kw
 refine (names_c Z (mHZ.ok hok)).mono ?_
 rintro _ X2 ⟨nv,rfl,hnv,m2,hni⟩
 rw[nZ]at hni
 have n2:=m2.next
 rw[nZ]at n2
 have kx2:=(m2.bk (by omega) (by simp)).trans kZ
 have kb2:=(m2.bk (by omega) (by simp)).trans kbZ
 have kw2:=(m2.bk (by omega) (by simp)).trans kwZ
 have mH2:=mHZ.trans m2
 obtain⟨na,ena⟩:=hnv.len
 subst ena
 rw[show X2=ext X2 [] from rfl]
 simp (maxDischargeDepth:=6) only[ruW,putL,Nat.reduceLeDiff,xF,ruU,entryE,Nat.reduceLT,Nat.reduceAdd,Nat.reduceMul,Nat.reduceEqDiff]
 refine w_env fun E hE=>?_
 have g2:E 2=.pointer (some ⟨b+0,0,none⟩):=by rw[hE]; simp only[ruU,entryE,Nat.reduceLT,Nat.reduceAdd,Nat.reduceMul,Nat.reduceEqDiff]
 have g4:E 4=.slice (some ⟨w,0,some 0⟩) n n:=by rw[hE]; simp only[ruU,entryE,Nat.reduceLT,Nat.reduceAdd,Nat.reduceMul,Nat.reduceEqDiff]
 have g5:E 5=.pointer (some ⟨x+0,0,none⟩):=by rw[hE]; simp only[ruU,entryE,Nat.reduceLT,Nat.reduceAdd,Nat.reduceMul,Nat.reduceEqDiff]
 have g16:E 16=.slice na 28 28:=by rw[hE]; simp only[ruU,entryE,Nat.reduceLT,Nat.reduceAdd,Nat.reduceMul,Nat.reduceEqDiff]
 have g17:E 17=.int .i64 ((28:Nat):Int):=by rw[hE]; (simp only[ruU,entryE,Nat.reduceLT,Nat.reduceAdd,Nat.reduceMul,Nat.reduceEqDiff]<;>rfl)
 have g18:E 18=.int .i64 ((0:Nat):Int):=by rw[hE]; (simp only[ruU,entryE,Nat.reduceLT,Nat.reduceAdd,Nat.reduceMul,Nat.reduceEqDiff]<;>rfl)
 clear hE
 rw[ext_nil]
 have hnix:∀ q∈idsV (.slice na 28 28),q∉[x+0]:=fun q hq=>by have:=hni q hq; simp; omega
 refine blockC_meet (fun E' X'=>Mod [x+0] X2 X'∧bk X' (x+0)=some ⟨59,false,[.int .i64 0,.int .i64 (opK h 28),.slice none 0 0]⟩∧E' 2=.pointer (some ⟨b+0,0,none⟩)∧E' 4=.slice (some ⟨w,0,some 0⟩) n n∧E' 5=.pointer (some ⟨x+0,0,none⟩)) ?_ ?_
 ·refine w_loop (fun (i:Nat) E' X'=>Mod [x+0] X2 X'∧bk X' (x+0)=some ⟨59,false,[.int .i64 0,.int .i64 (opK h i),.slice none 0 0]⟩∧i≤28∧E' 2=.pointer (some ⟨b+0,0,none⟩)∧E' 4=.slice (some ⟨w,0,some 0⟩) n n∧E' 5=.pointer (some ⟨x+0,0,none⟩)∧E' 16=.slice na 28 28∧E' 17=.int .i64 ((28:Nat):Int)∧E' 18=.int .i64 (i:Int)) (fun i=>28-i) 0
   ⟨Mod.refl,kx2,by decide,g2,g4,g5,g16,g17,g18⟩ ?_
  clear g2 g4 g5 g16 g17 g18 E
  rintro i E X3 ⟨m3,k3,hi,g2,g4,g5,g16,g17,g18⟩
  obtain⟨y,hy⟩:∃ y,X3.next=y:=⟨_,rfl⟩
  have hyx:x+1≤y:=by have:=m3.next; omega
  have hxy:x+0<y:=by omega
  rw[show X3=ext X3 [] from rfl]
  by_cases hie:i=28
  ·have hd:decide ((i:Int)<((28:Nat):Int))=false:=decide_eq_false (by omega)
   simp (maxDischargeDepth:=6) only[g2,g4,g5,g16,g17,g18,hd,ruW,putL,Nat.reduceLeDiff,xF,ruU,entryE,Nat.reduceLT,Nat.reduceAdd,Nat.reduceMul,Nat.reduceEqDiff]
   rw[hie]at k3
   refine joinR_normal ⟨m3,k3,?_,?_,?_⟩<;>simp only[g2,g4,g5,ruU,entryE,Nat.reduceLT,Nat.reduceAdd,Nat.reduceMul,Nat.reduceEqDiff]
  ·have hil:i<28:=by omega
   have hd:decide ((i:Int)<((28:Nat):Int))=true:=decide_eq_true (by omega)
   have hnr:RdAt X3 1 (.slice na 28 28) nmV 28:=(hnv.of m3.next fun q hq=>m3.get q (hnv.ne q hq).2 (hnix q hq)).rd
   obtain⟨n',off',s',c',e',o',M',e3,n3',r3,m3'⟩:=hnr.one hil
   cases e3
   rw[nm_get hil]at m3'
   have i3:=ia_of (P:=Tryz.prog) (k:=.i64) (i:=i) (n:=n') (off:=off') (len:=28) (cap:=28) (s:=s') u54' s9' hil
   rw[zC5]at i3
   have i4:aIndexAddr Tryz.prog 54 (.slice (some ⟨w,0,some 0⟩) n n) (.int .i64 0)=some (.pointer (some ⟨w,0+0*1,none⟩)):=ia_of (i:=0) u54' s9' (by omega)
   have kw3:bk X3 w=some ⟨9,false,strV (h::t)⟩:=(m3.bk (by omega) (by simp; omega)).trans kw2
   have hwy:w<y:=by omega
   have hw0:(strV (h::t))[0+0*1]?=some (.string (bs h)):=rfl
   have hw:IntKind.i64.wrap ((i:Int)+1)=((i+1:Nat):Int):=wrap_succ (by omega)
   rw[hy]at n3'
   simp (maxDischargeDepth:=6) only[g2,g4,g5,g16,g17,g18,hd,i3,i4,n3',r3,m3',kw3,hwy,hw0,hy,qk_old,ruW,putL,Nat.reduceLeDiff,xF,ruU,entryE,Nat.reduceLT,Nat.reduceAdd,Nat.reduceMul,Nat.reduceEqDiff]
   refine (w_eqStr (a:=bs (nameR i)) (b:=bs h) (by simp only[ruU,entryE,Nat.reduceLT,Nat.reduceAdd,Nat.reduceMul,Nat.reduceEqDiff]) (by simp only[ruU,entryE,Nat.reduceLT,Nat.reduceAdd,Nat.reduceMul,Nat.reduceEqDiff]) (by simp only[ruU,entryE,Nat.reduceLT,Nat.reduceAdd,Nat.reduceMul,Nat.reduceEqDiff]) (by simp only[ruU,entryE,Nat.reduceLT,Nat.reduceAdd,Nat.reduceMul,Nat.reduceEqDiff]) (by decide) eqb_none).mpr ?_
   rw[eqb_bs]
   obtain⟨d,hdd⟩:∃ d,decide (nameR i=h)=d:=⟨_,rfl⟩
   cases d with
   |true =>
    have he:=of_decide_eq_true hdd
    simp (maxDischargeDepth:=6) only[g2,g4,g5,g16,g17,g18,hdd,hy,hxy,k3,hw,ruW,putL,Nat.reduceLeDiff,xF,ruU,entryE,Nat.reduceLT,Nat.reduceAdd,Nat.reduceMul,Nat.reduceEqDiff]
    refine loopC_next ⟨i+1,by omega,m3.trans (Mod.uw (by simp)),?_,by omega,?_,?_,?_,?_,?_,?_⟩
    ·rw[ext_nil,bk_uw_eq,k3,opK,if_pos he]; rfl
    all_goals simp only[g2,g4,g5,g16,g17,ruU,entryE,Nat.reduceLT,Nat.reduceAdd,Nat.reduceMul,Nat.reduceEqDiff]
   |false =>
    have he:=of_decide_eq_false hdd
    simp (maxDischargeDepth:=6) only[g2,g4,g5,g16,g17,g18,hdd,hw,ruW,putL,Nat.reduceLeDiff,xF,ruU,entryE,Nat.reduceLT,Nat.reduceAdd,Nat.reduceMul,Nat.reduceEqDiff]
    refine loopC_next ⟨i+1,by omega,m3,?_,by omega,?_,?_,?_,?_,?_,?_⟩
    ·rw[opK,if_neg he]; exact k3
    all_goals simp only[g2,g4,g5,g16,g17,ruU,entryE,Nat.reduceLT,Nat.reduceAdd,Nat.reduceMul,Nat.reduceEqDiff]
 clear g2 g4 g5 g16 g17 g18 E
 rintro E X3 ⟨m3,k3,g2,g4,g5⟩
 have kb3:=(m3.bk (by omega) (by simp; omega)).trans kb2
 have kw3:=(m3.bk (by omega) (by simp; omega)).trans kw2
 have mH3:Mod [] H X3:=mH2.step m3 hok fun q hq=>.inr (by simp only[zB0]at hq; omega)
 obtain⟨y,hy⟩:∃ y,X3.next=y:=⟨_,rfl⟩
 have hyx:x+1≤y:=by have:=m3.next; omega
 have hxy:x+0<y:=by omega
 have hby:b+0<y:=by omega
 clear m3 kx2 kb2 kw2 mH2 n2 m2 hnv hni hnix X2 kZ nZ mZ mHZ kbZ kwZ Z
 rw[show X3=ext X3 [] from rfl]
 by_cases hneg:opK h 28<0
 ·have hd:decide (opK h 28<0)=true:=decide_eq_true hneg
  have hm1:opK h 28=-1:=by have:=opK_ge h 28; omega
  rw[if_pos hneg]at hL
  simp (maxDischargeDepth:=6) only[g2,g4,g5,hy,hxy,hby,k3,kb3,hd,Tryz.results42,ruW,putL,Nat.reduceLeDiff,xF,ruU,entryE,Nat.reduceLT,Nat.reduceAdd,Nat.reduceMul,Nat.reduceEqDiff]
  refine⟨⟨.slice none 0 0,?_,by rw[hL]; exact VsAt.nil,fun q hq=>by simp[idsV]at hq⟩,mH3.step (W':=[b+0]) (Mod.uw (by simp)) hok fun q hq=>.inr (by simp only[zB0]at hq; omega)⟩
  rw[hL,hm1]
 ·have hd:decide (opK h 28<0)=false:=decide_eq_false hneg
  obtain⟨k,hk,hk28,hkn⟩:=opK_back (show 0≤opK h 28 by omega)
  rw[if_neg hneg]at hL
  rw[hk]at k3 hL hd
  rw[zD0]at hL
  have hsl:=sl_tail w n (by omega)
  obtain⟨tv,htv⟩:∃ tv,Value.slice (some ⟨w,if n=1 then 0 else 0+1*1,some 0⟩) (n-1) (n-1)=tv:=⟨_,rfl⟩
  have htr:∀ G:AHeap,bk G w=some ⟨9,false,strV (h::t)⟩→w<G.next→RdAt G 1 tv (strV t) t.length:=fun G g1 g2=>by
   rw[←htv,hnt]
   exact rd_tail g1 g2
  rw[htv]at hsl
  obtain⟨ta,tc,etv⟩:=(htr X3 kw3 (by omega)).sl
  rw[etv]at hsl
  simp (maxDischargeDepth:=6) only[g2,g4,g5,hy,hxy,hby,k3,kb3,hd,hsl,w_slice,bnds_none,bnds_some,bndsOk_none,bndsOk_some,ruW,putL,Nat.reduceLeDiff,xF,ruU,entryE,Nat.reduceLT,Nat.reduceAdd,Nat.reduceMul,Nat.reduceEqDiff]
  refine w_env fun E2 hE=>?_
  have h2:E2 2=.pointer (some ⟨b+0,0,none⟩):=by rw[hE]; simp only[g2,ruU,entryE,Nat.reduceLT,Nat.reduceAdd,Nat.reduceMul,Nat.reduceEqDiff]
  have h5:E2 5=.pointer (some ⟨x+0,0,none⟩):=by rw[hE]; simp only[g5,ruU,entryE,Nat.reduceLT,Nat.reduceAdd,Nat.reduceMul,Nat.reduceEqDiff]
  have h36:E2 36=tv:=by rw[hE,etv]; simp only[ruU,entryE,Nat.reduceLT,Nat.reduceAdd,Nat.reduceMul,Nat.reduceEqDiff]
  have h37:E2 37=.int .i64 (t.length:Int):=by rw[hE]; simp only[ruU,entryE,Nat.reduceLT,Nat.reduceAdd,Nat.reduceMul,Nat.reduceEqDiff]
  have h38:E2 38=.int .i64 ((0:Nat):Int):=by rw[hE]; (simp only[ruU,entryE,Nat.reduceLT,Nat.reduceAdd,Nat.reduceMul,Nat.reduceEqDiff]<;>rfl)
  clear hE g2 g4 g5 E
  rw[ext_nil]
  have htl:t.length≤900000:=by
   have h1:=split_len 32 s
   have h2:=count_le 32 s
   rw[hht,zA5]at h1
   omega
  refine blockC_meet (fun E' X'=>∃ a v,Mod [] H X'∧bk X' (b+0)=some ⟨59,false,[.int .i64 0,.int .i64 0,.slice none 0 0]⟩∧bk X' (x+0)=some ⟨59,false,[.int .i64 0,.int .i64 (k:Int),v]⟩∧x+1≤X'.next∧ArgA X' v a∧(∀ q∈idsV v,x+1≤q)∧argsR t []=(a,0)∧(∀ q∈a,0≤q∧q≤65535)∧a.length≤900000∧E' 2=.pointer (some ⟨b+0,0,none⟩)∧E' 5=.pointer (some ⟨x+0,0,none⟩)) ?_ ?_
  ·refine w_loop (fun (z:Nat × List Int × Value) E' X'=>Mod [] H X'∧bk X' (b+0)=some ⟨59,false,[.int .i64 0,.int .i64 0,.slice none 0 0]⟩∧bk X' w=some ⟨9,false,strV (h::t)⟩∧bk X' (x+0)=some ⟨59,false,[.int .i64 0,.int .i64 (k:Int),z.2.2]⟩∧x+1≤X'.next∧ArgA X' z.2.2 z.2.1∧(∀ q∈idsV z.2.2,x+1≤q)∧argsR (t.drop z.1) z.2.1=argsR t []∧(∀ q∈z.2.1,0≤q∧q≤65535)∧z.2.1.length=z.1∧z.1≤t.length∧E' 2=.pointer (some ⟨b+0,0,none⟩)∧E' 5=.pointer (some ⟨x+0,0,none⟩)∧E' 36=tv∧E' 37=.int .i64 (t.length:Int)∧E' 38=.int .i64 (z.1:Int)) (fun z=>t.length-z.1) (0,[],.slice none 0 0)
    ⟨mH3,kb3,kw3,k3,by omega,VsAt.nil,fun q hq=>by simp[idsV]at hq,rfl,fun q hq=>by simp at hq,rfl,zC2 _,h2,h5,h36,h37,h38⟩ ?_
   clear h2 h5 h36 h37 h38 mH3 kb3 kw3 k3 hxy hby hyx hy hsl E2
   rintro⟨j,a,v⟩ E X4 ⟨m4,kb4,kw4,k4,nx4,hv,hvi,hag,hsm,haj,hj,g2,g5,g36,g37,g38⟩
   simp only at k4 hv hvi hag hsm haj hj g38
   clear hxb hx kb kw mX X y X3
   obtain⟨y,hy⟩:∃ y,X4.next=y:=⟨_,rfl⟩
   have hyb:X4.base≤y:=hy▸m4.ok hok
   rw[hy]at nx4
   have hxy:x+0<y:=by omega
   have hby:b+0<y:=by omega
   obtain⟨va,ev⟩:=hv.len
   rw[show X4=ext X4 [] from rfl]
   by_cases hje:j=t.length
   ·have hd:decide ((j:Int)<(t.length:Int))=false:=decide_eq_false (by omega)
    rw[hje,List.drop_length]at hag
    simp (maxDischargeDepth:=6) only[g2,g5,g36,g37,g38,hd,ruW,putL,Nat.reduceLeDiff,xF,ruU,entryE,Nat.reduceLT,Nat.reduceAdd,Nat.reduceMul,Nat.reduceEqDiff]
    refine joinR_normal ⟨a,v,m4,kb4,k4,by rw[ext_nil,hy]; exact nx4,hv,hvi,hag.symm,hsm,by omega,?_,?_⟩<;>simp only[g2,g5,ruU,entryE,Nat.reduceLT,Nat.reduceAdd,Nat.reduceMul,Nat.reduceEqDiff]
   ·have hjl:j<t.length:=by omega
    have hd:decide ((j:Int)<(t.length:Int))=true:=decide_eq_true (by omega)
    have hrd:=htr X4 kw4 (by omega)
    rw[etv]at hrd g36
    obtain⟨n',off',s',c',e',o',M',e3,n3',r3,m3'⟩:=hrd.one hjl
    cases e3
    obtain⟨q,hq⟩:∃ q,t[j]=q:=⟨_,rfl⟩
    have hqs:(strV t)[j]?=some (.string (bs q)):=by rw[strV,List.getElem?_map,zB1 hjl,hq]; rfl
    rw[hqs]at m3'
    have i3:=ia_of (P:=Tryz.prog) (k:=.i64) (i:=j) (n:=n') (off:=off') (len:=t.length) (cap:=tc) (s:=s') u54' s9' hjl
    rw[zC5]at i3
    rw[hy]at n3'
    have hdr:t.drop j=q::t.drop (j+1):=by rw[List.drop_eq_getElem_cons hjl,hq]
    rw[hdr,argsR]at hag
    have hsv:scb y v=true:=hy▸VsAt.sc hv
    simp (maxDischargeDepth:=6) only[g2,g5,g36,g37,g38,hd,i3,n3',r3,m3',hy,qk_old,ruW,putL,Nat.reduceLeDiff,xF,ruU,entryE,Nat.reduceLT,Nat.reduceAdd,Nat.reduceMul,Nat.reduceEqDiff]
    refine (number_c (ext X4 []) q).to ?_
    obtain⟨m,e,hme⟩:∃ m e,numR q=(m,e):=⟨_,_,rfl⟩
    have hnb:e=0→0≤m∧m≤65535:=fun h=>by
     have:=(num_back (w:=q) (by rw[hme]; exact h)).2
     rw[hme]at this
     exact this
    rw[hme]at hag ⊢
    simp only at hag ⊢
    obtain⟨d,hdd⟩:∃ d,decide (¬e=0)=d:=⟨_,rfl⟩
    cases d with
    |true =>
     have he:=of_decide_eq_true hdd
     rw[if_neg he]at hag
     rw[←hag]at hL
     rw[if_pos he]at hL
     rw[ev]at k4 hsv
     simp (maxDischargeDepth:=6) only[g2,g5,g36,g37,g38,hdd,hy,hyb,hxy,hby,k4,kb4,hsv,joinR_ret,Tryz.results42,ruW,putL,Nat.reduceLeDiff,xF,ruU,entryE,Nat.reduceLT,Nat.reduceAdd,Nat.reduceMul,Nat.reduceEqDiff]
     refine⟨⟨v,?_,?_,fun q hq=>by have:=hvi q hq; omega⟩,m4.step (W':=[b+0]) (Mod.uw (by simp)) hok fun q hq=>.inr (by simp only[zB0]at hq; omega)⟩
     ·rw[hL,ev]
     ·rw[hL]
      exact hv.of (by rw[ext_nil,uw_next]; exact zA8 _) fun q hq=>uw_get (by have:=hvi q hq; omega)
    |false =>
     have he:=Decidable.of_not_not (of_decide_eq_false hdd)
     rw[if_pos he]at hag
     obtain⟨G,e1,vG,mG,nG⟩:=int_app hv hy (by omega) (by omega) m
     have kG:bk G (x+0)=some ⟨59,false,[.int .i64 0,.int .i64 (k:Int),v]⟩:=(mG.bk (by omega) (fun h=>by have:=hvi _ h; omega)).trans k4
     have kbG:=(mG.bk (by omega) (fun h=>by have:=hvi _ h; omega)).trans kb4
     have kwG:=(mG.bk (by omega) (fun h=>by have:=hvi _ h; omega)).trans kw4
     have mHG:Mod [] H G:=m4.step mG hok fun q hq=>.inr (by have:=hvi q hq; omega)
     have gx:x+0<y+2:=by omega
     have gx1:x+0<y+1:=by omega
     have hsG:scb (y+2) (.slice (some ⟨y+1,0,none⟩) (a.length+1) (a.length+1))=true:=by simp[scb]
     have hw:IntKind.i64.wrap ((j:Int)+1)=((j+1:Nat):Int):=wrap_succ (by omega)
     have kG':=kG
     rw[ev]at k4 hsv e1 kG'
     replace e1:aBuiltin Tryz.prog (ext X4 [⟨3,false,[.int .i64 m]⟩]) .append ⟨[35,35]⟩ [.slice va a.length a.length,.slice (some ⟨y+0,0,some 0⟩) 1 1]=some (.slice (some ⟨y+1,0,none⟩) (a.length+1) (a.length+1),ext G []):=e1
     simp (maxDischargeDepth:=6) only[g2,g5,g36,g37,g38,hdd,hy,hyb,hxy,hby,k4,kb4,hsv,e1,nG,gx,gx1,kG',hsG,hw,ruW,putL,Nat.reduceLeDiff,xF,ruU,entryE,Nat.reduceLT,Nat.reduceAdd,Nat.reduceMul,Nat.reduceEqDiff]
     refine loopC_next ⟨(j+1,a++[m],.slice (some ⟨y+1,0,none⟩) (a.length+1) (a.length+1)),by simp only; omega,mHG.step (W':=[x+0]) (Mod.uw (by simp)) hok fun q hq=>.inr (by simp only[zB0]at hq; omega),?_,?_,?_,by rw[ext_nil,uw_next,nG]; omega,?_,fun q hq=>by simp only[idsV,zB0]at hq; omega,hag,fun p hp=>?_,by simp only[zB2,zC0]; omega,by simp only; omega,?_,?_,?_,?_,?_⟩
     ·exact (bk_get (uw_get (by omega))).trans kbG
     ·exact (bk_get (uw_get (by omega))).trans kwG
     ·rw[ext_nil,bk_uw_eq,kG]; rfl
     ·exact ArgA.of vG (by rw[ext_nil,uw_next]; exact zA8 _) fun q hq=>uw_get (by simp only[idsV,zB0]at hq; omega)
     ·rcases zC1.1 hp with hp|hp
      ·exact hsm p hp
      ·rw[zB0]at hp
       rw[hp]
       exact hnb he
     ·simp only[g2,ruU,entryE,Nat.reduceLT,Nat.reduceAdd,Nat.reduceMul,Nat.reduceEqDiff]
     ·simp only[g5,ruU,entryE,Nat.reduceLT,Nat.reduceAdd,Nat.reduceMul,Nat.reduceEqDiff]
     ·simp only[g36,ruU,entryE,Nat.reduceLT,Nat.reduceAdd,Nat.reduceMul,Nat.reduceEqDiff]; exact etv.symm
     ·simp only[g37,ruU,entryE,Nat.reduceLT,Nat.reduceAdd,Nat.reduceMul,Nat.reduceEqDiff]
     ·simp only[ruU,entryE,Nat.reduceLT,Nat.reduceAdd,Nat.reduceMul,Nat.reduceEqDiff]
  ·clear h2 h5 h36 h37 h38 mH3 kb3 kw3 k3 hxy hby hyx hy hsl E2
   rintro E X4 ⟨a,v,m4,kb4,k4,nx4,hv,hvi,hag,hsm,hal,g2,g5⟩
   clear hxb hx kb kw mX X y X3
   rw[hag]at hL
   rw[if_neg (by simp)]at hL
   simp only at hL
   obtain⟨y,hy⟩:∃ y,X4.next=y:=⟨_,rfl⟩
   have hyb:X4.base≤y:=hy▸m4.ok hok
   rw[hy]at nx4
   have hxy:x+0<y:=by omega
   have hby:b+0<y:=by omega
   obtain⟨va,ev⟩:=hv.len
   have hsv:scb y v=true:=hy▸VsAt.sc hv
   rw[show X4=ext X4 [] from rfl]
   have hvX:=hv.rd
   simp only[w_seq]
   refine w_drawB [(3,0),(4,0),(5,0)] [] (by kernel_rfl) (by kernel_rfl) rfl fun ops anc hA hG=>?_
   simp only[all2_cons]at hA
   simp (maxDischargeDepth:=6) only[g2,g5,hy,hyb,hA,ruD,ruW,putL,Nat.reduceLeDiff,xF,ruU,entryE,Nat.reduceLT,Nat.reduceAdd,Nat.reduceMul,Nat.reduceEqDiff]
   refine genV_ext (v:=.agg ⟨shV y⟩) (M:=shB y) [] (by simp only[ruU,entryE,Nat.reduceLT,Nat.reduceAdd,Nat.reduceMul,Nat.reduceEqDiff]) (by kernel_rfl) (by decide) (by simp) (fun G hG _=>?_) (by simp[Meets]) ?_
   ·have:=shapes_c G
    rw[hG,ext_next,zB8,zC3,hy]at this
    simp only[ruU,entryE,Nat.reduceLT,Nat.reduceAdd,Nat.reduceMul,Nat.reduceEqDiff]
    exact this
   obtain⟨f,ca,Fk,hkv,hkb,hkF,hkc⟩:=kinds_c y k hk28
   have hix:=ix114 hk28 (sh_name hk28) hkv
   have sX:ShAt (ext (ext X4 []) (shB y)) y:=by
    have:=ShAt.new (H:=ext X4 []) (L:=[])
    rw[ext_nil,ext_nil,hy]at this
    exact this
   have mX5:Mod [] X4 (ext (ext X4 []) (shB y)):=Mod.ext (H:=ext X4 []) (by rw[ext_nil,hy]; exact hyb)
   have nX5:(ext (ext X4 []) (shB y)).next=y+27:=by rw[ext_next,ext_nil,hy]; rfl
   generalize hX5:ext (ext X4 []) (shB y)=X5 at sX mX5 nX5 ⊢
   clear hX5
   have k5:=(mX5.bk (by omega) (by simp)).trans k4
   have kb5:=(mX5.bk (by omega) (by simp)).trans kb4
   have hv5:ArgA X5 v a:=hv.of mX5.next fun q hq=>mX5.get q (hv.ne q hq).2 (by simp)
   have mH5:=m4.trans mX5
   have x5b:X5.base≤y+27:=nX5▸mH5.ok hok
   have hsv5:scb (y+27) v=true:=scb_mono (by omega) _ hsv
   have hxy5:x+0<y+27:=by omega
   have hby5:b+0<y+27:=by omega
   have hk5:=k5
   rw[ev]at k5 hsv5
   have fin:∀ vs e,lineR s=(⟨0,k,a⟩,e)→LineOut b s (.ok (.tuple ⟨[.agg ⟨[.int .i64 0,.int .i64 (k:Int),.slice va a.length a.length]⟩,.int .i64 e]⟩)) (ext (uw X5 (b+0) 0 vs) [])∧Mod [] H (ext (uw X5 (b+0) 0 vs) []):=fun vs e he=>by
    refine⟨⟨v,?_,?_,fun q hq=>by have:=hvi q hq; omega⟩,mH5.step (W':=[b+0]) (Mod.uw (by simp)) hok fun q hq=>.inr (by simp only[zB0]at hq; omega)⟩
    ·rw[he,ev]
    ·rw[he]
     exact hv5.of (by rw[ext_nil,uw_next]; exact zA8 _) fun q hq=>uw_get (by have:=hvi q hq; omega)
   rw[show X5=ext X5 [] from rfl]
   have e0:(ext X4 []).next=y:=by rw[ext_nil,hy]
   rw[e0]
   have hxy0:x+0<y:=hxy
   simp (maxDischargeDepth:=6) only[g2,g5,nX5,k5,hxy5,hxy0,hix,hA,qk_old,ruD,ruW,putL,Nat.reduceLeDiff,xF,ruU,entryE,Nat.reduceLT,Nat.reduceAdd,Nat.reduceMul,Nat.reduceEqDiff]
   refine w_drawB [] [(7,70)] (by kernel_rfl) (by kernel_rfl) (by kernel_rfl) fun ops2 anc2 hA2 hG2=>?_
   simp only[all2_cons]at hG2
   simp (maxDischargeDepth:=6) only[g2,g5,nX5,k5,hxy5,hG2,qk_old,ruD,ruW,putL,Nat.reduceLeDiff,xF,ruU,entryE,Nat.reduceLT,Nat.reduceAdd,Nat.reduceMul,Nat.reduceEqDiff]
   have hFk:∀ q∈Fk,(ext X5 []).get q≠none:=fun q hq=>by
    have hkk:=hkF q hq
    obtain⟨j,rfl⟩:∃ j,q=y+j:=⟨q-y,by omega⟩
    exact bk_ne (sX j _ (zB1 (by simp[shB]; omega))).1
   have hsh:∀ G:AHeap,G.next=X5.next→(∀ q∈Fk,G.get q=X5.get q)→∀ i b',(shB y)[i]?=some b'→y+i∈Fk→bk G (y+i)=some b'∧y+i<G.next:=fun G hG hg i b' h1 h2=>by
    obtain⟨h3,h4⟩:=sX i b' h1
    exact⟨(bk_get (hg _ h2)).trans h3,by rw[hG]; exact h4⟩
   have hc0:cntR k []≤1000000:=by have:=cntR_small (op:=k) (args:=[]) (fun x hx=>by simp at hx); omega
   have hca:cntR k a≤1000000:=by have:=cntR_small (op:=k) hsm; omega
   refine genV_quietV (v:=.string ⟨(kindsR k []).toArray⟩) (ca:=ca) Fk (by simp only[ruU,entryE,Nat.reduceLT,Nat.reduceAdd,Nat.reduceMul,Nat.reduceEqDiff]) (by simp only[ruU,entryE,Nat.reduceLT,Nat.reduceAdd,Nat.reduceMul,Nat.reduceEqDiff]) (by simp only[ruU,entryE,Nat.reduceLT,Nat.reduceAdd,Nat.reduceMul,Nat.reduceEqDiff]) hkb (by decide) hFk (fun G hG hg=>by simp only[ruU,entryE,Nat.reduceLT,Nat.reduceAdd,Nat.reduceMul,Nat.reduceEqDiff]; exact hkc G _ [] (hsh G hG hg) RdAt.nil hc0) (by simp[Meets]) ?_
   have hks:∀ a,(⟨(kindsR k a).toArray⟩:ByteArray).size=(kindsR k a).length:=fun _=>rfl
   obtain⟨d1,hd1⟩:∃ d1,decide ((a.length:Int)<((kindsR k []).length:Int))=d1:=⟨_,rfl⟩
   cases d1 with
   |true =>
    have h1:=of_decide_eq_true hd1
    rw[if_pos (.inl (by omega))]at hL
    simp (maxDischargeDepth:=6) only[g2,g5,nX5,x5b,k5,kb5,hsv5,hxy5,hby5,hG2,rb_lenStr u9,hks,hd1,qk_old,Tryz.results42,ruD,ruW,putL,Nat.reduceLeDiff,xF,ruU,entryE,Nat.reduceLT,Nat.reduceAdd,Nat.reduceMul,Nat.reduceEqDiff]
    exact fin _ _ hL
   |false =>
    have h1:=of_decide_eq_false hd1
    simp (maxDischargeDepth:=6) only[g2,g5,nX5,k5,hxy5,hG2,rb_lenStr u9,hks,hd1,qk_old,ruD,ruW,putL,Nat.reduceLeDiff,xF,ruU,entryE,Nat.reduceLT,Nat.reduceAdd,Nat.reduceMul,Nat.reduceEqDiff]
    have hFr:∀ q∈rdF (.slice va a.length a.length) a.length++Fk,(ext X5 []).get q≠none:=fun q hq=>by
     rcases zC1.1 hq with hq|hq
     ·rw[←ev]at hq
      exact (hv5.rd.ne q hq).1
     ·exact hFk q hq
    refine genV_quietV (v:=.string ⟨(kindsR k a).toArray⟩) (ca:=ca) (rdF (.slice va a.length a.length) a.length++Fk) (by simp only[ruU,entryE,Nat.reduceLT,Nat.reduceAdd,Nat.reduceMul,Nat.reduceEqDiff]) (by simp only[ruU,entryE,Nat.reduceLT,Nat.reduceAdd,Nat.reduceMul,Nat.reduceEqDiff]) (by simp only[ruU,entryE,Nat.reduceLT,Nat.reduceAdd,Nat.reduceMul,Nat.reduceEqDiff]) hkb (by decide) hFr (fun G hG hg=>by
     simp only[ruU,entryE,Nat.reduceLT,Nat.reduceAdd,Nat.reduceMul,Nat.reduceEqDiff]
     rw[←ev]
     exact hkc G v a (hsh G hG fun q hq=>hg q (List.mem_append_right _ hq)) (hv5.rd.of (Nat.le_of_eq hG.symm) fun q hq=>hg q (List.mem_append_left _ (by rw[←ev]; exact hq))) hca) (by simp[Meets]) ?_
    obtain⟨d2,hd2⟩:∃ d2,decide (¬(a.length:Int)=((kindsR k a).length:Int))=d2:=⟨_,rfl⟩
    cases d2 with
    |true =>
     have h2:=of_decide_eq_true hd2
     rw[if_pos (.inr (by omega))]at hL
     simp (maxDischargeDepth:=6) only[g2,g5,nX5,x5b,k5,kb5,hsv5,hxy5,hby5,hG2,rb_lenStr u9,hks,hd2,qk_old,Tryz.results42,ruD,ruW,putL,Nat.reduceLeDiff,xF,ruU,entryE,Nat.reduceLT,Nat.reduceAdd,Nat.reduceMul,Nat.reduceEqDiff]
     exact fin _ _ hL
    |false =>
     have h2:=of_decide_eq_false hd2
     rw[if_neg (by omega)]at hL
     simp (maxDischargeDepth:=6) only[g2,g5,nX5,x5b,k5,kb5,hsv5,hxy5,hby5,hG2,rb_lenStr u9,hks,hd2,qk_old,Tryz.results42,ruD,ruW,putL,Nat.reduceLeDiff,xF,ruU,entryE,Nat.reduceLT,Nat.reduceAdd,Nat.reduceMul,Nat.reduceEqDiff]
     exact fin _ _ hL
set_option maxRecDepth 100000
theorem args_len:∀ (ws:List (List UInt8)) (a:List Int),(argsR ws a).1.length≤a.length+ws.length
 |[],a=>by simp[argsR]
 |w::r,a=>by
  rw[argsR]
  split
  ·have:=args_len r (a++[(numR w).1])
   simp only[zB2,zA5,zB8]at *
   omega
  ·simp
theorem line_len (b:List UInt8):(lineR b).1.args.length≤b.length:=by
 have h1:=split_len 32 b
 have h2:=count_le 32 b
 have h3:=args_len (splitR 32 b).tail []
 simp only[List.length_tail,zB8]at h3
 unfold lineR
 split
 ·simp
 ·split
  ·simp only; omega
  ·split<;>(simp only; omega)
def outP (rs:List (List UInt8)):List UInt8:=rs.flatMap fun r=>encB (lineR (ownR r)).1
def errP (r:List UInt8):Int:=if Go.Lib.hasSuffix r [10]=false then 5 else (lineR (ownR r)).2
def preP (r:List UInt8):Prop:=r.length≤20000
theorem own_len (r:List UInt8):(ownR r).length≤r.length:=by
 unfold ownR Go.Lib.trimSuffix
 split
 ·rw[List.length_take]; omega
 ·exact zA8 _
theorem enc_len1 (x:Ins):(encB x).length=1+2*x.args.length:=by
 have:∀ l:List Int,(l.flatMap aB).length=2*l.length:=fun l=>by
  induction l with
  |nil=>rfl
  |cons a q ih=>rw[zC4,zB2,ih]; simp only[aB,zA5,zB8]; omega
 rw[encB_eq,zA5,this]
 omega
def lpP (asg bod:Code) (d:Nat):Loop:={state:=.ready,pending:=none,fn:=0,tmps:=#[],params:=⟨[15]⟩,assign:=asg,body:=bod,defers:=d}
def ParInv (l p:Nat) (lp:Loop) (e:RV) (rs:List (List UInt8)) (F W:List Nat) (G:AHeap):Prop :=
 p+3<l∧l<G.next∧bk G (p+0)=some ⟨23,false,[.slice none 0 0]⟩ ∧
 ((∃ rs0 v br,rs0.all goP=true∧((br=false∧rs=rs0)∨(br=true∧rs=rs0++[[]]))∧F=(p+0)::(p+1)::(p+2)::(p+3)::l::idsV v∧W=F∧LoopAt G l (if br then {lp with state:=.done,pending:=some (.exit 0)} else lp) e∧bk G (p+1)=some ⟨26,false,[.int .i64 0,.int .i64 0]⟩∧bk G (p+2)=some ⟨23,false,[v]⟩∧bk G (p+3)=some ⟨3,false,[.int .i64 (rs0.length:Int)]⟩∧VsAt G 5 1 v (bv (outP rs0)) (outP rs0).length∧(outP rs0).length≤rs0.length*40001∧∀ n∈idsV v,p+3<n∧n≠l)
 ∨ (∃ r rs0,rs=rs0++[r]∧rs0.all goP=true∧r≠[]∧goP r=false∧F=[p+0,p+1,l]∧W=F∧LoopAt G l {lp with state:=.done,pending:=some .ret} e∧bk G (p+1)=some ⟨26,false,[.int .i64 (errP r),.int .i64 (rs0.length:Int)]⟩))
def ParR (l p:Nat) (lp:Loop) (e:RV) (rs:List (List UInt8)) (r:List UInt8) (F W:List Nat) (G:AHeap):Out→AHeap→Prop:=fun out G'=>out=.ok (.bool (goP r))∧∃ F' W',ParInv l p lp e (rs++[r]) F' W' G'∧Mod W G G'∧(∀ n∈F',n∈F∨G.next≤n)∧(∀ n∈W',n∈W∨G.next≤n)
abbrev parF (p l:Nat) (v:Value):List Nat:=(p+0)::(p+1)::(p+2)::(p+3)::l::idsV v
theorem par_ret {l p:Nat} {lp:Loop} {e:RV} {rs:List (List UInt8)} {r:List UInt8} {v:Value} {G K:AHeap} {L:List Bl} {a:AAct} {er:Int} (hpl:p+3<l) (hll:l<G.next) (hok:G.base≤G.next) (m:Mod (parF p l v) G K)
  (k0:bk K (p+0)=some ⟨23,false,[.slice none 0 0]⟩) (k1:bk K (p+1)=some ⟨26,false,[.int .i64 0,.int .i64 0]⟩) (hl:LoopAt K l {lp with state:=.busy} e) (hall:rs.all goP=true) (hne:r≠[]) (hg:goP r=false) (he:errP r=er) :
  rndC l (ParR l p lp e rs r (parF p l v) (parF p l v) G) .ret a (ext (uw (uw K (p+0) 0 [.slice none 0 0]) (p+1) 0 [.int .i64 er,.int .i64 (rs.length:Int)]) L):=by
 rw[rndC_ret]
 have nK:=m.next
 generalize hG2:uw K (p+0) 0 _=G2
 have mG2:Mod [p+0,p+1,l] K G2:=hG2▸Mod.uw (by simp)
 have n2:G2.next=K.next:=by rw[←hG2,uw_next]
 have d0:bk G2 (p+0)=some ⟨23,false,[.slice none 0 0]⟩:=by rw[←hG2,bk_uw_eq,k0]; rfl
 have d1:bk G2 (p+1)=some ⟨26,false,[.int .i64 0,.int .i64 0]⟩:=by rw[←hG2,bk_uw_ne (by omega),k1]
 have hl2:LoopAt G2 l _ e:=hl.of (hG2▸uw_get (by omega))
 generalize hG3:uw G2 (p+1) 0 _=G3
 have mG3:Mod [p+0,p+1,l] G2 G3:=hG3▸Mod.uw (by simp)
 have n3:G3.next=K.next:=by rw[←hG3,uw_next,n2]
 have e0:bk G3 (p+0)=some ⟨23,false,[.slice none 0 0]⟩:=by rw[←hG3,bk_uw_ne (by omega),d0]
 have e1:bk G3 (p+1)=some ⟨26,false,[.int .i64 er,.int .i64 (rs.length:Int)]⟩:=by rw[←hG3,bk_uw_eq,d1]; rfl
 have hl3:LoopAt G3 l _ e:=hl2.of (hG3▸uw_get (by omega))
 refine⟨_,_,(hl3.of (ext_get_old (by omega))).get,by rw[hg],[p+0,p+1,l],[p+0,p+1,l],?_⟩
 rw[ext_setLoop (by omega)]
 generalize hG4:setLoop G3 l _ _=G4
 have mG4:Mod [p+0,p+1,l] G3 G4:=hG4▸Mod.upd (by simp)
 have n4:G4.next=K.next:=by rw[←hG4,setLoop_next,n3]
 have hl4:LoopAt G4 l _ e:=hG4▸LoopAt.set l _ _
 have kk:∀ n,n<l→bk G4 n=bk G3 n:=fun n hn=>hG4▸bk_setLoop (by omega)
 have mA:Mod (parF p l v) G G4:=m.trans (((mG2.trans mG3).trans mG4).mono (by simp[parF]))
 refine⟨⟨hpl,by rw[ext_next,n4]; omega,(bk_old (by omega)).trans ((kk _ (by omega)).trans e0),.inr ⟨r,rs,rfl,hall,hne,hg,rfl,rfl,hl4.of (ext_get_old (by omega)),(bk_old (by omega)).trans ((kk _ (by omega)).trans (by rw[he]; exact e1))⟩⟩,mA.trans (Mod.ext (mA.ok hok)),fun n hn=>?_,fun n hn=>?_⟩
 all_goals
  simp only[parF,zA7,zD6,or_false]at hn ⊢
  omega
theorem par_step {asg bod:Code} (hab:some (asg,bod)=Tryz.f12.body.bind rangeOf) {l p d:Nat} {E:Env} (g2:E 2=.pointer (some ⟨p+0,0,none⟩)) (g3:E 3=.pointer (some ⟨p+1,0,none⟩)) (g4:E 4=.pointer (some ⟨p+2,0,none⟩)) (g5:E 5=.pointer (some ⟨p+3,0,none⟩)) {rs:List (List UInt8)} {F W:List Nat} {G:AHeap} {r:List UInt8}
  (hI:ParInv l p (lpP asg bod d) (rvOf 73 E) rs F W G) (hgo:∀ x∈rs,goP x=true) (hcap:rs.length<20010) (hok:G.base≤G.next) (hr:preP r) :
  CallY Tryz.prog l (encS r) G (ParR l p (lpP asg bod d) (rvOf 73 E) rs r F W G):=by
 obtain⟨hpl,hll,h0,⟨rs0,v,br,hall,hrs,rfl,rfl,hl,h1,h2,h3,hv,hvl,hvi⟩|⟨r',rs0,rfl,_,_,hr',_⟩⟩:=hI
 rotate_left
 ·have:=hgo r' (by simp)
  rw[hr']at this
  cases this
 rcases hrs with⟨rfl,rfl⟩|⟨rfl,rfl⟩
 rotate_left
 ·have:=hgo [] (by simp)
  cases this
 simp only[zB5,if_false]at hl
 have hrl:r.length≤20000:=hr
 obtain⟨x,hx⟩:∃ x,G.next=x:=⟨_,rfl⟩
 have hxb:G.base≤x:=hx▸hok
 obtain⟨vv,ev⟩:=hv.len
 refine callY_of (H:=ext G []) (N:=73) (E:=E) mixed hl rfl (zip_one (by decide)) ?_
 have hb2:Tryz.f12.body.bind rangeOf=some (_,_):=rfl
 cases hab.trans hb2
 simp (maxDischargeDepth:=6) only[hx,hxb,ruW,putL,Nat.reduceLeDiff,xF,ruU,entryE,Nat.reduceLT,Nat.reduceAdd,Nat.reduceMul,Nat.reduceEqDiff]
 clear hab hb2
 rw[asgC_normal]
 refine⟨_,_,(hl.of (ext_get_old hll)).get,rfl,?_⟩
 rw[ext_setLoop hll]
 generalize hG1:setLoop G l _ _=G1
 have mG1:Mod ((p+0)::(p+1)::(p+2)::(p+3)::l::idsV v) G G1:=hG1▸Mod.upd (by simp)
 have n1:G1.next=x:=by rw[←hG1,setLoop_next,hx]
 have xb1:G1.base≤x:=by rw[←hG1,setLoop_base]; exact hxb
 have c0:bk G1 (p+0)=_:=(hG1▸bk_setLoop (by omega):bk G1 (p+0)=bk G (p+0)).trans h0
 have c1:bk G1 (p+1)=_:=(hG1▸bk_setLoop (by omega):bk G1 (p+1)=bk G (p+1)).trans h1
 have c2:bk G1 (p+2)=_:=(hG1▸bk_setLoop (by omega):bk G1 (p+2)=bk G (p+2)).trans h2
 have c3:bk G1 (p+3)=_:=(hG1▸bk_setLoop (by omega):bk G1 (p+3)=bk G (p+3)).trans h3
 have hl1:LoopAt G1 l _ (rvOf 73 E):=hG1▸LoopAt.set l _ _
 have hv1:VsAt G1 5 1 v (bv (outP rs)) (outP rs).length:=hv.of (Nat.le_of_eq (by rw[n1,hx])) fun n hn=>hG1▸setLoop_get (hvi n hn).2
 have y0:p+0<x:=by omega
 have y1:p+1<x:=by omega
 have y2:p+2<x:=by omega
 have y3:p+3<x:=by omega
 have hnl:∀ n,n≤p+3→n∉idsV v:=fun n hn h=>by have:=hvi n h; omega
 have hll5:l∉idsV v:=fun h=>(hvi l h).2 rfl
 have hvl1:∀ n∈idsV v,n<x:=fun n hn=>hx▸(hv.ne n hn).2
 simp (maxDischargeDepth:=6) only[ruW,putL,Nat.reduceLeDiff,xF,ruU,entryE,Nat.reduceLT,Nat.reduceAdd,Nat.reduceMul,Nat.reduceEqDiff]
 refine (w_eqStr (a:=bs r) (b:=bs []) (by simp only[ruU,entryE,Nat.reduceLT,Nat.reduceAdd,Nat.reduceMul,Nat.reduceEqDiff]) (by simp only[ruU,entryE,Nat.reduceLT,Nat.reduceAdd,Nat.reduceMul,Nat.reduceEqDiff]) (by simp only[ruU,entryE,Nat.reduceLT,Nat.reduceAdd,Nat.reduceMul,Nat.reduceEqDiff]) (by simp only[ruU,entryE,Nat.reduceLT,Nat.reduceAdd,Nat.reduceMul,Nat.reduceEqDiff]<;>rfl) (by decide) eqb_none).mpr ?_
 rw[eqb_bs]
 by_cases hr0:r=[]
 ·rw[show decide (r=[])=true from decide_eq_true hr0]
  simp (maxDischargeDepth:=6) only[blockC_other (show (0:Nat)≠1 by decide),ruW,putL,Nat.reduceLeDiff,xF,ruU,entryE,Nat.reduceLT,Nat.reduceAdd,Nat.reduceMul,Nat.reduceEqDiff]
  rw[rndC_exit]
  have hgr:goP r=false:=by rw[hr0]; rfl
  refine⟨_,_,(hl1.of (G:=ext G1 []) rfl).get,by rw[hgr],parF p l v,parF p l v,?_⟩
  rw[ext_setLoop (by omega)]
  generalize hG2:setLoop G1 l _ _=G2
  have mG2:Mod (parF p l v) G1 G2:=hG2▸Mod.upd (by simp[parF])
  have n2:G2.next=x:=by rw[←hG2,setLoop_next,n1]
  have hl2:LoopAt G2 l _ (rvOf 73 E):=hG2▸LoopAt.set l _ _
  have kk:∀ n,n<l→bk G2 n=bk G1 n:=fun n hn=>hG2▸bk_setLoop (by omega)
  rw[ext_nil]
  refine⟨⟨hpl,by omega,(kk _ (by omega)).trans c0,.inl ⟨rs,v,true,hall,.inr ⟨rfl,by rw[hr0]⟩,rfl,rfl,?_,(kk _ (by omega)).trans c1,(kk _ (by omega)).trans c2,(kk _ (by omega)).trans c3,hv1.of (Nat.le_of_eq (by rw[n2,n1])) fun n hn=>hG2▸setLoop_get (hvi n hn).2,hvl,hvi⟩⟩,mG1.trans mG2,fun n hn=>.inl hn,fun n hn=>.inl hn⟩
  exact hl2
 rw[show decide (r=[])=false from decide_eq_false hr0]
 simp (maxDischargeDepth:=6) only[ruW,putL,Nat.reduceLeDiff,xF,ruU,entryE,Nat.reduceLT,Nat.reduceAdd,Nat.reduceMul,Nat.reduceEqDiff]
 refine (cutSuffix_c (ext G1 []) (bs r) ⟨#[10]⟩ (by rw[bs_size]; omega)).to ?_
 obtain⟨o,ho⟩:∃ o,ownR r=o:=⟨_,rfl⟩
 have hol:o.length≤20000:=by have:=own_len r; rw[ho]at this; omega
 obtain⟨q,hq⟩:∃ q,Go.Lib.hasSuffix r [10]=q:=⟨_,rfl⟩
 have e1:Go.Lib.hasSuffix (bs r).data.toList (⟨#[10]⟩:ByteArray).data.toList=q:=hq
 have e2:Go.Lib.trimSuffix (bs r).data.toList (⟨#[10]⟩:ByteArray).data.toList=o:=ho
 rw[e1,e2]
 have hd:decide ((1000000:Int)<(o.length:Int))=false:=decide_eq_false (by omega)
 cases q with
 |false =>
  simp (maxDischargeDepth:=6) only[rb_lenStr u9,bt_lenStr u9,bs_size,hd,ruW,putL,Nat.reduceLeDiff,xF,ruU,entryE,Nat.reduceLT,Nat.reduceAdd,Nat.reduceMul,Nat.reduceEqDiff]
  refine w_drawB [] [] (by kernel_rfl) (by kernel_rfl) rfl fun ops anc hA hG=>?_
  simp (maxDischargeDepth:=6) only[g2,g3,g4,g5,n1,c0,c1,c2,c3,y0,y1,y2,y3,qk_old,ruD,ruW,putL,Nat.reduceLeDiff,xF,ruU,entryE,Nat.reduceLT,Nat.reduceAdd,Nat.reduceMul,Nat.reduceEqDiff]
  exact par_ret hpl hll hok mG1 c0 c1 hl1 hall hr0 (by simp[goP,hq]) (by simp[errP,hq])
 |true =>
  simp (maxDischargeDepth:=6) only[rb_lenStr u9,bt_lenStr u9,bs_size,hd,ruW,putL,Nat.reduceLeDiff,xF,ruU,entryE,Nat.reduceLT,Nat.reduceAdd,Nat.reduceMul,Nat.reduceEqDiff]
  refine (parse_c (ext G1 []) o (by omega) (by rw[ext_nil,n1]; exact xb1)).mono ?_
  rintro _ X2 ⟨⟨av,rfl,hav,hai⟩,m2⟩
  rw[ext_next,zB8,zC3,n1]at hai
  have n2:=m2.next
  rw[ext_next,zB8,zC3,n1]at n2
  obtain⟨y,hy⟩:∃ y,X2.next=y:=⟨_,rfl⟩
  rw[hy]at n2
  have m2':Mod (parF p l v) G X2:=mG1.trans (m2.mono (by simp))
  have yb:X2.base≤y:=hy▸m2'.ok hok
  have c0':=(m2.bk (by rw[ext_nil,n1]; omega) (by simp)).trans c0
  have c1':=(m2.bk (by rw[ext_nil,n1]; omega) (by simp)).trans c1
  have c2':=(m2.bk (by rw[ext_nil,n1]; omega) (by simp)).trans c2
  have c3':=(m2.bk (by rw[ext_nil,n1]; omega) (by simp)).trans c3
  have hl2:LoopAt X2 l _ (rvOf 73 E):=hl1.of (m2.get l (by rw[ext_nil,n1]; omega) (by simp))
  have hv2:VsAt X2 5 1 v (bv (outP rs)) (outP rs).length:=hv1.of m2.next fun n hn=>m2.get n (by rw[ext_nil,n1]; exact hvl1 n hn) (by simp)
  clear c0 c1 c2 c3 hl1 hv1
  obtain⟨⟨⟨pos,op,args⟩,er⟩,hlr⟩:∃ z,lineR o=z:=⟨_,rfl⟩
  have hal:=line_len o
  rw[hlr]at hav hal
  simp only at hav hal
  have hsa:scb y av=true:=hy▸VsAt.sc hav
  obtain⟨aa,ea⟩:=hav.len
  have z0:p+0<y:=by omega
  have z1:p+1<y:=by omega
  have z2:p+2<y:=by omega
  have z3:p+3<y:=by omega
  have z4:p+3<y+1:=by omega
  have z5:p+2<y+1:=by omega
  have z6:p+0<y+1:=by omega
  have z7:p+1<y+1:=by omega
  have hsa':=hsa
  rw[ea]at hsa'
  rw[hlr,show X2=ext X2 [] from rfl,ea]
  obtain⟨d,hdd⟩:∃ d,decide (¬er=0)=d:=⟨_,rfl⟩
  cases d with
  |true =>
   have he:=of_decide_eq_true hdd
   simp (maxDischargeDepth:=6) only[hy,yb,hsa',hdd,ruW,putL,Nat.reduceLeDiff,xF,ruU,entryE,Nat.reduceLT,Nat.reduceAdd,Nat.reduceMul,Nat.reduceEqDiff]
   refine w_drawB [] [] (by kernel_rfl) (by kernel_rfl) rfl fun ops anc hA hG=>?_
   simp (maxDischargeDepth:=6) only[g2,g3,g4,g5,hy,c0',c1',c2',c3',z0,z1,z2,z3,z4,z5,z6,z7,qk_old,ruD,ruW,putL,Nat.reduceLeDiff,xF,ruU,entryE,Nat.reduceLT,Nat.reduceAdd,Nat.reduceMul,Nat.reduceEqDiff]
   exact par_ret hpl hll hok m2' c0' c1' hl2 hall hr0 (by simp[goP,hq,ho,hlr,he]) (by simp[errP,hq,ho,hlr])
  |false =>
   have he:=Decidable.of_not_not (of_decide_eq_false hdd)
   have hlb:=(line_back (b:=o) (by rw[hlr]; exact he)).1
   rw[hlr]at hlb
   obtain⟨q0,q1,q2,q3⟩:=encA_ok hlb
   simp only at q0 q1 q2 q3
   have hcv:∀ G:AHeap,aConvert Tryz.prog G 3 5 (.int .i64 op)=some (.int .u8 ((op.toNat.toUInt8).toNat:Int),G):=fun G=>by
    rw[cv_int (u:=.int .i64) (k:=.u8) (by kernel_rfl) (by kernel_rfl),byte_val q0 (by omega)]
   obtain⟨Y,hY⟩:∃ Y,ext X2 [⟨59,false,[.int .i64 0,.int .i64 op,.slice aa args.length args.length]⟩]=Y:=⟨_,rfl⟩
   have mY:Mod [] X2 Y:=hY▸Mod.ext (by omega)
   have nY:Y.next=y+1:=by rw[←hY,ext_next,hy]; rfl
   have yYb:Y.base≤y+1:=nY▸mY.ok (by omega)
   have kY:bk Y (y+0)=some ⟨59,false,[.int .i64 0,.int .i64 op,.slice aa args.length args.length]⟩:=by rw[←hY,bk_at hy (by simp)]; rfl
   have hvY:VsAt Y 5 1 v (bv (outP rs)) (outP rs).length:=hv2.of mY.next fun n hn=>mY.get n (hv2.ne n hn).2 (by simp)
   have hvb:(outP rs).length≤800500000:=by
    have:rs.length*40001≤20010*40001:=Nat.mul_le_mul_right _ (by omega)
    omega
   obtain⟨G3,k3,vG3,mG3,nG3⟩:=byte_app (X:=Y) (v:=v) (ws:=[op.toNat.toUInt8]) (x:=y+1) hvY nY (by omega) (by simp) (by simp only[zC0]; omega)
   have hAB:ext X2 [⟨59,false,[.int .i64 0,.int .i64 op,.slice aa args.length args.length]⟩,⟨5,false,bv [op.toNat.toUInt8]⟩]=ext Y [⟨5,false,bv [op.toNat.toUInt8]⟩]:=by rw[←hY,ext_append]; rfl
   rw[←hAB]at k3
   rw[ev]at k3 c2'
   replace k3:aBuiltin Tryz.prog (ext X2 [⟨59,false,[.int .i64 0,.int .i64 op,.slice aa args.length args.length]⟩,⟨5,false,[.int .u8 ((op.toNat.toUInt8).toNat:Int)]⟩]) .append ⟨[23,23]⟩ [.slice vv (outP rs).length (outP rs).length,.slice (some ⟨y+1,0,some 0⟩) 1 1]=some (.slice (some ⟨y+1+1,0,none⟩) ((outP rs).length+1) ((outP rs).length+1),ext G3 []):=k3
   have hnv:∀ n,n≤p+3→n∉idsV v:=hnl
   have c0G:=((mG3.bk (by omega) (hnv _ (by omega))).trans (mY.bk (by omega) (by simp))).trans c0'
   have c1G:=((mG3.bk (by omega) (hnv _ (by omega))).trans (mY.bk (by omega) (by simp))).trans c1'
   have c2G:=((mG3.bk (by omega) (hnv _ (by omega))).trans (mY.bk (by omega) (by simp))).trans c2'
   have c3G:=((mG3.bk (by omega) (hnv _ (by omega))).trans (mY.bk (by omega) (by simp))).trans c3'
   have kG:=(mG3.bk (by omega) (fun h=>by have:=hvl1 _ h; omega)).trans kY
   have hlG:LoopAt G3 l _ (rvOf 73 E):=hl2.of ((mG3.get l (by omega) hll5).trans (mY.get l (by omega) (by simp)))
   have haG:ArgA G3 av args:=hav.of (by omega) fun n hn=>(mG3.get n (by have:=(hav.ne n hn).2; omega) (fun h=>by have:=hvl1 _ h; have:=hai n hn; omega)).trans (mY.get n (hav.ne n hn).2 (by simp))
   have mG:Mod (parF p l v) G G3:=(m2'.trans (mY.mono (by simp))).trans (mG3.mono (by simp[parF]; intro a h; simp[h]))
   have w2:p+2<y+1+2:=by omega
   have wy:y+0<y+1+2:=by omega
   have wyb:G3.base≤y+1+2:=nG3▸mG.ok hok
   have hsv3:scb (y+1+2) (.slice (some ⟨y+1+1,0,none⟩) ((outP rs).length+1) ((outP rs).length+1))=true:=by simp[scb]
   have hyp2:¬y+0=p+2:=by omega
   simp (maxDischargeDepth:=6) only[hy,yb,hsa',hdd,g4,g5,z2,c2',hcv,w_convert,k3,nG3,c2G,w2,hsv3,uw_next,bk_uw_ne,hyp2,ne_eq,not_false_eq_true,wy,kG,ruW,putL,Nat.reduceLeDiff,xF,ruU,entryE,Nat.reduceLT,Nat.reduceAdd,Nat.reduceMul,Nat.reduceEqDiff]
   obtain⟨v6,hv6⟩:∃ v6,Value.slice (some ⟨y+1+1,0,none⟩) ((outP rs).length+1) ((outP rs).length+1)=v6:=⟨_,rfl⟩
   rw[hv6]
   have hv6i:∀ n∈idsV v6,y≤n:=fun n hn=>by rw[←hv6]at hn; simp only[idsV,zB0]at hn; omega
   rw[zC0,hv6]at vG3
   generalize hX6:uw G3 (p+2) 0 _=X6
   have m36:Mod [p+2] G3 X6:=hX6▸Mod.uw (by simp)
   have n6:X6.next=y+1+2:=by rw[←hX6,uw_next,nG3]
   have kp:∀ n,n<y+1+2→n≠p+2→X6.get n=G3.get n:=fun n h1 h2=>m36.get n (by omega) (by simpa using h2)
   have d0:=(bk_get (kp (p+0) (by omega) (by omega))).trans c0G
   have d1:=(bk_get (kp (p+1) (by omega) (by omega))).trans c1G
   have d2:bk X6 (p+2)=some ⟨23,false,[v6]⟩:=by rw[←hX6,bk_uw_eq,c2G]; rfl
   have d3:=(bk_get (kp (p+3) (by omega) (by omega))).trans c3G
   have hl6:LoopAt X6 l _ (rvOf 73 E):=hlG.of (kp l (by omega) (by omega))
   have ha6:ArgA X6 av args:=haG.of m36.next fun n hn=>kp n (by have:=(haG.ne n hn).2; omega) (by have:=hai n hn; omega)
   have hb6:VsAt X6 5 1 v6 (bv (outP rs++[op.toNat.toUInt8])) (outP rs++[op.toNat.toUInt8]).length:=vG3.of m36.next fun n hn=>kp n (by have:=(vG3.ne n hn).2; omega) (by have:=hv6i n hn; omega)
   have m6:Mod (parF p l v) G X6:=mG.trans (m36.mono (by simp[parF]))
   clear hX6 m36 kp c0G c1G c2G c3G kG hlG haG mG k3 vG3 mG3 nG3 hsv3 hv6 w2 wy wyb hyp2 hAB G3
   have hout:outP (rs++[r])=outP rs++[op.toNat.toUInt8]++args.flatMap aB:=by
    rw[outP,List.flatMap_append]
    simp only[zC4,List.flatMap_nil,zE3,ho,hlr]
    rw[encB_eq,outP]
    simp
   have hol2:(outP (rs++[r])).length≤(rs.length+1)*40001:=by
    have h1:(outP (rs++[r])).length=(outP rs).length+(1+2*args.length):=by
     rw[outP,List.flatMap_append,zB2]
     simp only[zC4,List.flatMap_nil,zE3,ho,hlr]
     rw[enc_len1]
     rfl
    rw[h1,Nat.succ_mul]
    omega
   have hobig:(outP (rs++[r])).length≤900000000:=by
    have:(rs.length+1)*40001≤20011*40001:=Nat.mul_le_mul_right _ (by omega)
    omega
   have hgr:goP r=true:=by simp[goP,hq,ho,hlr,he,hr0]
   generalize hLB:(⟨_,_,_,_,_,_,_,_⟩:Loop)=LB at hl6
   refine w_env fun E2 hE=>?_
   have h4:E2 4=.pointer (some ⟨p+2,0,none⟩):=by rw[hE]; simp only[g4,ruU,entryE,Nat.reduceLT,Nat.reduceAdd,Nat.reduceMul,Nat.reduceEqDiff]
   have h5:E2 5=.pointer (some ⟨p+3,0,none⟩):=by rw[hE]; simp only[g5,ruU,entryE,Nat.reduceLT,Nat.reduceAdd,Nat.reduceMul,Nat.reduceEqDiff]
   have h49:E2 49=.slice aa args.length args.length:=by rw[hE]; simp only[ruU,entryE,Nat.reduceLT,Nat.reduceAdd,Nat.reduceMul,Nat.reduceEqDiff]
   have h50:E2 50=.int .i64 (args.length:Int):=by rw[hE]; simp only[ruU,entryE,Nat.reduceLT,Nat.reduceAdd,Nat.reduceMul,Nat.reduceEqDiff]
   have h51:E2 51=.int .i64 ((0:Nat):Int):=by rw[hE]; (simp only[ruU,entryE,Nat.reduceLT,Nat.reduceAdd,Nat.reduceMul,Nat.reduceEqDiff]<;>rfl)
   clear hE
   rw[ext_nil]
   refine w_loop (fun (z:Nat × List UInt8 × Value) E' X'=>Mod (parF p l v) G X'∧bk X' (p+0)=some ⟨23,false,[.slice none 0 0]⟩∧bk X' (p+1)=some ⟨26,false,[.int .i64 0,.int .i64 0]⟩∧bk X' (p+2)=some ⟨23,false,[z.2.2]⟩∧bk X' (p+3)=some ⟨3,false,[.int .i64 (rs.length:Int)]⟩∧LoopAt X' l LB (rvOf 73 E)∧ArgA X' av args∧VsAt X' 5 1 z.2.2 (bv z.2.1) z.2.1.length∧(∀ n∈idsV z.2.2,x≤n∧n∉idsV av)∧z.2.1++(args.drop z.1).flatMap aB=outP (rs++[r])∧z.1≤args.length∧x≤X'.next∧E' 4=.pointer (some ⟨p+2,0,none⟩)∧E' 5=.pointer (some ⟨p+3,0,none⟩)∧E' 49=.slice aa args.length args.length∧E' 50=.int .i64 (args.length:Int)∧E' 51=.int .i64 (z.1:Int)) (fun z=>args.length-z.1) (0,outP rs++[op.toNat.toUInt8],v6)
    ⟨m6,d0,d1,d2,d3,hl6,ha6,hb6,fun n hn=>⟨by have:=hv6i n hn; omega,fun h=>by have:=hv6i n hn; have:=(hav.ne n h).2; omega⟩,hout.symm,zC2 _,by omega,h4,h5,h49,h50,h51⟩ ?_
   clear h4 h5 h49 h50 h51 m6 d0 d1 d2 d3 hl6 ha6 hb6 hv6i n6 X6 v6 E2
   rintro⟨j,o2,v2⟩ E2 X7 ⟨m7,d0,d1,d2,d3,hl7,ha7,hb7,hi7,htj,hj,nx7,g4',g5',g49,g50,g51⟩
   simp only at d2 hb7 hi7 htj hj g51
   obtain⟨u,hu⟩:∃ u,X7.next=u:=⟨_,rfl⟩
   have hub:X7.base≤u:=hu▸m7.ok hok
   rw[hu]at nx7
   have hu2:p+2<u:=by omega
   have hu3:p+3<u:=by omega
   obtain⟨va2,ev2⟩:=hb7.len
   rw[show X7=ext X7 [] from rfl]
   by_cases hje:j=args.length
   ·have hdj:decide ((j:Int)<(args.length:Int))=false:=decide_eq_false (by omega)
    have hw:IntKind.i64.wrap ((rs.length:Int)+1)=((rs.length+1:Nat):Int):=wrap_succ (by omega)
    simp (maxDischargeDepth:=6) only[g4',g5',g49,g50,g51,hdj,hu,hu3,d3,hw,ruW,putL,Nat.reduceLeDiff,xF,ruU,entryE,Nat.reduceLT,Nat.reduceAdd,Nat.reduceMul,Nat.reduceEqDiff]
    rw[rndC_normal]
    rw[hje,List.drop_length,List.flatMap_nil,zE3]at htj
    rw[htj]at hb7
    generalize hX8:uw X7 (p+3) 0 _=X8
    have m8:Mod [p+3] X7 X8:=hX8▸Mod.uw (by simp)
    have n8:X8.next=u:=by rw[←hX8,uw_next,hu]
    have kp:∀ n,n≠p+3→X8.get n=X7.get n:=fun n h=>hX8▸uw_get h
    have f3:bk X8 (p+3)=some ⟨3,false,[.int .i64 ((rs.length+1:Nat):Int)]⟩:=by rw[←hX8,bk_uw_eq,d3]; rfl
    have hl8:LoopAt X8 l LB (rvOf 73 E):=hl7.of (kp l (by omega))
    refine⟨_,_,(hl8.of (G:=ext X8 []) rfl).get,by rw[hgr],parF p l v2,parF p l v2,?_⟩
    rw[ext_setLoop (by omega)]
    generalize hX9:setLoop X8 l _ _=X9
    have n9:X9.next=u:=by rw[←hX9,setLoop_next,n8]
    have kk:∀ n,n≠l→X9.get n=X8.get n:=fun n hn=>hX9▸setLoop_get hn
    have hl9:=(hX9▸LoopAt.set l _ _:LoopAt X9 l {LB with state:=.ready,pending:=none} (rvOf 73 E))
    subst hLB
    have m9:Mod [l] X8 X9:=hX9▸Mod.upd (by simp)
    have mA:Mod (parF p l v) G X9:=(m7.trans (m8.mono (by simp[parF]))).trans (m9.mono (by simp[parF]))
    rw[ext_nil]
    refine⟨⟨hpl,by omega,(bk_get ((kk _ (by omega)).trans (kp _ (by omega)))).trans d0,.inl ⟨rs++[r],v2,false,?_,.inl ⟨rfl,rfl⟩,rfl,rfl,hl9,(bk_get ((kk _ (by omega)).trans (kp _ (by omega)))).trans d1,(bk_get ((kk _ (by omega)).trans (kp _ (by omega)))).trans d2,(bk_get (kk _ (by omega))).trans (by rw[f3,zB2]; rfl),?_,by rw[zB2]; exact hol2,fun n hn=>by have:=(hi7 n hn).1; omega⟩⟩,mA,fun n hn=>?_,fun n hn=>?_⟩
    ·rw[List.all_append,hall]
     simp[hgr]
    ·exact hb7.of (by omega) fun n hn=>(kk n (by have:=(hi7 n hn).1; omega)).trans (kp n (by have:=(hi7 n hn).1; omega))
    all_goals
     simp only[parF,zA7]at hn ⊢
     rcases hn with h|h|h|h|h|h
     ·exact .inl (.inl h)
     ·exact .inl (.inr (.inl h))
     ·exact .inl (.inr (.inr (.inl h)))
     ·exact .inl (.inr (.inr (.inr (.inl h))))
     ·exact .inl (.inr (.inr (.inr (.inr (.inl h)))))
     ·exact .inr (by have:=(hi7 n h).1; omega)
   ·have hjl:j<args.length:=by omega
    have hdj:decide ((j:Int)<(args.length:Int))=true:=decide_eq_true (by omega)
    have hrd:=ha7.rd
    rw[ea]at hrd
    obtain⟨n',off',s',c',e',o',M',e3,n3,r3,m3⟩:=hrd.one hjl
    cases e3
    rw[iv_get,zB1 hjl,zA6]at m3
    have i3:=ia_of (P:=Tryz.prog) (k:=.i64) (i:=j) (n:=n') (off:=off') (len:=args.length) (cap:=args.length) (s:=s') u35 s3 hjl
    rw[zC5]at i3
    rw[hu]at n3
    obtain⟨ya,hya⟩:∃ ya,args[j]=ya:=⟨_,rfl⟩
    rw[hya]at m3
    obtain⟨y0',y1'⟩:=q3 ya (hya▸List.getElem_mem hjl)
    have hw:IntKind.i64.wrap ((j:Int)+1)=((j+1:Nat):Int):=wrap_succ (by omega)
    have cv1:∀ G:AHeap,aConvert Tryz.prog G 3 5 (.int .i64 ya)=some (.int .u8 ((ya.toNat.toUInt8).toNat:Int),G):=fun G=>by
     rw[cv_int (u:=.int .i64) (k:=.u8) (by kernel_rfl) (by kernel_rfl),byte_val y0' y1']
    have cv2:∀ G:AHeap,aConvert Tryz.prog G 3 5 (.int .i64 (bShr .i64 ya 8))=some (.int .u8 (((ya.toNat / 256).toUInt8).toNat:Int),G):=fun G=>by
     rw[shr8 y0' y1',cv_int (u:=.int .i64) (k:=.u8) (by kernel_rfl) (by kernel_rfl),byte_val (by omega) (by omega),zD0]
    have hdr:args.drop j=ya::args.drop (j+1):=by rw[List.drop_eq_getElem_cons hjl,hya]
    rw[hdr,zC4,←zE6]at htj
    have hlen2:=congrArg List.length htj
    simp only[zB2,aB,zA5,zB8]at hlen2
    obtain⟨G8,k1,vG,mG,nG⟩:=byte_app (X:=X7) (v:=v2) (ws:=[ya.toNat.toUInt8,(ya.toNat / 256).toUInt8]) (x:=u) hb7 hu (by rw[hu]; exact hub) (by simp) (by simp only[zA5,zB8]; omega)
    have hs8:bitV .shr (.int .i64 ya) (.int .u64 8)=some (.int .i64 (bShr .i64 ya 8)):=bit_shr (by decide)
    have hn2:∀ n,n≤p+3→n∉idsV v2:=fun n hn h=>by have:=(hi7 n h).1; omega
    have f0:=(mG.bk (by omega) (hn2 _ (by omega))).trans d0
    have f1:=(mG.bk (by omega) (hn2 _ (by omega))).trans d1
    have f2:=(mG.bk (by omega) (hn2 _ (by omega))).trans d2
    have f3:=(mG.bk (by omega) (hn2 _ (by omega))).trans d3
    have f2':=f2
    rw[ev2]at k1 d2 f2'
    replace k1:aBuiltin Tryz.prog (ext X7 [⟨5,false,[.int .u8 ((ya.toNat.toUInt8).toNat:Int),.int .u8 (((ya.toNat / 256).toUInt8).toNat:Int)]⟩]) .append ⟨[23,23]⟩ [.slice va2 o2.length o2.length,.slice (some ⟨u+0,0,some 0⟩) 2 2]=some (.slice (some ⟨u+1,0,none⟩) (o2.length+2) (o2.length+2),ext G8 []):=k1
    have hu22:p+2<u+2:=by omega
    have hsu:scb (u+2) (.slice (some ⟨u+1,0,none⟩) (o2.length+2) (o2.length+2))=true:=by simp[scb]
    have hub2:G8.base≤u+2:=by have:=mG.ok (by rw[hu]; exact hub); rw[nG]at this; exact this
    simp (maxDischargeDepth:=6) only[g4',g5',g49,g50,g51,hdj,hu,hub,hu2,hu3,i3,n3,r3,m3,d2,hs8,w_shr,Option.isSome_some,cv1,cv2,w_convert,k1,hw,nG,f2',hu22,hsu,qk_old,ruW,putL,Nat.reduceLeDiff,xF,ruU,entryE,Nat.reduceLT,Nat.reduceAdd,Nat.reduceMul,Nat.reduceEqDiff]
    have hol3:(o2++[ya.toNat.toUInt8,(ya.toNat / 256).toUInt8]).length=o2.length+2:=by simp
    have mm:Mod (parF p l v) G (uw G8 (p+2) 0 [.slice (some ⟨u+1,0,none⟩) (o2.length+2) (o2.length+2)]):=(m7.step mG hok fun n hn=>.inr (by have:=(hi7 n hn).1; omega)).trans (Mod.uw (by simp[parF]))
    refine loopC_next ⟨(j+1,o2++[ya.toNat.toUInt8,(ya.toNat / 256).toUInt8],.slice (some ⟨u+1,0,none⟩) (o2.length+2) (o2.length+2)),by simp only; omega,mm,(bk_uw_ne (by omega)).trans f0,(bk_uw_ne (by omega)).trans f1,?_,(bk_uw_ne (by omega)).trans f3,hl7.of ((uw_get (by omega)).trans (mG.get l (by omega) (fun h=>by have:=(hi7 l h).1; omega))),?_,?_,fun n hn=>by simp only[idsV,zB0]at hn; exact⟨by omega,fun h=>by have:=(ha7.ne n h).2; omega⟩,htj,by simp only; omega,by rw[ext_nil,uw_next,nG]; omega,?_,?_,?_,?_,?_⟩
    ·rw[ext_nil,bk_uw_eq,f2]; rfl
    ·exact ha7.of (by rw[ext_nil,uw_next,nG]; omega) fun n hn=>(uw_get (by have:=hai n hn; omega)).trans (mG.get n (ha7.ne n hn).2 (fun h=>(hi7 n h).2 hn))
    ·have hz:VsAt (uw G8 (p+2) 0 [.slice (some ⟨u+1,0,none⟩) (o2.length+2) (o2.length+2)]) 5 1 (.slice (some ⟨u+1,0,none⟩) (o2.length+2) (o2.length+2)) (bv (o2++[ya.toNat.toUInt8,(ya.toNat / 256).toUInt8])) (o2++[ya.toNat.toUInt8,(ya.toNat / 256).toUInt8]).length:=VsAt.of vG (by rw[uw_next]; exact zA8 _) fun q hq=>uw_get (by simp only[idsV,zB0,zA5,zB8]at hq; omega)
     exact hz
    all_goals simp only[g4',g5',g49,g50,ruU,entryE,Nat.reduceLT,Nat.reduceAdd,Nat.reduceMul,Nat.reduceEqDiff]
set_option maxRecDepth 100000
def yPar {asg bod:Code} (hab:some (asg,bod)=Tryz.f12.body.bind rangeOf) {l p d:Nat} {E:Env} (g2:E 2=.pointer (some ⟨p+0,0,none⟩)) (g3:E 3=.pointer (some ⟨p+1,0,none⟩)) (g4:E 4=.pointer (some ⟨p+2,0,none⟩)) (g5:E 5=.pointer (some ⟨p+3,0,none⟩)):YldP Tryz.prog l (List UInt8) encS goP 20010 preP where
 Inv:=ParInv l p (lpP asg bod d) (rvOf 73 E)
 sub:=by
  rintro rs F W G ⟨_,_,_,⟨_,v,_,_,_,rfl,rfl,_⟩|⟨r,rs0,rfl,_,_,_,rfl,rfl,_⟩⟩ n hn<;>exact hn
 dom:=by
  rintro rs F W G ⟨hpl,hll,h0,⟨rs0,v,br,_,_,rfl,rfl,⟨o,hl⟩,h1,h2,h3,hv,_,_⟩|⟨r,rs0,rfl,_,_,_,rfl,rfl,⟨o,hl⟩,h1⟩⟩ n hn
  ·simp only[zA7]at hn
   rcases hn with rfl|rfl|rfl|rfl|rfl|hn
   ·exact⟨bk_ne h0,by omega⟩
   ·exact⟨bk_ne h1,by omega⟩
   ·exact⟨bk_ne h2,by omega⟩
   ·exact⟨bk_ne h3,by omega⟩
   ·exact⟨by rw[hl]; simp,hll⟩
   ·exact hv.ne n hn
  ·simp only[zA7,zD6,or_false]at hn
   rcases hn with rfl|rfl|rfl
   ·exact⟨bk_ne h0,by omega⟩
   ·exact⟨bk_ne h1,by omega⟩
   ·exact⟨by rw[hl]; simp,hll⟩
 loc:=by
  rintro rs F W G G' ⟨hpl,hll,h0,⟨rs0,v,br,hall,hrs,rfl,rfl,hl,h1,h2,h3,hv,hvl,hvi⟩|⟨r,rs0,rfl,hall,hne,hr,rfl,rfl,hl,h1⟩⟩ hn hg
  ·exact⟨hpl,by omega,(bk_get (hg _ (by simp))).trans h0,.inl ⟨rs0,v,br,hall,hrs,rfl,rfl,hl.of (hg _ (by simp)),(bk_get (hg _ (by simp))).trans h1,(bk_get (hg _ (by simp))).trans h2,(bk_get (hg _ (by simp))).trans h3,hv.of hn fun n hn'=>hg n (by simp[hn']),hvl,hvi⟩⟩
  ·exact⟨hpl,by omega,(bk_get (hg _ (by simp))).trans h0,.inr ⟨r,rs0,rfl,hall,hne,hr,rfl,rfl,hl.of (hg _ (by simp)),(bk_get (hg _ (by simp))).trans h1⟩⟩
 step:=fun hI hgo hcap hok hp=>par_step hab g2 g3 g4 g5 hI hgo hcap hok hp
theorem go_nil:goP []=false:=rfl
theorem parse_go {l:List UInt8} {r:List (List UInt8)} {k:Nat} {out:List UInt8} (h:goP l=true):parseR (l::r) k out=parseR r (k+1) (out++encB (lineR (ownR l)).1):=by
 simp only[goP,zA4,Bool.not_eq_true',decide_eq_false_iff_not,decide_eq_true_eq]at h
 rw[parseR,if_neg h.1.1,if_neg (by rw[h.1.2]; simp),if_neg (by rw[h.2]; simp)]
theorem parse_bad {l:List UInt8} {r:List (List UInt8)} {k:Nat} {out:List UInt8} (h0:l≠[]) (h:goP l=false):parseR (l::r) k out=([],errP l,k):=by
 rw[parseR,if_neg h0,errP]
 by_cases h1:Go.Lib.hasSuffix l [10]=false
 ·rw[if_pos h1,if_pos h1]
 ·rw[if_neg h1,if_neg h1]
  have h1':Go.Lib.hasSuffix l [10]=true:=by cases hh:Go.Lib.hasSuffix l [10]<;>simp_all
  have:(lineR (ownR l)).2≠0:=fun e=>by
   rw[goP,decide_eq_false h0,h1',e]at h
   cases h
  rw[if_pos this]
theorem err_ne {l:List UInt8} (h0:l≠[]) (h:goP l=false):errP l≠0:=by
 rw[errP]
 by_cases h1:Go.Lib.hasSuffix l [10]=false
 ·rw[if_pos h1]; decide
 ·rw[if_neg h1]
  have h1':Go.Lib.hasSuffix l [10]=true:=by cases hh:Go.Lib.hasSuffix l [10]<;>simp_all
  exact fun e=>by
   rw[goP,decide_eq_false h0,h1',e]at h
   cases h
theorem parse_of:∀ {ls:List (List UInt8)} {k:Nat} {out:List UInt8} {rs0 t:List (List UInt8)},upto goP ls=rs0++t→rs0.all goP=true→((t=[]∨t=[[]])→parseR ls k out=(out++outP rs0,0,k+rs0.length))∧(∀ r,t=[r]→r≠[]→goP r=false→parseR ls k out=([],errP r,k+rs0.length))
 |[],k,out,rs0,t,h,_=>by
  have h1:rs0=[]∧t=[]:=by simpa[upto]using h
  obtain⟨rfl,rfl⟩:=h1
  exact⟨fun _=>by simp[parseR,outP],fun r h=>by simp at h⟩
 |l::r,k,out,rs0,t,h,hall=>by
  rw[upto]at h
  by_cases hg:goP l=true
  ·rw[if_pos hg]at h
   cases rs0 with
   |nil =>
    rw[zC8]at h
    refine⟨?_,fun r' e _ hb=>?_⟩
    ·rintro (rfl|rfl)
     ·cases h
     ·simp only[List.cons.injEq]at h
      rw[h.1,go_nil]at hg
      cases hg
    ·rw[e]at h
     simp only[List.cons.injEq]at h
     rw[h.1,hb]at hg
     cases hg
   |cons q rs0 =>
    simp only[zE0,List.cons.injEq]at h
    obtain⟨rfl,h⟩:=h
    simp only[List.all_cons,zA4]at hall
    obtain⟨i1,i2⟩:=parse_of (k:=k+1) (out:=out++encB (lineR (ownR l)).1) h hall.2
    rw[parse_go hg]
    refine⟨fun ht=>?_,fun r' e hne hb=>?_⟩
    ·rw[i1 ht,zA5,outP,outP,zC4,zE6]
     congr 2
     omega
    ·rw[i2 r' e hne hb,zA5]
     congr 2
     omega
  ·rw[if_neg hg]at h
   have hgf:goP l=false:=by simpa using hg
   cases rs0 with
   |nil =>
    rw[zC8]at h
    refine⟨?_,fun r' e hne hb=>?_⟩
    ·rintro (rfl|rfl)
     ·cases h
     ·cases h
      simp[parseR,outP]
    ·rw[e]at h
     cases h
     rw[parse_bad hne hgf]
     rfl
   |cons q rs0 =>
    simp only[zE0,List.cons.injEq]at h
    obtain⟨rfl,h⟩:=h
    simp only[List.all_cons,zA4]at hall
    rw[hgf]at hall
    exact absurd hall.1 (by simp)
def ParOut (b:Nat) (s:List UInt8) (out:Out) (X:AHeap):Prop :=
 ((parsedR s).2.1≠0∧out=.ok (.tuple #[.slice none 0 0,fltV (parsedR s).2.1 ((parsedR s).2.2:Int)])) ∨
 ((parsedR s).2.1=0∧∃ v,out=.ok (.tuple #[v,fltV 0 0])∧VsAt X 5 1 v (bv (parsedR s).1) (parsedR s).1.length∧∀ n∈idsV v,b≤n)
theorem parsed_c (H:AHeap) (s:List UInt8) (hs:s.length≤20000) (hok:H.base≤H.next):CallA Tryz.prog 12 [.string (bs s)] H (fun out X=>ParOut H.next s out X∧Mod [] H X):=by
 obtain⟨b,hb⟩:∃ b,H.next=b:=⟨_,rfl⟩
 have hbase:H.base≤b:=hb▸hok
 refine callE_fn mixed Tryz.func12 rfl Tryz.ntmps12 (zB9 rfl) ?_
 simp (maxDischargeDepth:=6) only[hb,hbase,ruW,putL,Nat.reduceLeDiff,xF,ruU,entryE,Nat.reduceLT,Nat.reduceAdd,Nat.reduceMul,Nat.reduceEqDiff]
 refine (splitSeq_c (ext H _) (bs s) ⟨#[10]⟩).to ?_
 simp (maxDischargeDepth:=6) only[hb,hbase,ext_next,zA5,zB8,ruW,putL,Nat.reduceLeDiff,xF,ruU,entryE,Nat.reduceLT,Nat.reduceAdd,Nat.reduceMul,Nat.reduceEqDiff]
 refine w_env fun E hE=>?_
 have g2:E 2=.pointer (some ⟨b+0,0,none⟩):=by rw[hE]; simp only[ruU,entryE,Nat.reduceLT,Nat.reduceAdd,Nat.reduceMul,Nat.reduceEqDiff]
 have g3:E 3=.pointer (some ⟨b+1,0,none⟩):=by rw[hE]; simp only[ruU,entryE,Nat.reduceLT,Nat.reduceAdd,Nat.reduceMul,Nat.reduceEqDiff]
 have g4:E 4=.pointer (some ⟨b+2,0,none⟩):=by rw[hE]; simp only[ruU,entryE,Nat.reduceLT,Nat.reduceAdd,Nat.reduceMul,Nat.reduceEqDiff]
 have g5:E 5=.pointer (some ⟨b+3,0,none⟩):=by rw[hE]; simp only[ruU,entryE,Nat.reduceLT,Nat.reduceAdd,Nat.reduceMul,Nat.reduceEqDiff]
 have g14:E 14=.func (.func 91) ⟨[]⟩ ⟨[.pointer (some ⟨b+5,0,none⟩),.pointer (some ⟨b+4,0,none⟩),.pointer (some ⟨b+6,0,none⟩)]⟩:=by rw[hE]; simp only[ruU,entryE,Nat.reduceLT,Nat.reduceAdd,Nat.reduceMul,Nat.reduceEqDiff]
 clear hE
 generalize hX:ext H _=X
 have mX:Mod [] H X:=hX▸Mod.ext hok
 have nX:X.next=b+7:=by rw[←hX,ext_next,hb]; rfl
 have x0:bk X (b+0)=some ⟨23,false,[.slice none 0 0]⟩:=by rw[←hX,bk_at hb (by simp)]; rfl
 have x1:bk X (b+1)=some ⟨26,false,[.int .i64 0,.int .i64 0]⟩:=by rw[←hX,bk_at hb (by simp)]; rfl
 have x2:bk X (b+2)=some ⟨23,false,[.slice none 0 0]⟩:=by rw[←hX,bk_at hb (by simp)]; rfl
 have x3:bk X (b+3)=some ⟨3,false,[.int .i64 0]⟩:=by rw[←hX,bk_at hb (by simp)]; rfl
 have x4:bk X (b+4)=some ⟨9,false,[.string (bs s)]⟩:=by rw[←hX,bk_at hb (by simp)]; rfl
 have x5:bk X (b+5)=some ⟨9,false,[.string (bs [10])]⟩:=by rw[←hX,bk_at hb (by simp)]; rfl
 have x6:bk X (b+6)=some ⟨3,false,[.int .i64 1]⟩:=by rw[←hX,bk_at hb (by simp)]; rfl
 refine w_rangeK (f:=91) (ca:=[.pointer (some ⟨b+5,0,none⟩),.pointer (some ⟨b+4,0,none⟩),.pointer (some ⟨b+6,0,none⟩)]) (mX.ok hok) (by decide) g14 (by kernel_rfl) fun K hlp hdf mK hbK=>?_
 replace mK:=mK []
 rw[nX]at hlp hdf hbK ⊢
 have mHK:=mX.trans mK
 have kk:∀ n,n<b+7→bk K n=bk X n:=fun n hn=>mK.bk (by omega) (by simp)
 have hI:(yPar (l:=b+7+1) (p:=b) (d:=b+7) rfl g2 g3 g4 g5).Inv [] (parF b (b+7+1) (.slice none 0 0)) (parF b (b+7+1) (.slice none 0 0)) K :=
  ⟨by omega,by omega,(kk _ (by omega)).trans x0,.inl ⟨[],.slice none 0 0,false,rfl,.inl ⟨rfl,rfl⟩,rfl,rfl,hlp,(kk _ (by omega)).trans x1,(kk _ (by omega)).trans x2,(kk _ (by omega)).trans x3,VsAt.nil,by simp[outP],fun n hn=>by simp[idsV]at hn⟩⟩
 have hll:=lines_len s
 have hpre:∀ x∈linesR s,preP x:=fun x hx=>by
  have h1:=lines_flat s
  have h2:x.length≤(linesR s).flatten.length:=by
   clear h1 hll
   generalize linesR s=L at hx ⊢
   induction L with
   |nil=>simp at hx
   |cons y r ih =>
    rw[List.flatten_cons,zB2]
    rcases zA7.1 hx with rfl|hx
    ·omega
    ·have:=ih hx; omega
  rw[h1]at h2
  exact zD5 h2 hs
 refine (lines_c _ K (b+5) (b+4) (b+6) s _ _ hI (mHK.ok hok) hpre (by omega) (by omega) ((kk _ (by omega)).trans x5) ((kk _ (by omega)).trans x4) ((kk _ (by omega)).trans x6) (by omega) (by omega) (by omega) (by simp[parF,idsV]) (by simp[parF,idsV]) (by simp[parF,idsV]) (by omega) (by omega)).mono ?_
 rintro _ K1 ⟨rfl,F1,W1,hI1,m1⟩
 obtain⟨_,hll1,i0,hI1⟩:=hI1
 have hdK1:K1.get (b+7)=K.get (b+7):=m1.get (b+7) (by omega) (by simp[parF,idsV])
 have okK1:=m1.ok (mHK.ok hok)
 have nK1:=m1.next
 have mHK1:Mod [] H K1:=mHK.step m1 hok fun n hn=>by
  simp only[parF,idsV,zA7,zD6,or_false]at hn
  right; omega
 rcases hI1 with⟨rs0,v,br,hall,hrs,rfl,rfl,hl1,i1,i2,i3,hv,hvl,hvi⟩|⟨r,rs0,hrs,hall,hne,hr,rfl,rfl,hl1,i1⟩
 ·have hpr:parseR (linesR s) 0 []=(outP rs0,0,rs0.length):=by
   have:=(parse_of (ls:=linesR s) (k:=0) (out:=[]) (rs0:=rs0) (t:=if br then [[]] else []) (by rcases hrs with⟨rfl,h⟩|⟨rfl,h⟩<;>rw[h]<;>simp) hall).1 (by cases br<;>simp)
   simpa using this
  obtain⟨va,ev⟩:=hv.len
  have hbr:∃ lp,LoopAt K1 (b+7+1) lp (rvOf 73 E)∧lp.state≠.busy∧(pendE lp.pending=some .normal∨pendE lp.pending=some (.exit 0)):=by
   cases br with
   |true=>exact⟨_,hl1,by simp,.inr rfl⟩
   |false=>exact⟨_,hl1,by simp[lpP],.inl rfl⟩
  clear hl1
  obtain⟨lp,hl1,hst,hpe⟩:=hbr
  obtain⟨d,hd2⟩:∃ d,decide ((60000:Int)<((outP rs0).length:Int))=d:=⟨_,rfl⟩
  have hvd:∀ n∈idsV v,n≠b+7:=fun n hn e=>by
   have hbd:bk K1 (b+7)=none:=by
    unfold bk cellsAt
    rw[hdK1.trans hdf]
    rfl
   obtain⟨_,_,⟨_,rfl⟩|⟨_,n',rfl,hb',_⟩⟩:=hv
   ·simp[idsV]at hn
   ·simp only[idsV,zB0]at hn
    rw[←hn,e,hbd]at hb'
    cases hb'
  rcases hpe with hpe|hpe
  all_goals
   refine⟨_,_,_,hl1.get,hst,hpe,?_⟩
   generalize hK2:setLoop K1 (b+7+1) _ _=K2
   have nK2:K2.next=K1.next:=hK2▸rfl
   have j0:bk K2 (b+0)=_:=(hK2▸bk_setLoop (by omega):bk K2 (b+0)=bk K1 (b+0)).trans i0
   have j1:bk K2 (b+1)=_:=(hK2▸bk_setLoop (by omega):bk K2 (b+1)=bk K1 (b+1)).trans i1
   have j2:bk K2 (b+2)=_:=(hK2▸bk_setLoop (by omega):bk K2 (b+2)=bk K1 (b+2)).trans i2
   have j3:bk K2 (b+3)=_:=(hK2▸bk_setLoop (by omega):bk K2 (b+3)=bk K1 (b+3)).trans i3
   have hdK2:K2.get (b+7)=K1.get (b+7):=hK2▸setLoop_get (by omega)
   have mK2:Mod [b+7+1] K1 K2:=hK2▸Mod.upd (by simp)
   have hv2:VsAt K2 5 1 v (bv (outP rs0)) (outP rs0).length:=hv.of mK2.next fun n hn=>mK2.get n (hv.ne n hn).2 (by have:=hvi n hn; simp; omega)
   have l0:b+0<K1.next:=by omega
   have l1:b+1<K1.next:=by omega
   have l2:b+2<K1.next:=by omega
   have l3:b+3<K1.next:=by omega
   have b2:K2.base≤K1.next:=by have:=mK2.ok okK1; rw[nK2]at this; exact this
   have d10:¬b+1=b+0:=by omega
   have hsv:scb K1.next v=true:=VsAt.sc hv
   rw[show K2=ext K2 [] from rfl]
   rw[ev]at j2 hsv
   cases d with
   |true =>
    simp (maxDischargeDepth:=6) only[g2,g3,g4,g5,nK2,j0,j1,j2,j3,l0,l1,l2,l3,b2,d10,hsv,hd2,uw_next,bk_uw_ne,ne_eq,not_false_eq_true,ruW,putL,Nat.reduceLeDiff,xF,ruU,entryE,Nat.reduceLT,Nat.reduceAdd,Nat.reduceMul,Nat.reduceEqDiff]
    refine w_drawB [] [] (by kernel_rfl) (by kernel_rfl) rfl fun ops anc hA hG=>?_
    simp (maxDischargeDepth:=6) only[g2,g3,g4,g5,nK2,j0,j1,j2,j3,l0,l1,l2,l3,qk_old,ruD,ruW,putL,Nat.reduceLeDiff,xF,ruU,entryE,Nat.reduceLT,Nat.reduceAdd,Nat.reduceMul,Nat.reduceEqDiff]
    generalize hK3:uw K2 (b+0) 0 _=K3
    have mK3:Mod [b+0,b+1] K2 K3:=hK3▸Mod.uw (by simp)
    have nK3:K3.next=K1.next:=by rw[←hK3,uw_next,nK2]
    have k0:bk K3 (b+0)=some ⟨23,false,[.slice none 0 0]⟩:=by rw[←hK3,bk_uw_eq,j0]; rfl
    have k1:bk K3 (b+1)=some ⟨26,false,[.int .i64 0,.int .i64 0]⟩:=by rw[←hK3,bk_uw_ne (by omega),j1]
    generalize hK4:uw K3 (b+1) 0 _=K4
    have mK4:Mod [b+0,b+1] K3 K4:=hK4▸Mod.uw (by simp)
    have nK4:K4.next=K1.next:=by rw[←hK4,uw_next,nK3]
    have p0:bk K4 (b+0)=some ⟨23,false,[.slice none 0 0]⟩:=by rw[←hK4,bk_uw_ne (by omega),k0]
    have p1:bk K4 (b+1)=some ⟨26,false,[.int .i64 4,.int .i64 (rs0.length:Int)]⟩:=by rw[←hK4,bk_uw_eq,k1]; rfl
    have hdK4:K4.get (b+7)=K2.get (b+7):=((hK4▸uw_get (by omega)):K4.get (b+7)=K3.get (b+7)).trans (hK3▸uw_get (by omega))
    refine lv_mark ⟨_,_,hdK4.trans (hdK2.trans (hdK1.trans hdf))⟩ ?_
    rw[ext_nil]
    generalize hK5:K4.upd (b+7) _=K5
    have mK5:Mod [b+7] K4 K5:=hK5▸Mod.upd (by simp)
    have nK5:K5.next=K1.next:=(hK5▸rfl:K5.next=K4.next).trans nK4
    have r0:bk K5 (b+0)=_:=(bk_get (by rw[←hK5,AHeap.get_upd,if_neg (by omega)])).trans p0
    have r1:bk K5 (b+1)=_:=(bk_get (by rw[←hK5,AHeap.get_upd,if_neg (by omega)])).trans p1
    have mE:Mod [b+0,b+1,b+7,b+7+1] K1 K5:=(((mK2.mono (by simp)).trans (mK3.mono (by simp))).trans (mK4.mono (by simp))).trans (mK5.mono (by simp))
    have hmm:Mod [] H K5:=mHK1.step mE hok fun n hn=>by
     simp only[zA7,zD6,or_false]at hn
     right; omega
    rw[show K5=ext K5 [] from rfl]
    simp (maxDischargeDepth:=6) only[Tryz.results12,g2,g3,nK5,l0,l1,r0,r1,ruW,putL,Nat.reduceLeDiff,xF,ruU,entryE,Nat.reduceLT,Nat.reduceAdd,Nat.reduceMul,Nat.reduceEqDiff]
    refine⟨.inl ?_,hmm⟩
    have h6:=of_decide_eq_true hd2
    unfold parsedR
    rw[hpr,if_neg (by simp),if_pos (by simp only; omega)]
    exact⟨by simp,rfl⟩
   |false =>
    simp (maxDischargeDepth:=6) only[g2,g3,g4,g5,nK2,j0,j1,j2,j3,l0,l1,l2,l3,b2,d10,hsv,hd2,uw_next,bk_uw_ne,ne_eq,not_false_eq_true,ruW,putL,Nat.reduceLeDiff,xF,ruU,entryE,Nat.reduceLT,Nat.reduceAdd,Nat.reduceMul,Nat.reduceEqDiff]
    generalize hK3:uw K2 (b+0) 0 _=K3
    have mK3:Mod [b+0,b+1] K2 K3:=hK3▸Mod.uw (by simp)
    have nK3:K3.next=K1.next:=by rw[←hK3,uw_next,nK2]
    have k0:bk K3 (b+0)=some ⟨23,false,[.slice va (outP rs0).length (outP rs0).length]⟩:=by rw[←hK3,bk_uw_eq,j0]; rfl
    have k1:bk K3 (b+1)=some ⟨26,false,[.int .i64 0,.int .i64 0]⟩:=by rw[←hK3,bk_uw_ne (by omega),j1]
    generalize hK4:uw K3 (b+1) 0 _=K4
    have mK4:Mod [b+0,b+1] K3 K4:=hK4▸Mod.uw (by simp)
    have nK4:K4.next=K1.next:=by rw[←hK4,uw_next,nK3]
    have p0:bk K4 (b+0)=some ⟨23,false,[.slice va (outP rs0).length (outP rs0).length]⟩:=by rw[←hK4,bk_uw_ne (by omega),k0]
    have p1:bk K4 (b+1)=some ⟨26,false,[.int .i64 0,.int .i64 0]⟩:=by rw[←hK4,bk_uw_eq,k1]; rfl
    have hdK4:K4.get (b+7)=K2.get (b+7):=((hK4▸uw_get (by omega)):K4.get (b+7)=K3.get (b+7)).trans (hK3▸uw_get (by omega))
    refine lv_mark ⟨_,_,hdK4.trans (hdK2.trans (hdK1.trans hdf))⟩ ?_
    rw[ext_nil]
    generalize hK5:K4.upd (b+7) _=K5
    have mK5:Mod [b+7] K4 K5:=hK5▸Mod.upd (by simp)
    have nK5:K5.next=K1.next:=(hK5▸rfl:K5.next=K4.next).trans nK4
    have r0:bk K5 (b+0)=_:=(bk_get (by rw[←hK5,AHeap.get_upd,if_neg (by omega)])).trans p0
    have r1:bk K5 (b+1)=_:=(bk_get (by rw[←hK5,AHeap.get_upd,if_neg (by omega)])).trans p1
    have mE:Mod [b+0,b+1,b+7,b+7+1] K1 K5:=(((mK2.mono (by simp)).trans (mK3.mono (by simp))).trans (mK4.mono (by simp))).trans (mK5.mono (by simp))
    have hmm:Mod [] H K5:=mHK1.step mE hok fun n hn=>by
     simp only[zA7,zD6,or_false]at hn
     right; omega
    rw[show K5=ext K5 [] from rfl]
    simp (maxDischargeDepth:=6) only[Tryz.results12,g2,g3,nK5,l0,l1,r0,r1,ruW,putL,Nat.reduceLeDiff,xF,ruU,entryE,Nat.reduceLT,Nat.reduceAdd,Nat.reduceMul,Nat.reduceEqDiff]
    refine⟨.inr ?_,hmm⟩
    have h6:=of_decide_eq_false hd2
    unfold parsedR
    rw[hpr,if_neg (by simp),if_neg (by simp only; omega)]
    refine⟨rfl,v,by rw[ev],?_,fun n hn=>by have:=hvi n hn; omega⟩
    exact hv.of mE.next fun n hn=>mE.get n (hv.ne n hn).2 (fun h=>by
     have h1:=hvi n hn
     have h2:=hvd n hn
     simp only[zA7,zD6,or_false]at h
     omega)
 ·have hpr:parseR (linesR s) 0 []=([],errP r,rs0.length):=by
   have:=(parse_of (ls:=linesR s) (k:=0) (out:=[]) hrs hall).2 r rfl hne hr
   simpa using this
  have hnz:=err_ne hne hr
  refine⟨_,_,_,hl1.get,by simp[lpP],rfl,?_⟩
  generalize hK2:setLoop K1 (b+7+1) _ _=K2
  have nK2:K2.next=K1.next:=hK2▸rfl
  have j0:bk K2 (b+0)=_:=(hK2▸bk_setLoop (by omega):bk K2 (b+0)=bk K1 (b+0)).trans i0
  have j1:bk K2 (b+1)=_:=(hK2▸bk_setLoop (by omega):bk K2 (b+1)=bk K1 (b+1)).trans i1
  have hdK2:K2.get (b+7)=K1.get (b+7):=hK2▸setLoop_get (by omega)
  have mK2:Mod [b+7+1] K1 K2:=hK2▸Mod.upd (by simp)
  rw[show K2=ext K2 [] from rfl]
  simp (maxDischargeDepth:=6) only[ruW,putL,Nat.reduceLeDiff,xF,ruU,entryE,Nat.reduceLT,Nat.reduceAdd,Nat.reduceMul,Nat.reduceEqDiff]
  refine lv_mark ⟨_,_,hdK2.trans (hdK1.trans hdf)⟩ ?_
  rw[ext_nil]
  generalize hK5:K2.upd (b+7) _=K5
  have mK5:Mod [b+7] K2 K5:=hK5▸Mod.upd (by simp)
  have nK5:K5.next=K1.next:=(hK5▸rfl:K5.next=K2.next).trans nK2
  have e0:bk K5 (b+0)=_:=(bk_get (by rw[←hK5,AHeap.get_upd,if_neg (by omega)])).trans j0
  have e1:bk K5 (b+1)=_:=(bk_get (by rw[←hK5,AHeap.get_upd,if_neg (by omega)])).trans j1
  have l0:b+0<K1.next:=by omega
  have l1:b+1<K1.next:=by omega
  rw[show K5=ext K5 [] from rfl]
  simp (maxDischargeDepth:=6) only[Tryz.results12,g2,g3,nK5,l0,l1,e0,e1,ruW,putL,Nat.reduceLeDiff,xF,ruU,entryE,Nat.reduceLT,Nat.reduceAdd,Nat.reduceMul,Nat.reduceEqDiff]
  refine⟨.inl ?_,?_⟩
  ·unfold parsedR
   rw[hpr,if_pos hnz]
   exact⟨hnz,rfl⟩
  ·refine (mHK1.step mK2 hok (fun n hn=>?_)).step mK5 hok (fun n hn=>?_)<;>(simp only[zA7,zD6,or_false]at hn; right; omega)
set_option maxRecDepth 100000
theorem same14_c (H:AHeap) (v w:Value) (a b:List UInt8) (ha:RdAt H 1 v (bv a) a.length) (hb:RdAt H 1 w (bv b) b.length) (hl:a.length≤100000000):Pure 14 [v,w] H (.bool (decide (a=b))):=by
 obtain⟨x,hx⟩:∃ x,H.next=x:=⟨_,rfl⟩
 obtain⟨a0,c0,e0⟩:=ha.sl
 obtain⟨a1,c1,e1⟩:=hb.sl
 refine callS_fn mixed Tryz.func14 rfl Tryz.ntmps14 (zB9 rfl) fun wf hsc=>?_
 by_cases hne:a.length=b.length
 ·have hd:decide (¬(a.length:Int)=(b.length:Int))=false:=decide_eq_false (by omega)
  rw[e0,e1]
  simp (maxDischargeDepth:=6) only[hd,hx,ruW,putL,Nat.reduceLeDiff,xF,ruU,entryE,Nat.reduceLT,Nat.reduceAdd,Nat.reduceMul,Nat.reduceEqDiff]
  rw[←e0,←e1]
  refine w_env fun E hE=>?_
  have g0:E 0=v:=by rw[hE,e0]; simp only[ruU,entryE,Nat.reduceLT,Nat.reduceAdd,Nat.reduceMul,Nat.reduceEqDiff]
  have g1:E 1=w:=by rw[hE,e1]; simp only[ruU,entryE,Nat.reduceLT,Nat.reduceAdd,Nat.reduceMul,Nat.reduceEqDiff]
  have g5:E 5=.int .i64 ((0:Nat):Int):=by rw[hE]; (simp only[ruU,entryE,Nat.reduceLT,Nat.reduceAdd,Nat.reduceMul,Nat.reduceEqDiff]<;>rfl)
  clear hE
  refine w_loop (fun (j:Nat) E' H'=>H'=ext H []∧j≤a.length∧a.take j=b.take j∧E' 0=v∧E' 1=w∧E' 5=.int .i64 (j:Int)) (fun j=>a.length-j) 0 ⟨rfl,zC2 _,rfl,g0,g1,g5⟩ ?_
  clear g0 g1 g5 E
  rintro j E H' ⟨hH,hj,htk,g0,g1,g5⟩
  rw[hH]
  by_cases hje:j=a.length
  ·have hdj:decide ((j:Int)<(a.length:Int))=false:=decide_eq_false (by omega)
   rw[e0]at g0
   simp (maxDischargeDepth:=6) only[g0,g5,hdj,Tryz.results14,ruW,putL,Nat.reduceLeDiff,xF,ruU,entryE,Nat.reduceLT,Nat.reduceAdd,Nat.reduceMul,Nat.reduceEqDiff]
   have:decide (a=b)=true:=by
    rw[zD8 (by omega),zD8 (by omega)]at htk
    exact decide_eq_true htk
   rw[this]
   exact Fin.pureE rfl rfl
  ·have hjl:j<a.length:=by omega
   have hdj:decide ((j:Int)<(a.length:Int))=true:=decide_eq_true (by omega)
   obtain⟨n,off,s,c,e,o,M,k1,n1,r1,m1⟩:=ha.one hjl
   have hjb:j<b.length:=by omega
   obtain⟨n',off',s',c',e',o',M',k2,n2,r2,m2⟩:=hb.one hjb
   rw[bv_get,zB1 hjl,zA6]at m1
   rw[bv_get,zB1 hjb,zA6]at m2
   have i1:=ia_of (P:=Tryz.prog) (k:=.i64) (i:=j) (n:=n) (off:=off) (len:=a.length) (cap:=c) (s:=s) u23 s5 hjl
   have i2:=ia_of (P:=Tryz.prog) (k:=.i64) (i:=j) (n:=n') (off:=off') (len:=b.length) (cap:=c') (s:=s') u23 s5 hjb
   rw[zC5]at i1 i2
   rw[hx]at n1 n2
   have hw:IntKind.i64.wrap ((j:Int)+1)=((j+1:Nat):Int):=wrap_succ (by omega)
   obtain⟨d,hdd⟩:∃ d,decide (¬((a[j].toNat:Nat):Int)=((b[j].toNat:Nat):Int))=d:=⟨_,rfl⟩
   rw[k1]at g0
   rw[k2]at g1
   simp (maxDischargeDepth:=6) only[g0,g1,g5,hx,hdj,ruW,putL,Nat.reduceLeDiff,xF,ruU,entryE,Nat.reduceLT,Nat.reduceAdd,Nat.reduceMul,Nat.reduceEqDiff]
   refine w_drawB [] [] (by kernel_rfl) (by kernel_rfl) rfl fun ops anc hA hG=>?_
   simp (maxDischargeDepth:=6) only[g0,g1,g5,hx,i1,i2,n1,n2,r1,r2,m1,m2,hdd,qk_old,ruD,ruW,putL,Nat.reduceLeDiff,xF,ruU,entryE,Nat.reduceLT,Nat.reduceAdd,Nat.reduceMul,Nat.reduceEqDiff]
   cases d with
   |true =>
    have:=of_decide_eq_true hdd
    simp (maxDischargeDepth:=6) only[g0,g1,g5,Tryz.results14,ruW,putL,Nat.reduceLeDiff,xF,ruU,entryE,Nat.reduceLT,Nat.reduceAdd,Nat.reduceMul,Nat.reduceEqDiff]
    have:decide (a=b)=false:=decide_eq_false fun e=>by subst e; exact this rfl
    rw[this]
    exact Fin.pureE rfl rfl
   |false =>
    have hq:=of_decide_eq_false hdd
    have hab:a[j]=b[j]:=UInt8.toNat_inj.1 (by omega)
    simp (maxDischargeDepth:=6) only[g0,g1,g5,hw,ruW,putL,Nat.reduceLeDiff,xF,ruU,entryE,Nat.reduceLT,Nat.reduceAdd,Nat.reduceMul,Nat.reduceEqDiff]
    refine loopC_next ⟨j+1,by omega,rfl,by omega,?_,?_,?_,?_⟩
    ·rw[List.take_add_one,List.take_add_one,htk,zB1 hjl,zB1 hjb,hab]
    ·rw[k1]; simp only[g0,ruU,entryE,Nat.reduceLT,Nat.reduceAdd,Nat.reduceMul,Nat.reduceEqDiff]
    ·rw[k2]; simp only[g1,ruU,entryE,Nat.reduceLT,Nat.reduceAdd,Nat.reduceMul,Nat.reduceEqDiff]
    ·simp only[hw,ruU,entryE,Nat.reduceLT,Nat.reduceAdd,Nat.reduceMul,Nat.reduceEqDiff]
 ·have hd:decide (¬(a.length:Int)=(b.length:Int))=true:=decide_eq_true (by omega)
  rw[e0,e1]
  simp (maxDischargeDepth:=6) only[hd,hx,Tryz.results14,ruW,putL,Nat.reduceLeDiff,xF,ruU,entryE,Nat.reduceLT,Nat.reduceAdd,Nat.reduceMul,Nat.reduceEqDiff]
  have:decide (a=b)=false:=decide_eq_false fun e=>hne (by rw[e])
  rw[this]
  exact Fin.pureE rfl rfl
abbrev kpa1:List Value:=[.int .i64 0,.int .i64 0,.int .i64 1,.int .i64 1,.string ⟨#[100,114,111,112,10]⟩,.int .i64 9,.int .i64 0]
abbrev kpa2:List Value:=[.int .i64 0,.int .i64 0,.int .i64 1,.int .i64 1,.string ⟨#[99,111,110,115,116,32,48,10]⟩,.int .i64 13,.int .i64 0]
abbrev kpa3:List Value:=[.int .i64 0,.int .i64 0,.int .i64 1,.int .i64 1,.string ⟨#[106,117,109,112,32,49,10]⟩,.int .i64 5,.int .i64 0]
abbrev kpa4:List Value:=[.int .i64 0,.int .i64 0,.int .i64 1,.int .i64 1,.string ⟨#[114,101,116,117,114,110,10]⟩,.int .i64 9,.int .i64 0]
abbrev kpa5:List Value:=[.int .i64 0,.int .i64 0,.int .i64 1,.int .i64 1,.string ⟨#[99,111,110,115,116,32,49,10]⟩,.int .i64 3,.int .i64 0]
abbrev kpa6:List Value:=[.int .i64 0,.int .i64 0,.int .i64 2,.int .i64 2,.string ⟨#[99,111,110,115,116,32,48,10,99,97,116,99,104,32,49,49,10,99,111,110,115,116,32,49,10,100,111,110,101,10,114,101,116,117,114,110,10]⟩,.int .i64 5,.int .i64 3]
abbrev kpa7:List Value:=[.int .i64 2,.int .i64 2,.int .i64 4,.int .i64 1,.string ⟨#[99,111,110,115,116,32,48,10,99,111,112,121,32,50,10,99,111,112,121,32,50,10,99,97,108,108,32,50,10,114,101,116,117,114,110,10]⟩,.int .i64 12,.int .i64 6]
abbrev kpl0:List (FuncId × List Value × Value):=[]
abbrev kpl1:List (FuncId × List Value × Value):=(37,kpa1,.bool true)::kpl0
abbrev kpl2:List (FuncId × List Value × Value):=(37,kpa2,.bool true)::kpl1
abbrev kpl3:List (FuncId × List Value × Value):=(37,kpa3,.bool true)::kpl2
abbrev kpl4:List (FuncId × List Value × Value):=(37,kpa4,.bool true)::kpl3
abbrev kpl5:List (FuncId × List Value × Value):=(37,kpa5,.bool true)::kpl4
abbrev kpl6:List (FuncId × List Value × Value):=(37,kpa6,.bool true)::kpl5
abbrev kpl7:List (FuncId × List Value × Value):=(37,kpa7,.bool true)::kpl6
end Go.Proofs.YtnigelgcjfhghaaGreatDoor
