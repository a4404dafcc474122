/- Parts of the proof, one behind the other. -/
import Derived.Test.YtnigelgcjfhghaaGreatDoorM4
import Derived.Test.YtnigelgcjfhghaaGreatDoorM5
import Derived.Test.YtnigelgcjfhghaaGreatDoorM19
import Derived.Test.YtnigelgcjfhghaaGreatDoorM3
import Derived.Test.YtnigelgcjfhghaaGreatDoorM6
set_option linter.all false
set_option maxRecDepth 10000
set_option maxHeartbeats 16000000
open And renaming intro -> zA0
open Option renaming bind_eq_bind -> zA1, bind_eq_some_iff -> zA2, bind_some -> zA3, map_some -> zA6, map_eq_some_iff -> zB2
open List renaming mem_singleton -> zA4, getElem?_eq_getElem -> zA5, length_cons -> zA8, getD_eq_getElem?_getD -> zA9, mem_cons -> zB0, map_cons -> zB4, mem_append -> zB7, mem_cons_self -> zB8, mem_cons_of_mem -> zB9, length_nil -> zC5, length_append -> zC6, length_singleton -> zC7, length_map -> zC8, flatMap_cons -> zD1, all_eq_true -> zD4, mem_map -> zD5, nil_append -> zD6, getElem?_cons_succ -> zD7, length_take -> zE1, append_nil -> zE2, getElem?_eq_none -> zE3, not_mem_nil -> zE4, getElem?_map -> zE5, getElem?_eq_some_iff -> zE6, eq_nil_of_length_eq_zero -> zE7, take_of_length_le -> zE8, getElem?_cons_zero -> zE9, drop_zero -> zF0, mem_of_getElem? -> zF2, map_nil -> zF3, getElem_mem -> zF4, map_append -> zF5
open Bool renaming and_eq_true -> zA7, false_eq_true -> zC1, and_self -> zC9, or_eq_false_iff -> zF6
open Nat renaming le_refl -> zB1, le_of_ble_eq_true -> zB3, zero_le -> zC0, le_trans -> zC2, zero_add -> zC3, lt_succ_self -> zC4, mul_one -> zD0, lt_of_lt_of_le -> zD2, lt_or_ge -> zD3, eq_of_beq_eq_true -> zD8, ble_eq -> zD9, add_zero -> zE0, le_of_eq -> zF1
open Int renaming toNat_natCast -> zB5, cast_ofNat_Int -> zB6

namespace Go.Proofs.YtnigelgcjfhghaaGreatDoor
open Go.Ax
set_option maxRecDepth 100000
set_option maxRecDepth 100000
def hsR:Except (Int × Int) Ks->List Int
 |.error _=>[]
 |.ok ks=>hghR ks
def erR:Except (Int × Int) Ks->Int × Int
 |.error f=>f
 |.ok _=>(0,0)
theorem hgt_norm {r:Except (Int × Int) Ks} {out:Out} {X:AHeap} (h:HgtOut r out X):∃ w,out=.ok (.tuple #[w,fltV (erR r).1 (erR r).2])/\ArgA X w (hsR r):=by
 cases r with
 |error f=>exact⟨_,h,VsAt.nil⟩
 |ok ks =>
  obtain⟨w,h1,h2⟩:=h
  exact⟨w,h1,h2⟩
set_option maxRecDepth 100000
theorem ver_of_ok {R:Except (Int × Int) Ks} (hne:∀ f,R=.error f->f.1≠0) (h:(erR R).1=0):∃ ks,R=.ok ks:=by
 cases R with
 |error f=>exact absurd h (hne f rfl)
 |ok ks=>exact⟨ks,rfl⟩
theorem arg_mod0 {X G:AHeap} {w:Value} {args:List Int} (h:ArgA X w args) (m:Mod [] X G):ArgA G w args:=VsAt.of h m.next fun k hk=>m.get k (VsAt.ne h k hk).2 (by simp)
set_option maxRecDepth 100000
theorem pick2_c (x n:Int) (hn:1<=n) (h2:n<=2000000000):∃ r:Nat,(r:Int)<n/\∀ H:AHeap,Pure 35 [.int .i64 x,.int .i64 n] H (.int .i64 (r:Int)):=by
 have hd:decide (n<=0)=false:=decide_eq_false (by omega)
 have hnz:n≠0:=by omega
 have h3:=Int.lt_tmod_of_pos x (show 0<n by omega)
 have h4:=Int.tmod_lt_of_pos x (show 0<n by omega)
 by_cases hneg:x.tmod n<0
 ·have hd2:decide (x.tmod n<0)=true:=decide_eq_true hneg
  have hw:IntKind.i64.wrap (x.tmod n+n)=x.tmod n+n:=wrap_sm (by omega) (by omega)
  refine⟨(x.tmod n+n).toNat,by omega,fun H=>?_⟩
  rw[Int.toNat_of_nonneg (by omega)]
  refine callS_fn mixed Tryz.func35 rfl Tryz.ntmps35 (zB3 rfl) fun wf hsc=>?_
  simp only[hd,hnz,hd2,hw,Tryz.results35,ruW,ruU,entryE,Nat.reduceLT,Nat.reduceAdd,Nat.reduceEqDiff]
  exact Fin.pureE rfl rfl
 ·have hd2:decide (x.tmod n<0)=false:=decide_eq_false hneg
  refine⟨(x.tmod n).toNat,by omega,fun H=>?_⟩
  rw[Int.toNat_of_nonneg (by omega)]
  refine callS_fn mixed Tryz.func35 rfl Tryz.ntmps35 (zB3 rfl) fun wf hsc=>?_
  simp only[hd,hnz,hd2,Tryz.results35,ruW,ruU,entryE,Nat.reduceLT,Nat.reduceAdd,Nat.reduceEqDiff]
  exact Fin.pureE rfl rfl
theorem law9_c (H:AHeap) (least most depth:Int) (u p q:Value) (l:List UInt8) (w:List (Int × Int)) (ns:List Int) (hu:RdAt H 1 u (bv l) l.length) (hp:RdAt H 2 p (wdC w) w.length) (hq:RdAt H 1 q (iv ns) ns.length) (su:scb H.next u=true) (sp:scb H.next p=true) (sq:scb H.next q=true) (hok:H.base<=H.next) :
  CallA Tryz.prog 9 [cdV least most depth u p,q] H (fun out X=>out=.ok (.bool true)/\Mod [] H X):=by
 obtain⟨b,hb⟩:=Go.Ax.exq H.next
 have hbase:H.base<=b:=hb▸hok
 obtain⟨ua,uc,eu⟩:=hu.sl
 obtain⟨pa,pc,ep⟩:=hp.sl
 obtain⟨qa,qc,eq⟩:=hq.sl
 have su0:=su
 have sp0:=sp
 rw[hb,eu]at su
 rw[hb,ep]at sp
 refine callE_fn mixed Tryz.func9 rfl Tryz.ntmps9 (zB3 rfl) ?_
 unfold cdV
 rw[eu,ep,eq]
 simp only[hb,su,sp,ruW,xF,ruU,entryE,Nat.reduceLT,Nat.reduceAdd,Nat.reduceEqDiff]
 refine (codeKnown_c (ext H _)).to ?_
 simp only[hb,ruW,Nat.reduceLeDiff,xF,ruU,Nat.reduceLT,Nat.reduceAdd,Nat.reduceEqDiff]
 generalize hX:ext H _=X
 have mX:Mod [] H X:=hX▸Mod.ext hok
 have nX:X.next=b+1:=by rw[<-hX,ext_next,hb]; rfl
 have k0:bk X (b+0)=some ⟨33,false,[.int .i64 least,.int .i64 most,.int .i64 depth,.slice ua l.length uc,.slice pa w.length pc]⟩:=by rw[<-hX,bk_at hb (by simp)]; rfl
 clear hX
 have okX:=mX.ok hok
 have huX:RdAt X 1 (.slice ua l.length uc) (bv l) l.length:=eu▸hu.mod0 mX
 have suX:scb X.next (.slice ua l.length uc)=true:=by rw[nX]; exact scb_mono (by omega) _ su
 have spX:scb X.next (.slice pa w.length pc)=true:=by rw[nX]; exact scb_mono (by omega) _ sp
 refine (heights16_c X least most depth _ pa w.length pc l huX suX spX okX).mono ?_
 rintro out Y ⟨mY,ho⟩
 obtain⟨h1,rfl,a1⟩:=hgt_norm ho
 clear ho
 obtain⟨R,hR⟩:=Go.Ax.exq (verA least most depth w.length l)
 obtain⟨hs,hhs⟩:∃ q,hsR R=q:=⟨_,rfl⟩
 obtain⟨⟨e,a⟩,hea⟩:∃ q,erR R=q:=⟨_,rfl⟩
 rw[hR,hhs]at a1
 rw[hR,hea]
 obtain⟨x1,ex1⟩:=a1.len
 obtain⟨y,hy⟩:∃ n,Y.next=n:=⟨_,rfl⟩
 have okY:=mY.ok okX
 have yb:Y.base<=y:=hy▸okY
 have ly:b+1<=y:=by have:=mY.next; omega
 have k0Y:=(mY.bk (by omega) (by simp)).trans k0
 have jb:b+0<y:=by omega
 obtain⟨c1,hc1⟩:∃ q,decide ((400:Int)<(l.length:Int))=q:=⟨_,rfl⟩
 obtain⟨c2,hc2⟩:∃ q,decide ((300:Int)<(w.length:Int))=q:=⟨_,rfl⟩
 obtain⟨c4,hc4⟩:∃ q,decide ((300:Int)<(ns.length:Int))=q:=⟨_,rfl⟩
 obtain⟨c3,hc3⟩:∃ q,decide (¬e=0)=q:=⟨_,rfl⟩
 rw[show Y=ext Y [] from rfl]
 rw[ex1]
 by_cases hbad:c1=true\/c2=true\/c4=true\/c3=true
 ·have fin:∀ L,Mod [] H (ext Y L):=fun L=>(mX.trans mY).trans (Mod.ext okY)
  have hcs:c1=true\/c1=false/\c2=true\/c1=false/\c2=false/\c4=true\/c1=false/\c2=false/\c4=false/\c3=true:=by
   cases c1<;>cases c2<;>cases c3<;>cases c4<;>simp at hbad ⊢
  rcases hcs with rfl|⟨rfl,rfl⟩|⟨rfl,rfl,rfl⟩|⟨rfl,rfl,rfl,rfl⟩
  all_goals
   simp only[fltV,hy,yb,jb,k0Y,hc1,hc2,hc3,hc4,qk_old,Tryz.results9,ruW,putL,Nat.reduceLeDiff,xF,ruU,Nat.reduceLT,Nat.reduceAdd,Nat.reduceEqDiff]
   exact⟨trivial,fin _⟩
 obtain⟨rfl,rfl,rfl,rfl⟩:c1=false/\c2=false/\c3=false/\c4=false:=by
  cases c1<;>cases c2<;>cases c3<;>cases c4<;>simp at hbad ⊢
 have n1:=of_decide_eq_false hc1
 have n3:=of_decide_eq_false hc3
 have n4:=of_decide_eq_false hc4
 have he0:e=0:=by omega
 have hver:=verA_eq (least:=least) (most:=most) (depth:=depth) (cn:=w.length) (bs:=l) (by omega)
 obtain⟨ks,hks⟩:∃ ks,R=.ok ks:=ver_of_ok (fun f hf=>ver_ne (show verA least most depth w.length l=.error f by rw[hR,hf])) (by rw[hea]; exact he0)
 have hhk:hs=hghR ks:=by rw[<-hhs,hks]; rfl
 have hok1:verR least most depth w.length l=.ok ks:=by rw[<-hver,hR,hks]
 obtain⟨v1,v2,v3,v4,v5,v6⟩:=ver_ok hok1
 obtain⟨w1,w2,w3,w4⟩:=ver_fix hok1
 simp only[fltV,hy,yb,jb,k0Y,hc1,hc2,hc3,hc4,qk_old,ruW,putL,Nat.reduceLeDiff,xF,ruU,Nat.reduceLT,Nat.reduceAdd,Nat.reduceEqDiff]
 generalize hZ:ext Y _=Z
 have mZ:Mod [] Y Z:=hZ▸Mod.ext okY
 have nZ:Z.next=y+1:=by rw[<-hZ,ext_next,hy]; rfl
 clear hZ
 have okZ:=mZ.ok okY
 have mHZ:=(mX.trans mY).trans mZ
 have k0Z:=(mZ.bk (by omega) (by simp)).trans k0Y
 refine (decode_c Z (.slice ua l.length uc) l (by omega) (eu▸hu.mod0 mHZ) (by rw[nZ]; exact scb_mono (by omega) _ su) okZ).mono ?_
 rintro out A ⟨ho,mA⟩
 unfold DecOut at ho
 rw[v2]at ho
 obtain⟨lv,ls,rfl,hls,own⟩:=ho
 obtain⟨la,elv⟩:=own.vs.len
 obtain⟨n,hn⟩:=Go.Ax.exq A.next
 have okA:=mA.ok okZ
 have ab:A.base<=n:=hn▸okA
 have ln:y+1<=n:=by have:=mA.next; omega
 have k0A:=(mA.bk (by omega) (by simp)).trans k0Z
 have jn:b+0<n:=by omega
 have hNF:∀ i:Decidable (¬True),@decide (¬True) i=false:=fun i=>by simp
 have hll:ls.length=(insA l).length:=by rw[<-hls,zC8]
 have hlpos:0<(insA l).length:=List.length_pos_iff.2 v3
 have hhl:hs.length=ls.length:=by rw[hhk,hghR,zC8,w1,hll]
 have hil:=(ins_len v2).1
 have g1:decide ((ls.length:Int)=0)=false:=decide_eq_false (by omega)
 have g2:decide (¬(hs.length:Int)=(ls.length:Int))=false:=decide_eq_false (by rw[hhl]; simp)
 rw[show A=ext A [] from rfl]
 rw[elv]
 generalize hcode:Code.seq (Code.region 8 _ _) _=code
 simp only[fltV,hn,ab,g1,g2,hNF,ruW,putL,Nat.reduceLeDiff,xF,ruU,Nat.reduceLT,Nat.reduceAdd,Nat.reduceEqDiff]
 subst hcode
 generalize hB:ext A _=B
 have mB:Mod [] A B:=hB▸Mod.ext okA
 have nB:B.next=n+1:=by rw[<-hB,ext_next,hn]; rfl
 clear hB
 have okB:=mB.ok okA
 obtain⟨r,hr⟩:=Go.Ax.exq (n+1)
 rw[hr]at nB
 have bb:B.base<=r:=nB▸okB
 have k0B:=(mB.bk (by omega) (by simp)).trans k0A
 have mHB:=(mHZ.trans mA).trans mB
 have suB:scb B.next (.slice ua l.length uc)=true:=by rw[nB]; exact scb_mono (by omega) _ su
 have spB:scb B.next (.slice pa w.length pc)=true:=by rw[nB]; exact scb_mono (by omega) _ sp
 have vB:VsAt B 59 3 lv (insC ls) ls.length:=own.vs.of mB.next fun k hk=>mB.get k (own.vs.ne k hk).2 (by simp)
 have aB:∀ x∈ls,ArgA B x.2 x.1.args:=fun x hx=>arg_mod0 (own.av x hx) mB
 have h1B:ArgA B h1 hs:=arg_mod0 (arg_mod0 (arg_mod0 a1 mZ) mA) mB
 obtain⟨c,hc⟩:∃ c:Wc,c=⟨least,most,depth,.slice ua l.length uc,.slice pa w.length pc,lv,h1,ls,hs⟩:=⟨_,rfl⟩
 have hcl:c.ls.map (·.1)=insA l:=by rw[hc]; exact hls
 have hmem:∀ x∈ls,x.1∈insA l:=fun x hx=>by rw[<-hls]; exact List.mem_map_of_mem hx
 have hco:WcOk B c:=by
  rw[hc]
  exact⟨okB,⟨vB.rd,fun x hx=>(aB x hx).rd,fun x hx=>VsAt.sc (aB x hx)⟩,VsAt.rd h1B,by simp only; omega,fun x hx=>⟨ins_wf v2 _ (hmem x hx),by have:=(ins_len v2).2 _ (hmem x hx); omega⟩,suB,spB,VsAt.sc vB,VsAt.sc h1B⟩
 have hkf:KsFix c ks:=⟨by rw[hcl,hc]; exact w3,by rw[hcl]; exact w4,ver_bd hok1,by rw[hc]; exact ver_dp hok1,by rw[hcl]; exact w1,by rw[hc]; exact hhk⟩
 have scLv:=VsAt.sc vB
 have scH:=VsAt.sc h1B
 rw[nB]at suB spB scLv scH
 rw[elv]at scLv
 rw[ex1]at scH
 obtain⟨dm,hdm⟩:∃ d,decide (most<0)=d:=⟨_,rfl⟩
 have hhd:=head_bd v1
 have hwl:IntKind.i64.wrap (least+1)=least+1:=wrap_sm (by omega) (by omega)
 have jb2:b+0<r:=by omega
 rw[show B=ext B [] from rfl]
 generalize hcode:Code.seq (Code.region 11 _ _) _=code
 cases dm
 all_goals
  simp only[nB,bb,jb2,k0B,suB,spB,scLv,scH,hdm,hwl,qk_old,ruW,putL,Nat.reduceLeDiff,xF,ruU,Nat.reduceLT,Nat.reduceAdd,Nat.reduceEqDiff]
  subst hcode
  generalize hW:ext B _=W
  have mW:Mod [] B W:=hW▸Mod.ext okB
  have nW:W.next=r+1:=by rw[<-hW,ext_next,nB]; rfl
  have kW:bk W (r+0)=some ⟨68,false,wkC c.least c.most c.depth c.u c.p c.lv c.hv ((0:Nat):Int) (entR least most) 0 (.slice none 0 0)⟩:=by
   rw[<-hW,bk_at nB (by simp),hc]
   unfold entR
   first|rw[if_pos (of_decide_eq_true hdm)]|rw[if_neg (of_decide_eq_false hdm)]
   simp only[elv,ex1]
   rfl
  clear hW
  have okW:=mW.ok okB
  have wW:WkAt B c W (r+0) ((0:Nat):Int) (entR least most) 0 []:=⟨mW,by omega,by omega,⟨_,kW,.inl VsAt.nil,fun q hq=>by simp[idsV]at hq⟩,fun f hf=>by cases hf⟩
  have wkW:WkOk (c.ls.map (·.1)) ks ⟨0,entR least most,0,[]⟩:=⟨w2,fun k f hf=>by simp at hf⟩
  rw[show W=ext W [] from rfl]
  refine w_env fun E hE=>?_
  have g1:E 1=.slice qa ns.length qc:=by rw[hE]; rfl
  have g5:E 5=.bool true:=by rw[hE]; rfl
  have g10:E 10=.pointer (some ⟨r+0,0,none⟩):=by rw[hE]; rfl
  clear hE
  simp only[ruW,ruU,Nat.reduceLT]
  refine w_env fun E3 hE=>?_
  have k1:E3 1=.slice qa ns.length qc:=by rw[hE]; simp only[g1,ruU,Nat.reduceEqDiff]
  have k5:E3 5=.bool true:=by rw[hE]; simp only[g5,ruU,Nat.reduceEqDiff]
  have k10:E3 10=.pointer (some ⟨r+0,0,none⟩):=by rw[hE]; simp only[g10,ruU,Nat.reduceEqDiff]
  have k11:E3 11=.int .i64 ((0:Nat):Int):=by rw[hE]; rfl
  clear hE g1 g5 g10 E
  refine w_loop (fun (j:Nat) E' X'=>j<=ns.length/\(∃ (wk:Wk) (fs:List Wv),WkAt B c X' (r+0) (wk.at':Int) wk.h wk.b fs/\fs.map (·.1)=wk.fs/\WkOk (c.ls.map (·.1)) ks wk)/\X'.base<=X'.next/\E' 1=.slice qa ns.length qc/\E' 5=.bool true/\E' 10=.pointer (some ⟨r+0,0,none⟩)/\E' 11=.int .i64 (j:Int)) (fun j=>ns.length-j) 0 ⟨zC0 _,⟨_,[],by rw[ext_nil]; exact wW,rfl,wkW⟩,by rw[ext_nil]; exact okW,k1,k5,k10,k11⟩ ?_
  clear k1 k5 k10 k11 E3
  rintro j E X' ⟨hj,⟨wk,fs,wX,hfw,hwk⟩,okX',g1,g5,g10,g11⟩
  have mHX:=mHB.trans wX.old
  obtain⟨x,hx⟩:=Go.Ax.exq (X'.next)
  rw[show X'=ext X' [] from rfl]
  by_cases hjl:j<ns.length
  ·have hd:decide ((j:Int)<(ns.length:Int))=true:=decide_eq_true (by omega)
   obtain⟨nq,offq,sq',cq,eqq,oq,Mq,e1,m1,r1,l1⟩:=(hq.mod0 mHX).one hjl
   have e1':=eq.symm.trans e1
   simp only[Value.slice.injEq,true_and]at e1'
   obtain⟨rfl,rfl⟩:=e1'
   have i1:=ia_of (P:=Tryz.prog) (k:=.i64) (i:=j) (n:=nq) (off:=offq) (len:=ns.length) (cap:=qc) (s:=sq') u35 s3 hjl
   rw[zD0]at i1
   rw[iv_get,zA5 hjl,zA6]at l1
   obtain⟨xa,hxa⟩:=Go.Ax.exq (ns[j])
   rw[hxa]at l1
   rw[hx]at m1
   have hw:IntKind.i64.wrap ((j:Int)+1)=((j+1:Nat):Int):=wrap_succ (by omega)
   obtain⟨pk,hpk1,hpk⟩:=pick2_c xa 1073741824 (by decide) (by decide)
   simp only[g1,g10,g11,hx,hd,i1,m1,r1,l1,qk_old,ruW,xF,ruU,Nat.reduceLT,Nat.reduceEqDiff]
   refine (hpk (ext X' [])).to ?_
   simp only[ruW,xF,ruU,Nat.reduceLT,Nat.reduceEqDiff]
   rw[ext_nil]
   refine (steps39_c B c hco ks hkf X' (r+0) wk fs pk wX hfw hwk (by omega) okX').mono ?_
   rintro _ F ⟨oF,on,rfl,hon⟩
   have okF:=oF.ok okB
   rw[show F=ext F [] from rfl]
   cases on with
   |false =>
    simp only[g5,Tryz.results9,ruW,ruU,Nat.reduceLT,Nat.reduceEqDiff]
    rw[ext_nil]
    exact⟨trivial,mHB.trans oF⟩
   |true =>
    obtain⟨wk',fs',q1,q2,q3⟩:=hon rfl
    simp only[g11,hw,ruW,ruU,Nat.reduceLT,Nat.reduceEqDiff]
    rw[ext_nil]
    refine loopC_next ⟨j+1,by omega,by omega,⟨wk',fs',q1,q2,q3⟩,okF,?_,?_,?_,?_⟩
    ·exact g1
    ·exact g5
    ·exact g10
    ·rfl
  ·have hd:decide ((j:Int)<(ns.length:Int))=false:=decide_eq_false (by omega)
   simp only[g1,g5,g11,hd,Tryz.results9,ruW,xF,ruU,Nat.reduceLT,Nat.reduceEqDiff]
   rw[ext_nil]
   exact⟨trivial,mHX⟩
end Go.Proofs.YtnigelgcjfhghaaGreatDoor
