/- Parts of the proof, one behind the other. -/
import Derived.Test.YtnigelgcjfhghaaGreatDoorM5
import Derived.Test.YtnigelgcjfhghaaGreatDoorM4
set_option linter.all false
set_option maxRecDepth 10000
set_option maxHeartbeats 16000000
open And renaming intro -> zA0
open Option renaming bind_eq_bind -> zA1, bind_eq_some_iff -> zA2, bind_some -> zA3, map_some -> zA5, map_eq_some_iff -> zB0
open Bool renaming and_eq_true -> zA4, false_eq_true -> zB8, and_self -> zC3
open List renaming getElem?_eq_getElem -> zA6, mem_singleton -> zA7, length_cons -> zA8, mem_cons -> zA9, getD_eq_getElem?_getD -> zB1, map_cons -> zB4, mem_cons_of_mem -> zB6, mem_cons_self -> zB7, mem_append -> zC0, all_eq_true -> zC2, mem_map -> zC4, length_append -> zC8, length_singleton -> zC9, nil_append -> zD0, length_nil -> zD1, length_map -> zD5, not_mem_nil -> zD6, getElem?_cons_succ -> zD7, flatMap_cons -> zD8, getElem?_eq_none -> zE1, take_of_length_le -> zE2, append_nil -> zE3, getElem?_cons_zero -> zE5, eq_nil_of_length_eq_zero -> zE6, length_take -> zE7
open Nat renaming le_refl -> zB2, le_of_ble_eq_true -> zB3, zero_le -> zB5, le_trans -> zB9, lt_succ_self -> zC1, zero_add -> zC5, lt_or_ge -> zC6, mul_one -> zC7, eq_of_beq_eq_true -> zD2, add_zero -> zD3, lt_of_lt_of_le -> zD4, ble_eq -> zD9
open Int renaming cast_ofNat_Int -> zE0, toNat_natCast -> zE4

namespace Go.Proofs.YtnigelgcjfhghaaGreatDoor
open Go.Ax
set_option maxRecDepth 100000
def StcOut (X:AHeap) (v r:Nat) (least most depth:Int) (u p:Value) (out:Out) (nx:Nat) (bs:List UInt8):Option (Int × Int)->Prop
 |some f=>out=.error [faultP f.1 f.2]
 |none=>out=.ok (.tuple #[])/\∃ lv ls ix d1,VAt X v r ix nx d1 least most depth u p lv ls (List.replicate (insA bs).length none) (.slice none 0 0) []/\ls.map (·.1)=insA bs/\d1<=X.next/\scb X.next lv=true
theorem bad_ne {bs:List UInt8} {r:Ins × Int} (h:badA bs=some r):r.2≠0:=by
 have:=List.find?_some h
 simpa using this
theorem own_nil' (b:Nat) (X:AHeap):OwnI b X (.slice none 0 0) []:=⟨VsAt.nil,fun x hx=>by simp at hx,fun n hn=>by simp[idsV]at hn,fun x hx=>by simp at hx,by simp⟩
theorem dec24_c (H:AHeap) (u:Value) (ba:Option Addr) (bc:Nat) (bs:List UInt8) (eu:u=.slice ba bs.length bc) (hb:RdAt H 1 u (bv bs) bs.length) (hsc:scb H.next u=true) (hok:H.base<=H.next):CallA Tryz.prog 24 [u] H (fun out X=>Mod [] H X/\∃ lv ls e a,out=.ok (.tuple #[lv,.agg ⟨[.int .i64 e,.int .i64 a]⟩])/\OwnI H.next X lv ls/\((e≠0/\decF bs=some (e,a))\/(e=0/\decF bs=none/\badA bs=none/\ls.map (·.1)=insA bs))):=by
 unfold decF
 by_cases hl:60000<bs.length
 ·rw[if_pos hl,eu]
  refine (decodeLong_c H ba bs.length bc hl).to ?_
  exact⟨Mod.refl,.slice none 0 0,[],4,60000,rfl,own_nil' _ _,.inl ⟨by decide,rfl⟩⟩
 ·rw[if_neg hl]
  refine (decode_c H u bs (by omega) hb hsc hok).mono ?_
  rintro out X ⟨hd,m⟩
  unfold DecOut at hd
  cases hbad:badA bs with
  |some r =>
   rw[hbad]at hd
   exact⟨m,.slice none 0 0,[],r.2,r.1.pos,hd,own_nil' _ _,.inl ⟨bad_ne hbad,rfl⟩⟩
  |none =>
   rw[hbad]at hd
   obtain⟨v,ls,h1,h2,h3⟩:=hd
   exact⟨m,v,ls,0,0,h1,h3,.inr ⟨rfl,rfl,rfl,h2⟩⟩
theorem static72_c (H:AHeap) (v r:Nat) (least most depth:Int) (u p:Value) (ba ca:Option Addr) (cn cc bc:Nat) (bs:List UInt8) (hv:bk H v=some ⟨90,false,vfC least most depth u p (.slice none 0 0) (.map none) (.map (some r)) (.slice none 0 0)⟩) (hvl:v<H.next) (hr:MpAt H r fun _=>none)
  (eu:u=.slice ba bs.length bc) (ep:p=.slice ca cn cc) (hb1:RdAt H 1 u (bv bs) bs.length) (hu:scb H.next u=true) (hp:scb H.next p=true) (hok:H.base<=H.next) :
  CallA Tryz.prog 72 [.pointer (some ⟨v,0,none⟩)] H (fun out X=>Mod [v] H X/\StcOut X v r least most depth u p out H.next bs (statA least most depth cn bs)):=by
 obtain⟨b,hb⟩:=Go.Ax.exq H.next
 have hbase:H.base<=b:=hb▸hok
 have hvb:v<b:=hb▸hvl
 have kv:=hv
 unfold vfC at kv
 rw[eu,ep]at kv
 rw[hb,eu]at hu
 rw[hb,ep]at hp
 have hu1:=scb_mono (show b<=b+1 by omega) _ hu
 have hp1:=scb_mono (show b<=b+1 by omega) _ hp
 refine callE_fn mixed Tryz.func72 rfl Tryz.ntmps72 (zB3 rfl) ?_
 generalize hc:Code.seq (Code.region 1 _ _) _=code
 simp only[hb,hbase,hvb,kv,hu1,hp1,qk_old,ruW,putL,Nat.reduceLeDiff,xF,ruU,entryE,Nat.reduceLT,Nat.reduceAdd,Nat.reduceEqDiff]
 subst hc
 generalize hX:ext H _=X
 have mX:Mod [] H X:=hX▸Mod.ext hok
 have nX:X.next=b+1:=by rw[<-hX,ext_next,hb]; rfl
 have k0:bk X (b+0)=some ⟨33,false,[.int .i64 least,.int .i64 most,.int .i64 depth,.slice ba bs.length bc,.slice ca cn cc]⟩:=by rw[<-hX,bk_at hb (by simp)]; rfl
 clear hX
 have okX:=mX.ok hok
 obtain⟨x,hx⟩:=Go.Ax.exq X.next
 have j0:b+0<x:=by omega
 refine w_env fun E hE=>?_
 have g0:E 0=.pointer (some ⟨v,0,none⟩):=by rw[hE]; rfl
 have g2:E 2=.pointer (some ⟨b+0,0,none⟩):=by rw[hE]; rfl
 clear hE
 rw[w_seq]
 rw[show X=ext X [] from rfl]
 obtain⟨ok',hok'⟩:∃ q,decide (most=-1\/(least<=most/\most<=255))=q:=⟨_,rfl⟩
 refine w_meet (fun E' X'=>X'=ext X []/\E' 3=.bool ok'/\E' 0=.pointer (some ⟨v,0,none⟩)/\E' 2=.pointer (some ⟨b+0,0,none⟩)) ?_ ?_
 ·obtain⟨m1,hm1⟩:∃ q,decide (most=-1)=q:=⟨_,rfl⟩
  obtain⟨m2,hm2⟩:∃ q,decide (least<=most)=q:=⟨_,rfl⟩
  obtain⟨m3,hm3⟩:∃ q,decide (most<=255)=q:=⟨_,rfl⟩
  cases m1 with
  |true =>
   have e:ok'=true:=by rw[<-hok']; exact decide_eq_true (.inl (of_decide_eq_true hm1))
   subst e
   simp only[g2,hx,j0,k0,hm1,qk_old,ruW,xF,ruU,Nat.reduceLT,Nat.reduceAdd,Nat.reduceEqDiff]
   exact joinR_normal ⟨rfl,by simp only[ruU],by simp only[g0,ruU,Nat.reduceEqDiff],by simp only[g2,ruU,Nat.reduceEqDiff]⟩
  |false =>
   have n1:=of_decide_eq_false hm1
   cases m2 with
   |false =>
    have n2:=of_decide_eq_false hm2
    have e:ok'=false:=by rw[<-hok']; exact decide_eq_false (by omega)
    subst e
    simp only[g2,hx,j0,k0,hm1,hm2,qk_old,ruW,xF,ruU,Nat.reduceLT,Nat.reduceAdd,Nat.reduceEqDiff]
    exact joinR_normal ⟨rfl,by simp only[ruU],by simp only[g0,ruU,Nat.reduceEqDiff],by simp only[g2,ruU,Nat.reduceEqDiff]⟩
   |true =>
    have n2:=of_decide_eq_true hm2
    have e:ok'=m3:=by rw[<-hok',<-hm3]; exact decide_eq_decide.2 (by omega)
    subst e
    simp only[g2,hx,j0,k0,hm1,hm2,hm3,qk_old,ruW,xF,ruU,Nat.reduceLT,Nat.reduceAdd,Nat.reduceEqDiff]
    exact joinR_normal ⟨rfl,by simp only[ruU],by simp only[g0,ruU,Nat.reduceEqDiff],by simp only[g2,ruU,Nat.reduceEqDiff]⟩
 clear g0 g2 E
 rintro E X' ⟨hX',g3,g0,g2⟩
 rw[hX',w_seq]
 obtain⟨R,hR⟩:=Go.Ax.exq (statA least most depth cn bs)
 rw[hR]
 unfold statA at hR
 refine w_meet (fun E' X'=>X'=ext X []/\¬headR least most depth cn=true/\E' 0=.pointer (some ⟨v,0,none⟩)/\E' 2=.pointer (some ⟨b+0,0,none⟩)) ?_ ?_
 ·obtain⟨q1,h1⟩:∃ q,decide (least<0)=q:=⟨_,rfl⟩
  obtain⟨q2,h2⟩:∃ q,decide (255<least)=q:=⟨_,rfl⟩
  obtain⟨q4,h4⟩:∃ q,decide (depth<0)=q:=⟨_,rfl⟩
  obtain⟨q5,h5⟩:∃ q,decide (1000<depth)=q:=⟨_,rfl⟩
  obtain⟨q6,h6⟩:∃ q,decide (65536<(cn:Int))=q:=⟨_,rfl⟩
  have hh:headR least most depth cn=(q1||q2||!ok'||q4||q5||q6):=by
   rw[headR,h1,h2,h4,h5,h6]
   congr 4
   rw[<-hok',<-decide_not,<-Bool.decide_or,<-Bool.decide_and]
   exact decide_eq_decide.2 (by omega)
  cases q1 with
  |true =>
   have hd:headR least most depth cn=true:=by rw[hh]; simp
   rw[if_pos hd]at hR
   simp only[g2,hx,j0,k0,h1,qk_old,ruW,xF,ruU,Nat.reduceLT,Nat.reduceEqDiff]
   refine fail_t _ 3 0 _ ?_
   simp only[opC_error,endA_panic,lv_panic,joinR_panic]
   rw[<-hR]
   exact⟨mX.mono (by simp),rfl⟩
  |false =>
   cases q2 with
   |true =>
    have hd:headR least most depth cn=true:=by rw[hh]; simp
    rw[if_pos hd]at hR
    simp only[g2,hx,j0,k0,h1,h2,qk_old,ruW,xF,ruU,Nat.reduceLT,Nat.reduceEqDiff]
    refine fail_t _ 3 0 _ ?_
    simp only[opC_error,endA_panic,lv_panic,joinR_panic]
    rw[<-hR]
    exact⟨mX.mono (by simp),rfl⟩
   |false =>
    cases ok' with
    |false =>
     have hd:headR least most depth cn=true:=by rw[hh]; simp
     rw[if_pos hd]at hR
     simp only[g2,g3,hx,j0,k0,h1,h2,qk_old,ruW,xF,ruU,Nat.reduceLT,Nat.reduceEqDiff]
     refine fail_t _ 3 0 _ ?_
     simp only[opC_error,endA_panic,lv_panic,joinR_panic]
     rw[<-hR]
     exact⟨mX.mono (by simp),rfl⟩
    |true =>
     cases q4 with
     |true =>
      have hd:headR least most depth cn=true:=by rw[hh]; simp
      rw[if_pos hd]at hR
      simp only[g2,g3,hx,j0,k0,h1,h2,h4,qk_old,ruW,xF,ruU,Nat.reduceLT,Nat.reduceAdd,Nat.reduceEqDiff]
      refine fail_t _ 3 0 _ ?_
      simp only[opC_error,endA_panic,lv_panic,joinR_panic]
      rw[<-hR]
      exact⟨mX.mono (by simp),rfl⟩
     |false =>
      cases q5 with
      |true =>
       have hd:headR least most depth cn=true:=by rw[hh]; simp
       rw[if_pos hd]at hR
       simp only[g2,g3,hx,j0,k0,h1,h2,h4,h5,qk_old,ruW,xF,ruU,Nat.reduceLT,Nat.reduceAdd,Nat.reduceEqDiff]
       refine fail_t _ 3 0 _ ?_
       simp only[opC_error,endA_panic,lv_panic,joinR_panic]
       rw[<-hR]
       exact⟨mX.mono (by simp),rfl⟩
      |false =>
       cases q6 with
       |true =>
        have hd:headR least most depth cn=true:=by rw[hh]; simp
        rw[if_pos hd]at hR
        simp only[g2,g3,hx,j0,k0,h1,h2,h4,h5,h6,qk_old,ruW,xF,ruU,Nat.reduceLT,Nat.reduceAdd,Nat.reduceEqDiff]
        refine fail_t _ 3 0 _ ?_
        simp only[opC_error,endA_panic,lv_panic,joinR_panic]
        rw[<-hR]
        exact⟨mX.mono (by simp),rfl⟩
       |false =>
        simp only[g2,g3,hx,j0,k0,h1,h2,h4,h5,h6,qk_old,ruW,xF,ruU,Nat.reduceLT,Nat.reduceAdd,Nat.reduceEqDiff]
        refine (fail_f _ 3 0).to ?_
        simp only[ruW,Nat.reduceLT]
        exact joinR_normal ⟨rfl,by rw[hh]; simp,by simp only[g0,ruU,Nat.reduceEqDiff],by simp only[g2,ruU,Nat.reduceEqDiff]⟩
 clear g0 g2 g3 E
 rintro E X' ⟨hX',hnh,g0,g2⟩
 rw[hX']
 rw[if_neg hnh]at hR
 have mHX:Mod [v] H X:=mX.mono (by simp)
 have hu2:scb X.next (.slice ba bs.length bc)=true:=by rw[hx]; exact scb_mono (by omega) _ hu
 have hp2:scb x (.slice ca cn cc)=true:=scb_mono (by omega) _ hp
 have hb2:RdAt X 1 (.slice ba bs.length bc) (bv bs) bs.length:=eu▸hb1.mod0 mX
 have kvX:=(mX.bk hvl (by simp)).trans kv
 generalize hc:Code.seq (Code.region 4 _ _) _=code
 simp only[g2,hx,j0,k0,qk_old,ruW,xF,ruU,Nat.reduceLT,Nat.reduceAdd]
 refine (dec24_c (ext X []) _ ba bc bs rfl hb2 hu2 okX).mono ?_
 rintro _ Y ⟨mY,lv,ls,e,a,rfl,own,hdec⟩
 replace mY:Mod [] X Y:=mY
 replace own:OwnI X.next Y lv ls:=own
 obtain⟨y,hy⟩:=Go.Ax.exq Y.next
 have okY:=mY.ok okX
 have yb:Y.base<=y:=hy▸okY
 have hxy:x<=y:=by have:=mY.next; omega
 have slv:scb y lv=true:=hy▸VsAt.sc own.vs
 obtain⟨la,lc,el⟩:=own.rd.rd.sl
 rw[el]at slv
 rw[el]
 rw[show Y=ext Y [] from rfl]
 simp only[hy,yb,ruW,putL,Nat.reduceLeDiff,xF,ruU,Nat.reduceLT,Nat.reduceAdd,Nat.reduceEqDiff]
 subst hc
 generalize hX2:ext Y _=Y2
 have mY2:Mod [] Y Y2:=hX2▸Mod.ext okY
 have nY2:Y2.next=y+1:=by rw[<-hX2,ext_next,hy]; rfl
 have k5:bk Y2 (y+0)=some ⟨26,false,[.int .i64 e,.int .i64 a]⟩:=by rw[<-hX2,bk_at hy (by simp)]; rfl
 clear hX2
 have mXY2:=mY.trans mY2
 have okY2:=mXY2.ok okX
 have yb2:Y2.base<=y+1:=nY2▸okY2
 have k0Y:=(mXY2.bk (by omega) (by simp)).trans k0
 have kvY:=(mXY2.bk (by omega) (by simp)).trans kvX
 have own2:OwnI X.next Y2 lv ls:=own.mod0 mY2
 have jy:y+0<y+1:=by omega
 have jv:v<y+1:=by omega
 refine w_env fun E2 hE=>?_
 replace g0:E2 0=.pointer (some ⟨v,0,none⟩):=by rw[hE]; simp only[g0,ruU,Nat.reduceEqDiff]
 replace g2:E2 2=.pointer (some ⟨b+0,0,none⟩):=by rw[hE]; simp only[g2,ruU,Nat.reduceEqDiff]
 have g4:E2 4=.slice la ls.length lc:=by rw[hE]; rfl
 have g5:E2 5=.pointer (some ⟨y+0,0,none⟩):=by rw[hE]; rfl
 clear hE E
 rw[show Y2=ext Y2 [] from rfl]
 rcases hdec with⟨he,hdF⟩|⟨he,hdF,hbad,hls⟩
 ·have hd:decide (¬e=0)=true:=decide_eq_true he
  rw[hdF]at hR
  simp only[g5,nY2,jy,k5,hd,qk_old,ruW,xF,ruU,Nat.reduceLT,Nat.reduceAdd,Nat.reduceEqDiff]
  refine fail_t _ e a _ ?_
  simp only[opC_error,seqC_panic,endA_panic,lv_panic]
  rw[<-hR]
  exact⟨mHX.trans (mXY2.mono (by simp)),rfl⟩
 rw[hdF]at hR
 subst he
 have hd:decide (¬(0:Int)=0)=false:=by decide
 simp only[g5,nY2,jy,k5,qk_old,ruW,xF,ruU,Nat.reduceLT,Nat.reduceAdd,Nat.reduceEqDiff]
 refine (fail_f _ 0 a).to ?_
 obtain⟨dz,hdz⟩:∃ q,decide ((ls.length:Int)=0)=q:=⟨_,rfl⟩
 have hz:insA bs=[] ↔ dz=true:=by
  rw[<-hdz,decide_eq_true_eq,<-hls,List.map_eq_nil_iff,<-List.length_eq_zero_iff]
  omega
 simp only[g4,hdz,ruW,xF,ruU,Nat.reduceLT,Nat.reduceEqDiff]
 cases dz with
 |true =>
  rw[if_pos (hz.2 rfl)]at hR
  refine fail_t _ 13 0 _ ?_
  simp only[opC_error,seqC_panic,endA_panic,lv_panic]
  rw[<-hR]
  exact⟨mHX.trans (mXY2.mono (by simp)),rfl⟩
 |false =>
 rw[if_neg (fun h=>by have:=hz.1 h; cases this)]at hR
 refine (fail_f _ 13 0).to ?_
 generalize hc:Code.seq (Code.seq (Code.region 7 _ _) _) _=code
 simp only[g0,g4,w_mkmap,ruW,xF,ruU,Nat.reduceLT,Nat.reduceAdd,Nat.reduceEqDiff]
 generalize hX3:AHeap.new (ext Y2 []) (mapO [] 0)=X3
 have mX3:Mod [] Y2 X3:=hX3▸Mod.new okY2
 obtain⟨n,hn⟩:=Go.Ax.exq (y+1)
 rw[hn]at nY2
 have nX3:X3.next=n+1:=by rw[<-hX3]; simp only[AHeap.new_eq]; rw[ext_nil,nY2]
 have gX3:X3.get n=some (mapO [] 0):=by rw[<-hX3]; rw[AHeap.get_new,if_pos (by rw[ext_nil,nY2])]
 clear hX3
 have mp0:MpAt X3 n fun _=>none:=⟨by omega,[],0,gX3,MapsTo.nil⟩
 have okX3:=mX3.ok okY2
 have xb3:X3.base<=n+1:=nX3▸okX3
 have k03:=(mX3.bk (by omega) (by simp)).trans k0Y
 have kv3:=(mX3.bk (by omega) (by simp)).trans kvY
 have slv3:scb (n+1) (.slice la ls.length lc)=true:=scb_mono (by omega) _ slv
 have smp:scb (n+1) (.map (some n))=true:=by simp[scb]
 have jv3:v<n+1:=by omega
 rw[show X3=ext X3 [] from rfl]
 have hn0:n+0=n:=rfl
 have hcm:(Value.map (some n)).cells.toList=[.map (some n)]:=rfl
 have hst1:∀ l,l.length=9->stB Tryz.prog 87 (n+1) 6 (.map (some n)) (some ⟨90,false,l⟩)=some ⟨90,false,putL l 6 [.map (some n)]⟩:=fun l hl=>stB_ok (by kernel_rfl) (by rw[hl]; exact zB3 rfl) rfl (by simp[hcm,scbL,scb])
 simp only[nY2,hn0,nX3,kv3,slv3,jv3,hcm,hst1,zA8,zD1,ruW,putL,Nat.reduceLeDiff,xF,ruU,Nat.reduceLT,Nat.reduceAdd,Nat.reduceEqDiff]
 subst hc
 have kW1:=bk_uw (off:=5) (vs:=[Value.slice la ls.length lc]) kv3 (by simp)
 have kW2:=bk_uw (off:=6) (vs:=[Value.map (some n)]) kW1 (zB3 rfl)
 generalize hW:uw (uw X3 v 5 [Value.slice la ls.length lc]) v 6 [.map (some n)]=W at kW2 ⊢
 have mW:Mod [v] X3 W:=hW▸(Mod.uw (by simp)).trans (Mod.uw (by simp))
 have nW:W.next=n+1:=by rw[<-hW,uw_next,uw_next,nX3]
 clear hW kW1
 have kW:bk W v=some ⟨90,false,[.int .i64 least,.int .i64 most,.int .i64 depth,.slice ba bs.length bc,.slice ca cn cc,.slice la ls.length lc,.map (some n),.map (some r),.slice none 0 0]⟩:=kW2
 clear kW2
 have okW:=mW.ok okX3
 have wb:W.base<=n+1:=nW▸okW
 have hnv:∀ k,k≠v->k∉[v]:=fun k h=>by simpa using h
 have mpW:MpAt W n (ixF ((ls.map (·.1)).take 0)):=by
  rw[List.take_zero,ixF_nil]
  exact mp0.mod mW (hnv _ (by omega))
 have kW0:=(mW.bk (n:=b+0) (by omega) (hnv _ (by omega))).trans k03
 have m2W:Mod [v] Y2 W:=(mX3.mono (by simp)).trans mW
 have hilo:∀ k∈insF lv ls,x<=k/\k<n:=fun k hk=>by
  refine⟨?_,by have:=(own2.rd.ne k hk).2; omega⟩
  rcases zC0.1 hk with hk|hk
  ·have:=own2.lo k (rdF_ids hk); omega
  ·obtain⟨z,hz1,hz2⟩:=List.mem_flatMap.1 hk
   have:=(own2.alo z hz1 k (rdF_ids hz2)).1
   omega
 have iW:InsRd W lv ls:=own2.rd.of m2W.next fun k hk=>m2W.get k (own2.rd.ne k hk).2 (hnv _ (by have:=hilo k hk; omega))
 have hwf:∀ z∈ls,WfI z.1:=fun z hz=>ins_wf hbad _ (hls▸List.mem_map_of_mem hz)
 have hdl:=ins_len hbad
 have hbl:bs.length<=60000:=by
  rcases zC6 60000 bs.length with h|h
  ·unfold decF at hdF
   rw[if_pos h]at hdF
   cases hdF
  ·exact h
 have hll:ls.length<=60000:=by
  have:=hdl.1
  rw[<-hls,zD5]at this
  omega
 have hal:∀ z∈ls,z.1.args.length<=60000:=fun z hz=>by
  have:=hdl.2 _ (hls▸List.mem_map_of_mem hz)
  omega
 have hinc:=ins_inc hbad
 rw[<-hls]at hinc
 rw[show W=ext W [] from rfl]
 simp only[g4,ruW,xF,ruU,Nat.reduceLT,Nat.reduceEqDiff]
 refine w_env fun E3 hE=>?_
 replace g0:E3 0=.pointer (some ⟨v,0,none⟩):=by rw[hE]; simp only[g0,ruU,Nat.reduceEqDiff]
 replace g2:E3 2=.pointer (some ⟨b+0,0,none⟩):=by rw[hE]; simp only[g2,ruU,Nat.reduceEqDiff]
 have g90:E3 90=.slice la ls.length lc:=by rw[hE]; rfl
 replace g4:E3 4=.slice la ls.length lc:=by rw[hE]; simp only[g4,ruU,Nat.reduceEqDiff]
 have g91:E3 91=.int .i64 (ls.length:Int):=by rw[hE]; rfl
 have g92:E3 92=.int .i64 ((0:Nat):Int):=by rw[hE]; rfl
 clear hE g5 E2
 refine w_loop (fun (k:Nat) E' X'=>Mod [n] W X'/\k<=ls.length/\MpAt X' n (ixF ((ls.map (·.1)).take k))/\E' 0=.pointer (some ⟨v,0,none⟩)/\E' 2=.pointer (some ⟨b+0,0,none⟩)/\E' 4=.slice la ls.length lc/\E' 90=.slice la ls.length lc/\E' 91=.int .i64 (ls.length:Int)/\E' 92=.int .i64 (k:Int)) (fun k=>ls.length-k) 0 ⟨Mod.refl,zB5 _,mpW,g0,g2,g4,g90,g91,g92⟩ ?_
 clear g0 g2 g4 g90 g91 g92 E3
 rintro k E V ⟨mV,hk,mpV,g0,g2,g4,g90,g91,g92⟩
 obtain⟨w,hw⟩:=Go.Ax.exq V.next
 have okV:=mV.ok okW
 have vb:V.base<=w:=hw▸okV
 have lw:n+1<=w:=by have:=mV.next; omega
 have hnn:∀ k,k≠n->k∉[n]:=fun k h=>by simpa using h
 have kVv:=(mV.bk (n:=v) (by omega) (hnn _ (by omega))).trans kW
 have kV0:=(mV.bk (n:=b+0) (by omega) (hnn _ (by omega))).trans kW0
 have iV:InsRd V lv ls:=iW.of mV.next fun k hk=>mV.get k (iW.ne k hk).2 (hnn _ (by have:=hilo k hk; omega))
 have jvw:v<w:=by omega
 have j0w:b+0<w:=by omega
 rw[show V=ext V [] from rfl]
 by_cases hke:k=ls.length
 ·have hd:decide ((k:Int)<(ls.length:Int))=false:=decide_eq_false (by omega)
  simp only[g4,g91,g92,hd,ruW,xF,ruU,Nat.reduceLT,Nat.reduceEqDiff]
  have mpF:MpAt V n (ixF (ls.map (·.1))):=by
   have:=mpV
   rw[hke,<-zD5 (f:=(·.1)),List.take_length]at this
   exact this
  refine w_env fun E3 hE=>?_
  replace g0:E3 0=.pointer (some ⟨v,0,none⟩):=by rw[hE]; simp only[g0,ruU,Nat.reduceEqDiff]
  replace g2:E3 2=.pointer (some ⟨b+0,0,none⟩):=by rw[hE]; simp only[g2,ruU,Nat.reduceEqDiff]
  have g105:E3 105=.slice la ls.length lc:=by rw[hE]; rfl
  have g106:E3 106=.int .i64 (ls.length:Int):=by rw[hE]; rfl
  have g107:E3 107=.int .i64 ((0:Nat):Int):=by rw[hE]; rfl
  clear hE g4 g90 g91 g92 E
  obtain⟨l,hl⟩:=Go.Ax.exq (ls.map (·.1))
  have hlen:l.length=ls.length:=by rw[<-hl,zD5]
  rw[hl]at mpF hls
  have hR2:statR l cn=R:=by rw[hls]; exact hR
  refine w_loop (fun (i:Nat) E' X'=>Mod [] V X'/\i<=ls.length/\(∀ j,j<i->∀ y,l[j]?=some y->statO l cn y=none)/\E' 0=.pointer (some ⟨v,0,none⟩)/\E' 2=.pointer (some ⟨b+0,0,none⟩)/\E' 105=.slice la ls.length lc/\E' 106=.int .i64 (ls.length:Int)/\E' 107=.int .i64 (i:Int)) (fun i=>ls.length-i) 0 ⟨Mod.refl,zB5 _,fun j hj=>absurd hj (by omega),g0,g2,g105,g106,g107⟩ ?_
  clear g0 g2 g105 g106 g107 E3
  rintro i E Z ⟨mZ,hi,hall,g0,g2,g105,g106,g107⟩
  obtain⟨z,hz⟩:=Go.Ax.exq Z.next
  have okZ:=mZ.ok okV
  have zb:Z.base<=z:=hz▸okZ
  have lz:w<=z:=by have:=mZ.next; omega
  have mVZ:=mV.trans (mZ.mono (W':=[n]) (by simp))
  have kZv:=(mZ.bk (n:=v) (by omega) (by simp)).trans kVv
  have kZ0:=(mZ.bk (n:=b+0) (by omega) (by simp)).trans kV0
  have iZ:=iV.mod0 mZ
  have mpZ:=mpF.mod mZ (by simp)
  have mHZ:Mod [v] H Z:=by
   have h1:Mod [v] H W:=(mHX.trans (mXY2.mono (by simp))).trans m2W
   exact h1.step mVZ hok fun k hk=>by simp only[zA7]at hk; exact .inr (by omega)
  rw[show Z=ext Z [] from rfl]
  by_cases hie:i=ls.length
  ·have hd:decide ((i:Int)<(ls.length:Int))=false:=decide_eq_false (by omega)
   simp only[g106,g107,hd,Tryz.results72,ruW,ruU,Nat.reduceLT]
   have hn2:statR l cn=none:=stat_not fun j y hy=>hall j (by have:=(List.getElem?_eq_some_iff.1 hy).1; omega) y hy
   rw[hn2]at hR2
   rw[<-hR2]
   have hrv:r≠v:=fun e=>by
    have:=hr.bk
    rw[e,hv]at this
    cases this
   refine⟨mHZ,rfl,lv,ls,n,n,⟨?_,by omega,hb▸hr.1,by rw[ext_nil,hz]; omega,iZ,fun k hk=>by have:=hilo k hk; omega,by rw[hl]; exact mpZ,zB2 _,by have:=hr.1; omega,?_,.inl ⟨rfl,rfl⟩,fun k hk=>by simp[idsV]at hk,fun j t tv hj=>?_⟩,hl.trans hls,by rw[ext_nil]; omega,?_⟩
   ·rw[eu,ep,el]
    exact kZv
   ·rw[stF_rep]
    exact hr.mod mHZ (by simpa using hrv)
   ·rw[List.getElem?_replicate]at hj
    split at hj<;>simp at hj
   ·rw[el,ext_nil,hz]
    exact scb_mono (by omega) _ slv
  ·have hkl:i<ls.length:=by omega
   have hd:decide ((i:Int)<(ls.length:Int))=true:=decide_eq_true (by omega)
   obtain⟨q,hq⟩:∃ q,ls[i]?=some q:=⟨ls[i],zA6 hkl⟩
   obtain⟨m,off,sp,c,e,o,M,e1,m1,r1,ia,ld⟩:=iZ.one hq
   have hwk:IntKind.i64.wrap ((i:Int)+1)=((i+1:Nat):Int):=wrap_succ (by omega)
   rw[el]at e1
   simp only[Value.slice.injEq]at e1
   obtain⟨hla,-,rfl⟩:=e1
   rw[el,hla]at ia
   rw[hla]at g105
   rw[hz]at m1
   have hqm:=List.mem_of_getElem? hq
   have hqw:=hwf q hqm
   have hqa:=hal q hqm
   have hqr:=iZ.av q hqm
   have sq:=iZ.sc q hqm
   have hlq:l[i]?=some q.1:=by rw[<-hl,List.getElem?_map,hq]; rfl
   obtain⟨⟨pos,opi,args⟩,av⟩:=q
   obtain⟨op,rfl⟩:∃ k:Nat,opi=k:=⟨opi.toNat,by have:=hqw.1; simp only at this; omega⟩
   have hop:op<28:=by have:=hqw.2.1; simp only at this; omega
   have hkl2:args.length=(kindsR op args).length:=hqw.2.2.1
   have hcn:cntR op args<=1000000:=by have:=cntR_small (op:=op) (args:=args) hqw.2.2.2; omega
   have hpos:=hqw.pos
   have hfst:=hqw.fst
   simp only[zE4]at hpos hfst hqr hqa
   obtain⟨az,cz,ez⟩:=hqr.sl
   simp only at sq
   rw[hz,ez]at sq
   have sq1:=scb_mono (show z<=z+1 by omega) _ sq
   simp only[ivV,ivC,ez]at ld
   have hso:statO l cn ⟨pos,(op:Int),args⟩=if (constsR op args).any (fun k=>decide ((cn:Int)<=k))=true then some (3,pos) else if op=8/\args.getD 0 0=0 then some (3,pos) else if (targsR op args).any (fun t=>decide (findR l t<0))=true then some (5,pos) else none:=rfl
   generalize hc:Code.seq (Code.region 15 _ _) _=code
   simp only[g105,g106,g107,hz,zb,hd,ia,m1,r1,ld,sq1,qk_old,ruW,putL,Nat.reduceLeDiff,xF,ruU,Nat.reduceLT,Nat.reduceAdd,Nat.reduceEqDiff]
   subst hc
   generalize hZ1:ext Z _=Z1
   have mZ1:Mod [] Z Z1:=hZ1▸Mod.ext okZ
   have nZ1:Z1.next=z+1:=by rw[<-hZ1,ext_next,hz]; rfl
   have kq:bk Z1 (z+0)=some ⟨59,false,[.int .i64 pos,.int .i64 (op:Int),.slice az args.length cz]⟩:=by rw[<-hZ1,bk_at hz (by simp)]; rfl
   clear hZ1
   have okZ1:=mZ1.ok okZ
   have kZ01:=(mZ1.bk (n:=b+0) (by omega) (by simp)).trans kZ0
   have kZv1:=(mZ1.bk (n:=v) (by omega) (by simp)).trans kZv
   have mpZ1:=mpZ.mod mZ1 (by simp)
   have iZ1:=iZ.mod0 mZ1
   have hqr1:RdAt Z1 1 (.slice az args.length cz) (iv args) args.length:=ez▸iZ1.av _ hqm
   have sq2:scb Z1.next (.slice az args.length cz)=true:=by rw[nZ1]; exact sq1
   have zb1:Z1.base<=z+1:=nZ1▸okZ1
   have jz0:z+0<z+1:=by omega
   rw[show Z1=ext Z1 [] from rfl]
   generalize hc:Code.seq (Code.region 20 _ _) _=code
   simp only[nZ1,jz0,kq,qk_old,ruW,Nat.reduceLeDiff,xF,ruU,Nat.reduceLT,Nat.reduceAdd]
   refine (operands96_c (ext Z1 []) pos op (.slice az args.length cz) args 107 hop hqr1 (by omega) hkl2 hcn sq2 okZ1).mono ?_
   rintro _ A ⟨wt,rfl,vt,mA,hlt⟩
   replace mA:Mod [] Z1 A:=mA
   rw[(kinds_agree hop hkl2).1]at vt
   obtain⟨aa,ha⟩:=Go.Ax.exq A.next
   have okA:=mA.ok okZ1
   have ab:A.base<=aa:=ha▸okA
   have laa:z+1<=aa:=by have:=mA.next; omega
   have kA0:=(mA.bk (n:=b+0) (by omega) (by simp)).trans kZ01
   have kAq:=(mA.bk (n:=z+0) (by omega) (by simp)).trans kq
   obtain⟨ta,tc,et⟩:=vt.rd.sl
   rw[et]
   rw[show A=ext A [] from rfl]
   simp only[ruW,xF,ruU,Nat.reduceLT]
   refine w_env fun E3 hE=>?_
   replace g0:E3 0=.pointer (some ⟨v,0,none⟩):=by rw[hE]; simp only[g0,ruU,Nat.reduceEqDiff]
   replace g2:E3 2=.pointer (some ⟨b+0,0,none⟩):=by rw[hE]; simp only[g2,ruU,Nat.reduceEqDiff]
   replace g105:E3 105=.slice la ls.length lc:=by rw[hla,hE]; simp only[g105,ruU,Nat.reduceEqDiff]
   replace g106:E3 106=.int .i64 (ls.length:Int):=by rw[hE]; simp only[g106,ruU,Nat.reduceEqDiff]
   replace g107:E3 107=.int .i64 (i:Int):=by rw[hE]; simp only[g107,ruU,Nat.reduceEqDiff]
   have g9:E3 9=.pointer (some ⟨z+0,0,none⟩):=by rw[hE]; rfl
   have g112:E3 112=.slice ta (constsR op args).length tc:=by rw[hE]; rfl
   have g113:E3 113=.int .i64 ((constsR op args).length:Int):=by rw[hE]; rfl
   have g114:E3 114=.int .i64 ((0:Nat):Int):=by rw[hE]; rfl
   clear hE E
   have cln:=consts_len op args
   have jA0:b+0<aa:=by omega
   have jAq:z+0<aa:=by omega
   have mHA:Mod [v] H A:=mHZ.trans ((mZ1.trans mA).mono (by simp))
   refine w_loop (fun (j:Nat) E' X'=>Mod [] A X'/\j<=(constsR op args).length/\(∀ y∈(constsR op args).take j,¬(cn:Int)<=y)/\E' 0=.pointer (some ⟨v,0,none⟩)/\E' 2=.pointer (some ⟨b+0,0,none⟩)/\E' 105=.slice la ls.length lc/\E' 106=.int .i64 (ls.length:Int)/\E' 107=.int .i64 (i:Int)/\E' 9=.pointer (some ⟨z+0,0,none⟩)/\E' 112=.slice ta (constsR op args).length tc/\E' 113=.int .i64 ((constsR op args).length:Int)/\E' 114=.int .i64 (j:Int)) (fun j=>(constsR op args).length-j) 0 ⟨Mod.refl,zB5 _,by simp,g0,g2,g105,g106,g107,g9,g112,g113,g114⟩ ?_
   clear g0 g2 g105 g106 g107 g9 g112 g113 g114 E3
   rintro j E B ⟨mB,hj,hcs,g0,g2,g105,g106,g107,g9,g112,g113,g114⟩
   obtain⟨bb,hbb⟩:=Go.Ax.exq B.next
   have okB:=mB.ok okA
   have b3:B.base<=bb:=hbb▸okB
   have lbb:aa<=bb:=by have:=mB.next; omega
   have kB0:=(mB.bk (n:=b+0) (by omega) (by simp)).trans kA0
   have kBq:=(mB.bk (n:=z+0) (by omega) (by simp)).trans kAq
   have jB0:b+0<bb:=by omega
   have jBq:z+0<bb:=by omega
   have mHB:Mod [v] H B:=mHA.trans (mB.mono (by simp))
   rw[show B=ext B [] from rfl]
   by_cases hje:j=(constsR op args).length
   ·have hd:decide ((j:Int)<((constsR op args).length:Int))=false:=decide_eq_false (by omega)
    have hca:¬(constsR op args).any (fun k=>decide ((cn:Int)<=k))=true:=by
     rw[hje,List.take_length]at hcs
     rw[List.any_eq_true]
     rintro⟨y,hy,hy2⟩
     exact hcs y hy (of_decide_eq_true hy2)
    rw[if_neg hca]at hso
    simp only[g113,g114,hd,ruW,ruU,Nat.reduceLT]
    subst hc
    have hqrB:RdAt B 1 (.slice az args.length cz) (iv args) args.length:=(hqr1.mod0 mA).mod0 mB
    rw[w_seq]
    refine w_meet (fun E' X'=>X'=ext B []/\¬(op=8/\args.getD 0 0=0)/\E' 0=.pointer (some ⟨v,0,none⟩)/\E' 2=.pointer (some ⟨b+0,0,none⟩)/\E' 105=.slice la ls.length lc/\E' 106=.int .i64 (ls.length:Int)/\E' 107=.int .i64 (i:Int)/\E' 9=.pointer (some ⟨z+0,0,none⟩)) ?_ ?_
    ·refine w_drawP [] [(3,130)] (by kernel_rfl) (by kernel_rfl) rfl (by kernel_rfl) (fun ops anc hA hG=>?_) (by simp) ⟨rfl,rfl⟩
     simp only[all2_cons]at hG
     by_cases h8:op=8
     ·have h0:0<args.length:=hpos (by omega)
      obtain⟨n3,off3,s3',c3,e3,o3,M3,ek3,n13,r13,m13⟩:=hqrB.one h0
      simp only[Value.slice.injEq]at ek3
      obtain⟨haz,-,rfl⟩:=ek3
      have i3:aIndexAddr Tryz.prog 35 (.slice (some ⟨n3,off3,s3'⟩) args.length cz) (.int .i64 0)=some (.pointer (some ⟨n3,off3+0*1,none⟩)):=ia_of (i:=0) u35 s3 h0
      rw[Nat.zero_mul]at i3
      rw[iv_get,zA6 h0,zA5]at m13
      rw[hbb]at n13
      have hg0:args.getD 0 0=args[0]:=by rw[zB1,zA6 h0]; rfl
      obtain⟨q0,hq0⟩:∃ q,args[0]=q:=⟨_,rfl⟩
      rw[hq0]at m13 hg0
      obtain⟨d0',hd0⟩:∃ d,decide (q0=0)=d:=⟨_,rfl⟩
      have hd8:decide ((op:Int)=8)=true:=decide_eq_true (by omega)
      have kBq':=kBq
      rw[haz]at kBq'
      simp only[dropLast_more,dropLast_one,g9,hbb,jBq,kBq',hd8,i3,n13,r13,m13,hd0,hG,qk_old,ruD,ruW,xF,ruU,Nat.reduceLT,Nat.reduceAdd,Nat.reduceEqDiff]
      simp only[lastO_cons,lastO_one,isDef_call,true_and,ruW,xF,ruU,Nat.reduceLT,Nat.reduceEqDiff]
      cases d0' with
      |true =>
       rw[if_pos ⟨h8,hg0.trans (of_decide_eq_true hd0)⟩]at hso
       refine fail_t _ 3 pos _ ?_
       simp only[opC_error,seqC_panic,endA_panic,lv_panic,blockC_panic,loopC_panic,joinR_panic]
       rw[<-hR2,stat_at hlq hso hall]
       exact⟨mHB,rfl⟩
      |false =>
       refine (fail_f _ 3 pos).to ?_
       simp only[ruW,Nat.reduceLT]
       refine joinR_normal ⟨rfl,fun h=>of_decide_eq_false hd0 (hg0▸h.2),?_,?_,?_,?_,?_,?_⟩
       ·exact g0
       ·exact g2
       ·exact g105
       ·exact g106
       ·exact g107
       ·exact g9
     ·have hd8:decide ((op:Int)=8)=false:=decide_eq_false (by omega)
      simp only[dropLast_more,dropLast_one,g9,hbb,jBq,kBq,hd8,hG,qk_old,ruD,ruW,xF,ruU,Nat.reduceLT,Nat.reduceAdd,Nat.reduceEqDiff]
      simp only[lastO_cons,lastO_one,isDef_call,true_and,ruW,xF,ruU,Nat.reduceLT,Nat.reduceEqDiff]
      refine (fail_f _ 3 pos).to ?_
      simp only[ruW,Nat.reduceLT]
      refine joinR_normal ⟨rfl,fun h=>h8 h.1,?_,?_,?_,?_,?_,?_⟩
      ·exact g0
      ·exact g2
      ·exact g105
      ·exact g106
      ·exact g107
      ·exact g9
    clear g0 g2 g105 g106 g107 g9 g112 g113 g114 E
    rintro E X' ⟨hX',hn8,g0,g2,g105,g106,g107,g9⟩
    rw[hX']
    rw[if_neg hn8]at hso
    have sq3:scb B.next (.slice az args.length cz)=true:=by rw[hbb]; exact scb_mono (by omega) _ sq1
    simp only[g9,hbb,jBq,kBq,qk_old,ruW,Nat.reduceLeDiff,xF,ruU,Nat.reduceLT,Nat.reduceAdd]
    refine (operands96_c (ext B []) pos op (.slice az args.length cz) args 116 hop hqrB (by omega) hkl2 hcn sq3 okB).mono ?_
    rintro _ C ⟨wu,rfl,vu,mC,hlu⟩
    replace mC:Mod [] B C:=mC
    rw[(kinds_agree hop hkl2).2]at vu
    obtain⟨cx,hcx⟩:∃ aa,C.next=aa:=⟨_,rfl⟩
    have okC:=mC.ok okB
    have cb:C.base<=cx:=hcx▸okC
    have lcx:bb<=cx:=by have:=mC.next; omega
    have mAC:=mB.trans mC
    have kC0:=(mC.bk (n:=b+0) (by omega) (by simp)).trans kB0
    have kCq:=(mC.bk (n:=z+0) (by omega) (by simp)).trans kBq
    have mZC:Mod [] Z C:=(mZ1.trans mA).trans mAC
    have kCv:=(mZC.bk (n:=v) (by omega) (by simp)).trans kZv
    have mpC:=mpZ.mod mZC (by simp)
    obtain⟨ua,uc,eut⟩:=vu.rd.sl
    rw[eut]
    rw[show C=ext C [] from rfl]
    simp only[ruW,xF,ruU,Nat.reduceLT]
    refine w_env fun E3 hE=>?_
    replace g0:E3 0=.pointer (some ⟨v,0,none⟩):=by rw[hE]; simp only[g0,ruU,Nat.reduceEqDiff]
    replace g2:E3 2=.pointer (some ⟨b+0,0,none⟩):=by rw[hE]; simp only[g2,ruU,Nat.reduceEqDiff]
    replace g105:E3 105=.slice la ls.length lc:=by rw[hE]; simp only[g105,ruU,Nat.reduceEqDiff]
    replace g106:E3 106=.int .i64 (ls.length:Int):=by rw[hE]; simp only[g106,ruU,Nat.reduceEqDiff]
    replace g107:E3 107=.int .i64 (i:Int):=by rw[hE]; simp only[g107,ruU,Nat.reduceEqDiff]
    replace g9:E3 9=.pointer (some ⟨z+0,0,none⟩):=by rw[hE]; simp only[g9,ruU,Nat.reduceEqDiff]
    have g141:E3 141=.slice ua (targsR op args).length uc:=by rw[hE]; rfl
    have g142:E3 142=.int .i64 ((targsR op args).length:Int):=by rw[hE]; rfl
    have g143:E3 143=.int .i64 ((0:Nat):Int):=by rw[hE]; rfl
    clear hE E
    have tln:=targs_len op args
    have jCv:v<cx:=by omega
    have jCq:z+0<cx:=by omega
    have mHC:Mod [v] H C:=mHZ.trans (mZC.mono (by simp))
    refine w_loop (fun (j:Nat) E' X'=>Mod [] C X'/\j<=(targsR op args).length/\(∀ y∈(targsR op args).take j,¬findR l y<0)/\E' 0=.pointer (some ⟨v,0,none⟩)/\E' 2=.pointer (some ⟨b+0,0,none⟩)/\E' 105=.slice la ls.length lc/\E' 106=.int .i64 (ls.length:Int)/\E' 107=.int .i64 (i:Int)/\E' 9=.pointer (some ⟨z+0,0,none⟩)/\E' 141=.slice ua (targsR op args).length uc/\E' 142=.int .i64 ((targsR op args).length:Int)/\E' 143=.int .i64 (j:Int)) (fun j=>(targsR op args).length-j) 0 ⟨Mod.refl,zB5 _,by simp,g0,g2,g105,g106,g107,g9,g141,g142,g143⟩ ?_
    clear g0 g2 g105 g106 g107 g9 g141 g142 g143 E3
    clear hcs hje hd hj mB j kB0 kBq jB0 jBq hbb b3 lbb
    rintro j E D ⟨mD,hj,hcs,g0,g2,g105,g106,g107,g9,g141,g142,g143⟩
    obtain⟨dd,hdd⟩:∃ bb,D.next=bb:=⟨_,rfl⟩
    have okD:=mD.ok okC
    have b3:D.base<=dd:=hdd▸okD
    have ldd:cx<=dd:=by have:=mD.next; omega
    have kDq:=(mD.bk (n:=z+0) (by omega) (by simp)).trans kCq
    have kDv:=(mD.bk (n:=v) (by omega) (by simp)).trans kCv
    have mpD:=mpC.mod mD (by simp)
    have jDq:z+0<dd:=by omega
    have jDv:v<dd:=by omega
    have mHD:Mod [v] H D:=mHC.trans (mD.mono (by simp))
    rw[show D=ext D [] from rfl]
    by_cases hje:j=(targsR op args).length
    ·have hd:decide ((j:Int)<((targsR op args).length:Int))=false:=decide_eq_false (by omega)
     have hca:¬(targsR op args).any (fun t=>decide (findR l t<0))=true:=by
      rw[hje,List.take_length]at hcs
      rw[List.any_eq_true]
      rintro⟨y,hy,hy2⟩
      exact hcs y hy (of_decide_eq_true hy2)
     rw[if_neg hca]at hso
     simp only[g107,g142,g143,hd,hwk,ruW,ruU,Nat.reduceLT,Nat.reduceEqDiff]
     refine loopC_next ⟨i+1,by omega,mZ.trans (mZC.trans mD),by omega,fun k hk y hy=>?_,?_,?_,?_,?_,?_⟩
     ·by_cases e:k=i
      ·rw[e,hlq]at hy
       simp only[Option.some.injEq]at hy
       rw[<-hy]
       exact hso
      ·exact hall k (by omega) y hy
     ·exact g0
     ·exact g2
     ·exact g105
     ·exact g106
     ·rfl
    ·have hjl:j<(targsR op args).length:=by omega
     have hd:decide ((j:Int)<((targsR op args).length:Int))=true:=decide_eq_true (by omega)
     have vtD:ArgA D wu (targsR op args):=vu.of mD.next fun k hk=>mD.get k (vu.ne k hk).2 (by simp)
     obtain⟨n2,off2,s2,c2',e2,o2,M2,ek2,n12,r12,m12⟩:=vtD.rd.one hjl
     rw[eut]at ek2
     simp only[Value.slice.injEq]at ek2
     obtain⟨hta,-,rfl⟩:=ek2
     rw[hta]at g141
     have i2:aIndexAddr Tryz.prog 35 (.slice (some ⟨n2,off2,s2⟩) (targsR op args).length uc) (.int .i64 (j:Int))=some (.pointer (some ⟨n2,off2+j*1,none⟩)):=ia_of u35 s3 hjl
     rw[zC7]at i2
     rw[iv_get,zA6 hjl,zA5]at m12
     rw[hdd]at n12
     obtain⟨q,hq'⟩:∃ q,(targsR op args)[j]=q:=⟨_,rfl⟩
     rw[hq']at m12
     have hwj:IntKind.i64.wrap ((j:Int)+1)=((j+1:Nat):Int):=wrap_succ (by omega)
     obtain⟨fq,ok2,hlk,hfq⟩:∃ fq ok2,(∀ L,aLookup Tryz.prog (ext D L) 87 (.map (some n)) (.int .i64 q) true=some (.tuple #[.int .i64 fq,.bool ok2]))/\(ok2=true ↔ ¬findR l q<0):=by
      by_cases h0:0<=findR l q
      ·refine⟨findR l q,true,fun L=>?_,by simp only[true_iff]; omega⟩
       have:=mpD.look u87 z3 q true (ext D L) (ext_get_old mpD.1)
       rw[ixF,if_pos h0]at this
       exact this
      ·refine⟨0,false,fun L=>?_,by constructor<;>intro h; cases h; exact absurd (by omega) h0⟩
       have:=mpD.look u87 z3 q true (ext D L) (ext_get_old mpD.1)
       rw[ixF,if_neg h0]at this
       exact this
     simp only[g0,g9,g141,g142,g143,hdd,hd,i2,n12,r12,m12,jDq,jDv,kDq,kDv,hlk,w_lookup,qk_old,ruW,xF,ruU,Nat.reduceLT,Nat.reduceAdd,Nat.reduceEqDiff]
     cases ok2 with
     |false =>
      have hany:(targsR op args).any (fun t=>decide (findR l t<0))=true:=by
       rw[List.any_eq_true]
       refine⟨q,hq'▸List.getElem_mem hjl,decide_eq_true ?_⟩
       rcases Decidable.em (findR l q<0) with h|h
       ·exact h
       ·have:=hfq.2 h; cases this
      rw[if_pos hany]at hso
      simp only[ruU]
      refine fail_t _ 5 pos _ ?_
      simp only[opC_error,seqC_panic,endA_panic,lv_panic,blockC_panic,loopC_panic]
      rw[<-hR2,stat_at hlq hso hall]
      exact⟨mHD,rfl⟩
     |true =>
      simp only[ruU]
      refine (fail_f _ 5 pos).to ?_
      simp only[g143,hwj,ruW,ruU,Nat.reduceLT,Nat.reduceEqDiff]
      refine loopC_next ⟨j+1,by omega,mD,by omega,fun y hy=>?_,?_,?_,?_,?_,?_,?_,?_,?_,?_⟩
      ·rw[List.take_succ_eq_append_getElem hjl,zC0,zA7,hq']at hy
       rcases hy with hy|rfl
       ·exact hcs y hy
       ·exact hfq.1 rfl
      ·exact g0
      ·exact g2
      ·exact g105
      ·exact g106
      ·exact g107
      ·exact g9
      ·rw[hta]; simp only[g141,ruU,Nat.reduceEqDiff]
      ·exact g142
      ·rfl
   ·have hjl:j<(constsR op args).length:=by omega
    have hd:decide ((j:Int)<((constsR op args).length:Int))=true:=decide_eq_true (by omega)
    have vtB:ArgA B wt (constsR op args):=vt.of mB.next fun k hk=>mB.get k (vt.ne k hk).2 (by simp)
    obtain⟨n2,off2,s2,c2',e2,o2,M2,ek2,n12,r12,m12⟩:=vtB.rd.one hjl
    rw[et]at ek2
    simp only[Value.slice.injEq]at ek2
    obtain⟨hta,-,rfl⟩:=ek2
    rw[hta]at g112
    have i2:aIndexAddr Tryz.prog 35 (.slice (some ⟨n2,off2,s2⟩) (constsR op args).length tc) (.int .i64 (j:Int))=some (.pointer (some ⟨n2,off2+j*1,none⟩)):=ia_of u35 s3 hjl
    rw[zC7]at i2
    rw[iv_get,zA6 hjl,zA5]at m12
    rw[hbb]at n12
    obtain⟨q,hq'⟩:∃ q,(constsR op args)[j]=q:=⟨_,rfl⟩
    rw[hq']at m12
    have hwj:IntKind.i64.wrap ((j:Int)+1)=((j+1:Nat):Int):=wrap_succ (by omega)
    obtain⟨dq,hdq⟩:∃ d,decide ((cn:Int)<=q)=d:=⟨_,rfl⟩
    simp only[g2,g9,g112,g113,g114,hbb,hd,i2,n12,r12,m12,jB0,jBq,kB0,kBq,hdq,qk_old,ruW,xF,ruU,Nat.reduceLT,Nat.reduceAdd,Nat.reduceEqDiff]
    cases dq with
    |true =>
     have hany:(constsR op args).any (fun k=>decide ((cn:Int)<=k))=true:=by
      rw[List.any_eq_true]
      exact⟨q,hq'▸List.getElem_mem hjl,hdq⟩
     rw[if_pos hany]at hso
     refine fail_t _ 3 pos _ ?_
     simp only[opC_error,seqC_panic,endA_panic,lv_panic,blockC_panic,loopC_panic]
     rw[<-hR2,stat_at hlq hso hall]
     exact⟨mHB,rfl⟩
    |false =>
     refine (fail_f _ 3 pos).to ?_
     simp only[g114,hwj,ruW,ruU,Nat.reduceLT,Nat.reduceEqDiff]
     refine loopC_next ⟨j+1,by omega,mB,by omega,fun y hy=>?_,?_,?_,?_,?_,?_,?_,?_,?_,?_⟩
     ·rw[List.take_succ_eq_append_getElem hjl,zC0,zA7,hq']at hy
      rcases hy with hy|rfl
      ·exact hcs y hy
      ·exact of_decide_eq_false hdq
     ·exact g0
     ·exact g2
     ·exact g105
     ·exact g106
     ·exact g107
     ·exact g9
     ·rw[hta]; simp only[g112,ruU,Nat.reduceEqDiff]
     ·exact g113
     ·rfl
 ·have hkl:k<ls.length:=by omega
  have hd:decide ((k:Int)<(ls.length:Int))=true:=decide_eq_true (by omega)
  obtain⟨z,hz⟩:∃ z,ls[k]?=some z:=⟨ls[k],zA6 hkl⟩
  obtain⟨m,off,sp,c,e,o,M,e1,m1,r1,ia,ld⟩:=iV.one hz
  have hwk:IntKind.i64.wrap ((k:Int)+1)=((k+1:Nat):Int):=wrap_succ (by omega)
  rw[el]at e1
  simp only[Value.slice.injEq]at e1
  obtain⟨hla,-,rfl⟩:=e1
  rw[el,hla]at ia
  rw[hla]at g90
  rw[hw]at m1
  have sz:=iV.sc z (List.mem_of_getElem? hz)
  obtain⟨az,cz,ez⟩:=(iV.av z (List.mem_of_getElem? hz)).sl
  rw[hw,ez]at sz
  have sz1:=scb_mono (show w<=w+1 by omega) _ sz
  simp only[ivV,ivC,ez]at ld
  simp only[g90,g91,g92,hw,vb,hd,ia,m1,r1,ld,sz1,qk_old,ruW,putL,Nat.reduceLeDiff,xF,ruU,Nat.reduceLT,Nat.reduceAdd,Nat.reduceEqDiff]
  have eV2:∀ L:List Bl,Mod [] V (ext V L):=fun L=>Mod.ext okV
  generalize hV2:ext V _=V2
  have mV2:Mod [] V V2:=hV2▸eV2 _
  have nV2:V2.next=w+1:=by rw[<-hV2,ext_next,hw]; rfl
  have kw0:bk V2 (w+0)=some ⟨59,false,[.int .i64 z.1.pos,.int .i64 z.1.op,.slice az z.1.args.length cz]⟩:=by rw[<-hV2,bk_at hw (by simp)]; rfl
  clear hV2
  have okV2:=mV2.ok okV
  have kVv2:=(mV2.bk (n:=v) (by omega) (by simp)).trans kVv
  have mp2:=mpV.mod mV2 (by simp)
  have hml:(ls.map (·.1))[k]?=some z.1:=by rw[List.getElem?_map,hz]; rfl
  have hkm:k<(ls.map (·.1)).length:=by rw[zD5]; exact hkl
  have hzk:(ls.map (·.1))[k]=z.1:=by
   rw[zA6 hkm]at hml
   exact Option.some.inj hml
  have htk:(ls.map (·.1)).take (k+1)=(ls.map (·.1)).take k++[z.1]:=by rw[List.take_succ_eq_append_getElem hkm,hzk]
  have hdis:∀ y∈(ls.map (·.1)).take k,y.pos≠z.1.pos:=fun y hy=>by
   have hp2:((ls.map (·.1)).take (k+1)).Pairwise fun a b=>a.pos<b.pos:=hinc.sublist (List.take_sublist _ _)
   rw[htk,List.pairwise_append]at hp2
   have:=hp2.2.2 y hy z.1 (zA7.2 rfl)
   omega
  have hnone:ixF ((ls.map (·.1)).take k) z.1.pos=none:=by
   unfold ixF
   rw[findR_none hdis]
   rfl
  obtain⟨Y3,hput,mp3,mY3,nY3⟩:=mp2.put (v:=.int .i64 (k:Int)) okV2 u87 hnone rfl
  have hput':aMapUpdate Tryz.prog (ext V2 []) 87 (.map (some n)) (.int .i64 z.1.pos) (.int .i64 (k:Int))=some Y3:=hput
  have jvw2:v<w+1:=by omega
  have jw2:w+0<w+1:=by omega
  rw[show V2=ext V2 [] from rfl]
  refine w_drawP [] [] (by kernel_rfl) (by kernel_rfl) rfl rfl (fun ops anc hA hG=>?_) (by simp) ⟨rfl,rfl⟩
  simp only[dropLast_more,dropLast_one,g0,nV2,jvw2,jw2,kVv2,kw0,qk_old,ruD,ruW,xF,ruU,Nat.reduceLT,Nat.reduceAdd,Nat.reduceEqDiff]
  simp only[lastO_cons,lastO_one,isDef_mapUp,w_mapUp,true_and,ruU,Nat.reduceLT,Nat.reduceEqDiff]
  rw[hput']
  rw[show Y3=ext Y3 [] from rfl]
  simp only[storeC_some,g92,hwk,ruW,ruU,Nat.reduceLT,Nat.reduceEqDiff]
  refine loopC_next ⟨k+1,by omega,(mV.trans (mV2.mono (by simp))).trans mY3,by omega,?_,?_,?_,?_,?_,?_,?_⟩
  ·rw[htk,ixF_snoc hdis,zE7,Nat.min_eq_left (by omega)]
   exact mp3
  ·exact g0
  ·exact g2
  ·exact g4
  ·rw[hla]; simp only[g90,ruU,Nat.reduceEqDiff]
  ·exact g91
  ·rfl
set_option maxRecDepth 100000
theorem exec71_ret (H:AHeap) (q:Nat):enterD Tryz.prog (recX Tryz.prog) 71 [.pointer (some ⟨q,0,none⟩)] .returning H=some (.ok (.tuple ⟨[]⟩),.returning,H):=by
 have hr:∃ e1,runS Tryz.prog (recX Tryz.prog) (Tryz.f71.body.getD .skip) (rg71 q) .returning H=some (.normal,⟨e1,[]⟩,.returning,H):=by
  show ∃ e1,runS Tryz.prog (recX Tryz.prog) (.seq _ (.seq _ (.cond _ (.seq _ (.seq _ _)) _))) (rg71 q) .returning H=_
  apply Exists.intro
  refine (runS_seq ((runS_rec rfl).trans rfl)).trans ?_
  refine (runS_seq (runS_reg rfl rfl)).trans ?_
  rfl
 obtain⟨e1,hr⟩:=hr
 have hb:Tryz.f71.body=some (Tryz.f71.body.getD .skip):=rfl
 simp only[enterD,Tryz.func71,zA1,zA3]
 rw[hb,zA3,if_pos (by rfl)]
 show (runS Tryz.prog (recX Tryz.prog) (Tryz.f71.body.getD .skip) (rg71 q) .returning H).bind _=_
 rw[hr]
 rfl
def df45 (q:Nat):List Deferred:=[⟨.fn (.func 71) ⟨[.pointer (some ⟨q,0,none⟩)]⟩,⟨[]⟩⟩]
theorem leave45_pan {E:Env} {Z:AHeap} {R:Out->AHeap->Prop} {q:Nat} {e a:Int} {w:Value} (hok:Z.base<=Z.next) (hq:bk Z q=some ⟨26,false,[.int .i64 0,.int .i64 0]⟩) (hl:q<Z.next) (h2:E 2=w) (h3:E 3=.pointer (some ⟨q,0,none⟩)) (hR:∀ X,Mod [q] Z X->R (.ok (.tuple #[w,fltV e a])) X) :
  leaveA Tryz.prog Tryz.f45 (mkA 55 E (df45 q)) (df45 q) (.panicking [faultP e a]) Z R:=by
 refine⟨by kernel_rfl,_,_,_,exec71 Z hok q 0 0 e a hq hl,?_⟩
 rw[show settle (.panicking [faultR e a])=.returning by rfl]
 generalize hW:uw Z q 0 _=W
 have mW:Mod [q] Z W:=hW▸Mod.uw (by simp)
 have kW:bk W q=some ⟨26,false,[.int .i64 e,.int .i64 a]⟩:=by rw[<-hW,bk_uw_eq,hq]; rfl
 have lW:q<W.next:=by rw[<-hW,uw_next]; exact hl
 have okW:=mW.ok hok
 simp only[Tryz.results45,lW,kW,h2,h3,ruW,Nat.reduceLeDiff,xF,ruU,Nat.reduceLT,Nat.reduceAdd]
 exact hR _ (mW.trans (Mod.ext okW))
theorem leave45_ret {E:Env} {Z:AHeap} {R:Out->AHeap->Prop} {q:Nat} {w:Value} (hok:Z.base<=Z.next) (hq:bk Z q=some ⟨26,false,[.int .i64 0,.int .i64 0]⟩) (hl:q<Z.next) (h2:E 2=w) (h3:E 3=.pointer (some ⟨q,0,none⟩)) (hR:R (.ok (.tuple #[w,fltV 0 0])) Z) :
  leaveA Tryz.prog Tryz.f45 (mkA 55 E (df45 q)) (df45 q) .returning Z R:=by
 refine⟨by kernel_rfl,_,_,_,exec71_ret Z q,?_⟩
 rw[settle_returning]
 rw[show Z=ext Z [] from rfl]
 simp only[Tryz.results45,hl,hq,h2,h3,ruW,Nat.reduceLeDiff,xF,ruU,Nat.reduceLT,Nat.reduceAdd]
 rw[ext_nil]
 exact hR
set_option maxRecDepth 100000
def verA (least most depth:Int) (cn:Nat) (bs:List UInt8):Except (Int × Int) Ks :=
 match statA least most depth cn bs with
 |some f=>.error f
 |none=>if deepR depth 200 1000 (entS (entR least most))=true then .error (12,0) else
  runR depth (insA bs) ((insA bs).length+1) ((List.replicate (insA bs).length none).set 0 (some (entS (entR least most)))) (List.replicate (insA bs).length false)
theorem verA_eq {least most depth:Int} {cn:Nat} {bs:List UInt8} (h:bs.length<=60000):verA least most depth cn bs=verR least most depth cn bs:=by
 unfold verA statA verR decF
 rw[if_neg (show ¬60000<bs.length by omega)]
 by_cases h1:headR least most depth cn=true
 ·rw[if_pos h1,if_pos h1]
 ·rw[if_neg h1,if_neg h1]
  cases badA bs with
  |some r=>rfl
  |none =>
   simp only
   by_cases h2:insA bs=[]
   ·rw[if_pos h2,if_pos h2]
   ·rw[if_neg h2,if_neg h2]
    cases statR (insA bs) cn<;>rfl
theorem stat_none {least most depth:Int} {cn:Nat} {bs:List UInt8} (h:statA least most depth cn bs=none):headR least most depth cn=false/\bs.length<=60000/\badA bs=none/\insA bs≠[]/\statR (insA bs) cn=none:=by
 unfold statA decF at h
 by_cases h1:headR least most depth cn=true
 ·rw[if_pos h1]at h; cases h
 rw[if_neg h1]at h
 by_cases h2:60000<bs.length
 ·rw[if_pos h2]at h; cases h
 rw[if_neg h2]at h
 cases h3:badA bs with
 |some r=>rw[h3]at h; cases h
 |none =>
  rw[h3]at h
  simp only at h
  by_cases h4:insA bs=[]
  ·rw[if_pos h4]at h; cases h
  ·rw[if_neg h4]at h
   exact⟨by simpa using h1,by omega,rfl,h4,h⟩
theorem head_not {least most depth:Int} {cn:Nat} (h:headR least most depth cn=false):(0<=least/\least<=255)/\(most=-1\/least<=most/\most<=255)/\0<=depth/\depth<=1000/\cn<=65536:=by
 simp only[headR,Bool.or_eq_false_iff,Bool.and_eq_false_iff,decide_eq_false_iff_not]at h
 omega
theorem stat_tgs {l:List Ins} {cn:Nat} (h:statR l cn=none) {x:Ins} (hx:x∈l):∀ t∈targsR x.op.toNat x.args,0<=findR l t:=by
 rw[statR,List.findSome?_eq_none_iff]at h
 have h1:=h x hx
 unfold statO at h1
 split at h1
 ·cases h1
 split at h1
 ·cases h1
 split at h1
 ·cases h1
 ·rename_i h2
  intro t ht
  rw[List.any_eq_true]at h2
  rcases Decidable.em (findR l t<0) with h3|h3
  ·exact absurd ⟨t,ht,decide_eq_true h3⟩ h2
  ·omega
theorem gives_un:∀ {r:List Nat} {ks ks':Ks} {s:St} {j:Nat},givesR ks r s=some ks'->ks'.getD j none=none->ks.getD j none=none
 |[],ks,ks',s,j,h,hj=>by
  simp only[givesR,Option.some.injEq]at h
  exact h▸hj
 |i::r,ks,ks',s,j,h,hj=>by
  rw[givesR]at h
  cases hg:giveR ks i s with
  |none=>rw[hg]at h; cases h
  |some k1 =>
   rw[hg]at h
   exact give_un hg (gives_un h hj)
theorem pr_un {depth:Int} {l:List Ins} {ks ks':Ks} {i j:Nat} (h:prR depth l ks i=.ok ks') (hj:ks'.getD j none=none):ks.getD j none=none:=by
 cases hx:l[i]? with
 |none=>unfold prR procR at h; rw[hx]at h; cases h
 |some x =>
  cases hs:ks.getD i none with
  |none=>unfold prR procR at h; rw[hx,hs]at h; cases h
  |some s =>
   rw[prR_eq hx hs]at h
   split at h
   ·cases h
   split at h
   ·cases h
   unfold tl1 at h
   split at h
   ·cases h
   unfold tl2 at h
   split at h
   ·cases h
   cases hg:(if x.op.toNat≠10/\x.op.toNat≠15 then giveR ks (i+1) (aftR x.op.toNat x.args s).1 else some ks) with
   |none=>rw[hg,tl3]at h; cases h
   |some k1 =>
    rw[hg,tl3]at h
    cases hgs:givesR k1 ((targsR x.op.toNat x.args).map fun t=>(findR l t).toNat) (aftR x.op.toNat x.args s).2 with
    |none=>rw[hgs]at h; cases h
    |some k2 =>
     rw[hgs]at h
     simp only[Except.ok.injEq]at h
     have h1:=gives_un hgs (h▸hj)
     split at hg
     ·exact give_un hg h1
     ·simp only[Option.some.injEq]at hg
      exact hg▸h1
theorem ksS_rep (n:Nat):ksS (List.replicate n none)=List.replicate n none:=by simp[ksS]
theorem que_rep (n:Nat) (dn:List Bool):queR (List.replicate n none) dn=[]:=by
 rw[queR,List.filter_eq_nil_iff]
 intro i _
 rw[knU,zB1,List.getElem?_replicate]
 split<;>simp
section
variable {H G : AHeap} {v r ix d0 d1 : Nat} {least most depth : Int} {u p lv : Value} {ls : List Iv} {ss : Ss} {qv w : Value} {q q' : List Int}
theorem VAt.mod26 (V:VAt H v r ix d0 d1 least most depth u p lv ls ss qv q) {k:Nat} {L:List Value} (hk:bk H k=some ⟨26,false,L⟩) (hd:k<d0) (m:Mod [k] H G):VAt G v r ix d0 d1 least most depth u p lv ls ss qv q:=by
 have hn:∀ n,n≠k->n∉[k]:=fun n h=>by simpa using h
 refine⟨(m.bk V.vn (hn _ fun e=>?_)).trans V.vb,V.vl,V.rl,zD4 V.vn m.next,V.ins.of m.next fun n h=>m.get n (V.ins.ne n h).2 (hn _ fun e=>?_),V.insd,V.ixm.mod m (hn _ fun e=>?_),V.ixd,V.ixr,V.sts.mod m (hn _ fun e=>?_),V.que.of m.next fun n h=>m.get n (V.que.ne n h).2 (hn _ fun e=>?_),V.qd,fun i s fv h=>(V.fr i s fv h).mod m fun n h2=>hn _ fun e=>?_⟩
 ·have:=V.vb; rw[e,hk]at this; cases this
 ·have:=(V.insd n h).1; omega
 ·have:=V.ixm.bk; rw[e,hk]at this; cases this
 ·have:=V.sts.bk; rw[e,hk]at this; cases this
 ·obtain⟨M,hM⟩:=V.que.ids n h; rw[e,hk]at hM; cases hM
 ·obtain⟨M,hM⟩:=(V.fr i s fv h).ids n h2; rw[e,hk]at hM; cases hM
theorem VAt.setq (V:VAt H v r ix d0 d1 least most depth u p lv ls ss qv q) (qw:QAt H w q') (hw:∀ n∈idsV w,n∈idsV qv) (m:Mod [v] H G) (hb:bk G v=some ⟨90,false,vfC least most depth u p lv (.map (some ix)) (.map (some r)) w⟩):VAt G v r ix d0 d1 least most depth u p lv ls ss w q':=by
 have hn:∀ n,n≠v->n∉[v]:=fun n h=>by simpa using h
 refine⟨hb,V.vl,V.rl,zD4 V.vn m.next,V.ins.of m.next fun n h=>m.get n (V.ins.ne n h).2 (hn _ fun e=>?_),V.insd,V.ixm.mod m (hn _ fun e=>?_),V.ixd,V.ixr,V.sts.mod m (hn _ fun e=>?_),qw.of m.next fun n h=>m.get n (qw.ne n h).2 (hn _ fun e=>?_),fun n h=>V.qd n (hw n h),fun i s fv h=>(V.fr i s fv h).mod m fun n h2=>hn _ fun e=>?_⟩
 ·have:=(V.insd n h).1; have:=V.vl; omega
 ·have:=V.ixm.bk; rw[e,V.vb]at this; cases this
 ·have:=V.sts.bk; rw[e,V.vb]at this; cases this
 ·obtain⟨M,hM⟩:=qw.ids n h; rw[e,V.vb]at hM; cases hM
 ·obtain⟨M,hM⟩:=(V.fr i s fv h).ids n h2; rw[e,V.vb]at hM; cases hM
end
def VfOut (X:AHeap) (least most depth:Int) (u p:Value) (bs:List UInt8) (out:Out):Except (Int × Int) Ks->Prop
 |.error f=>∃ w,out=.ok (.tuple #[w,fltV f.1 f.2])
 |.ok ks=>∃ v r ix d0 d1 lv ls ss qv q,out=.ok (.tuple #[.pointer (some ⟨v,0,none⟩),fltV 0 0])/\VAt X v r ix d0 d1 least most depth u p lv ls ss qv q/\ls.map (·.1)=insA bs/\ksS ss=ks/\ss.length=ls.length
theorem verify45_c (H:AHeap) (least most depth:Int) (u p:Value) (ba ca:Option Addr) (cn cc bc:Nat) (bs:List UInt8) (eu:u=.slice ba bs.length bc) (ep:p=.slice ca cn cc) (hb1:RdAt H 1 u (bv bs) bs.length) (hu:scb H.next u=true) (hp:scb H.next p=true) (hok:H.base<=H.next) :
  CallA Tryz.prog 45 [.agg ⟨[.int .i64 least,.int .i64 most,.int .i64 depth,u,p]⟩] H (fun out X=>Mod [] H X/\VfOut X least most depth u p bs out (verA least most depth cn bs)):=by
 obtain⟨b,hb⟩:=Go.Ax.exq H.next
 have hbase:H.base<=b:=hb▸hok
 have hu0:=hu
 have hp0:=hp
 rw[hb,eu]at hu
 rw[hb,ep]at hp
 refine callE_fn mixed Tryz.func45 rfl Tryz.ntmps45 (zB3 rfl) ?_
 rw[eu,ep]
 simp only[hb,hu,hp,w_mkmap,ruW,Nat.reduceLeDiff,xF,ruU,entryE,Nat.reduceLT,Nat.reduceAdd,Nat.reduceEqDiff]
 generalize hX:AHeap.new _ (mapO [] 0)=X
 have h2:∀ L:List Bl,(ext H L).next=b+L.length:=fun L=>by rw[ext_next,hb]
 have m1:∀ L:List Bl,Mod [] H (ext H L):=fun L=>Mod.ext hok
 have m2:=hX▸Mod.new (W:=[]) ((m1 _).ok hok)
 have mX:=(m1 _).trans m2
 have k0:bk X (b+0)=some ⟨33,false,[.int .i64 least,.int .i64 most,.int .i64 depth,.slice ba bs.length bc,.slice ca cn cc]⟩:=(m2.bk (by rw[h2]; simp) (by simp)).trans (by rw[bk_at hb (by simp)]; rfl)
 have k1:bk X (b+1)=some ⟨26,false,[.int .i64 0,.int .i64 0]⟩:=(m2.bk (by rw[h2]; simp) (by simp)).trans (by rw[bk_at hb (by simp)]; rfl)
 have nX:X.next=b+3:=by rw[<-hX]; simp only[AHeap.new_eq]; rw[h2]; rfl
 have gX:X.get (b+2)=some (mapO [] 0):=by rw[<-hX,AHeap.get_new,if_pos (by rw[h2]; rfl)]
 have mpX:MpAt X (b+2) fun _=>none:=⟨by omega,[],0,gX,MapsTo.nil⟩
 clear hX
 rw[show X=ext X [] from rfl]
 have hu3:scb (b+3) (.slice ba bs.length bc)=true:=scb_mono (by omega) _ hu
 have hp3:scb (b+3) (.slice ca cn cc)=true:=scb_mono (by omega) _ hp
 have hmp:scb (b+3) (.map (some (b+2)))=true:=by simp[scb]
 have hmn:scb (b+3) (.map none)=true:=by simp[scb]
 simp only[nX,hu3,hp3,hmp,hmn,zD1,ruW,ruU,Nat.reduceLT,Nat.reduceAdd,Nat.reduceEqDiff]
 refine Eq.mpr (w_deferV (f:=71) (ca:=[.pointer (some ⟨b+1,0,none⟩)]) rfl rfl rfl) ?_
 generalize hc:Code.seq (Code.region 4 _ _) _=code
 simp only[List.map_nil,ruW,xF,ruU,Nat.reduceLT,Nat.reduceEqDiff]
 generalize hY:ext X _=Y
 have okX:=mX.ok hok
 have mY:Mod [] X Y:=hY▸Mod.ext okX
 have nY:Y.next=b+4:=by rw[<-hY,ext_next,nX]; rfl
 have kv:bk Y (b+3)=some ⟨90,false,vfC least most depth (.slice ba bs.length bc) (.slice ca cn cc) (.slice none 0 0) (.map none) (.map (some (b+2))) (.slice none 0 0)⟩:=by
  have:=bk_at (H:=X) (L:=[⟨90,false,vfC least most depth (.slice ba bs.length bc) (.slice ca cn cc) (.slice none 0 0) (.map none) (.map (some (b+2))) (.slice none 0 0)⟩]) (i:=0) nX (by simp)
  rw[<-hY]
  exact this
 clear hY
 have kY0:=(mY.bk (by omega) (by simp)).trans k0
 have kY1:=(mY.bk (by omega) (by simp)).trans k1
 have mpY:=mpX.mod mY (by simp)
 have mHY:Mod [] H Y:=mX.trans mY
 have okY:=mHY.ok hok
 have huY:scb Y.next (.slice ba bs.length bc)=true:=by rw[nY]; exact scb_mono (by omega) _ hu
 have hpY:scb Y.next (.slice ca cn cc)=true:=by rw[nY]; exact scb_mono (by omega) _ hp
 rw[show Y=ext Y [] from rfl]
 refine (static72_c (ext Y []) (b+3) (b+2) least most depth _ _ ba ca cn cc bc bs kv (by rw[ext_nil]; omega) mpY rfl rfl (eu▸hb1.mod0 mHY) huY hpY okY).mono ?_
 rintro out Z ⟨mZ,ho⟩
 replace mZ:Mod [b+3] Y Z:=mZ
 obtain⟨R,hR⟩:=Go.Ax.exq (verA least most depth cn bs)
 rw[hR]
 unfold verA at hR
 have hnn:∀ k,k≠b+3->k∉[b+3]:=fun k h=>by simpa using h
 obtain⟨z,hz⟩:=Go.Ax.exq Z.next
 have okZ:=mZ.ok okY
 have zb:Z.base<=z:=hz▸okZ
 have lz:b+4<=z:=by have:=mZ.next; omega
 have kZ0:=(mZ.bk (n:=b+0) (by omega) (hnn _ (by omega))).trans kY0
 have kZ1:=(mZ.bk (n:=b+1) (by omega) (hnn _ (by omega))).trans kY1
 have mHZ:Mod [] H Z:=mHY.step mZ hok fun k hk=>by simp only[zA7]at hk; exact .inr (by omega)
 -- an ending with a fault
 have fin:∀ (E:Env) (T:AHeap) (e a:Int),Mod [] H T->b+1<T.next->bk T (b+1)=some ⟨26,false,[.int .i64 0,.int .i64 0]⟩->E 3=.pointer (some ⟨b+1,0,none⟩)->R=.error (e,a)->leaveA Tryz.prog Tryz.f45 (mkA 55 E (df45 (b+1))) (df45 (b+1)) (.panicking [faultP e a]) T (fun out X=>Mod [] H X/\VfOut X least most depth (.slice ba bs.length bc) (.slice ca cn cc) bs out R):=fun E T e a mT hT kT hE hr=>by
  refine leave45_pan (mT.ok hok) kT hT rfl hE fun X mX=>⟨mT.step mX hok fun k hk=>by simp only[zA7]at hk; exact .inr (by omega),?_⟩
  rw[hr]
  exact⟨_,rfl⟩
 obtain⟨sf,hsf⟩:∃ f,statA least most depth cn bs=f:=⟨_,rfl⟩
 rw[hsf]at ho hR
 cases sf with
 |some f =>
  obtain⟨e,a⟩:=f
  unfold StcOut at ho
  rw[ho]
  simp only[opC_error,seqC_panic,endA_panic]
  exact fin _ Z e a mHZ (by omega) kZ1 rfl hR.symm
 |none =>
 obtain⟨ho,lv,ls,ix,d1,V,hls,hd1,hlv⟩:=ho
 rw[ho]
 subst hc
 obtain⟨hh,hbl,hbad,hne,hst⟩:=stat_none hsf
 obtain⟨⟨n1,n2⟩,n3,n4,n5,n6⟩:=head_not hh
 simp only at hR
 have hwf:∀ x∈ls,WfI x.1:=fun x hx=>ins_wf hbad _ (hls▸List.mem_map_of_mem hx)
 have hdl:=ins_len hbad
 have hll:ls.length=(insA bs).length:=by rw[<-hls,zD5]
 have hal:∀ x∈ls,x.1.args.length<=1000000:=fun x hx=>by
  have:=hdl.2 _ (hls▸List.mem_map_of_mem hx)
  omega
 have hll2:ls.length<=60000:=by omega
 have hpos:0<ls.length:=by
  rw[hll]
  exact List.length_pos_iff.2 hne
 rw[<-hls]at hR hst
 rw[zD5]at hR
 rw[<-hll]at V
 obtain⟨l,hl⟩:=Go.Ax.exq (ls.map (·.1))
 rw[hl]at hR hst hls
 have hent:entR least most=if most=-1 then least+1 else most:=by
  unfold entR
  by_cases e:most=-1
  ·rw[if_pos (by omega),if_pos e]
  ·rw[if_neg (by omega),if_neg e]
 have hw1:IntKind.i64.wrap (least+1)=least+1:=wrap_sm (by omega) (by omega)
 obtain⟨en,hen⟩:=Go.Ax.exq (entR least most)
 rw[hen]at hR hent
 have jz0:b+0<z:=by omega
 have jz1:b+1<z:=by omega
 rw[show Z=ext Z [] from rfl]
 generalize hc:Code.seq (Code.seq (Code.region 5 _ _) _) _=code
 simp only[hz,zb,jz0,kZ0,qk_old,ruW,putL,Nat.reduceLeDiff,xF,ruU,Nat.reduceLT,Nat.reduceAdd,Nat.reduceEqDiff]
 subst hc
 refine w_env fun E hE=>?_
 have g1:E 1=.pointer (some ⟨b+0,0,none⟩):=by rw[hE]; rfl
 have g2:E 2=.pointer (some ⟨b+3,0,none⟩):=by rw[hE]; rfl
 have g3:E 3=.pointer (some ⟨b+1,0,none⟩):=by rw[hE]; rfl
 have g4:E 4=.pointer (some ⟨z+0,0,none⟩):=by rw[hE]; rfl
 clear hE
 rw[w_seq]
 refine w_meet (fun E' X'=>X'=ext Z [⟨93,false,[.int .i64 en,.int .i64 0,.slice none 0 0]⟩]/\E' 2=.pointer (some ⟨b+3,0,none⟩)/\E' 3=.pointer (some ⟨b+1,0,none⟩)/\E' 4=.pointer (some ⟨z+0,0,none⟩)) ?_ ?_
 ·obtain⟨m1,hm1⟩:∃ q,decide (most=-1)=q:=⟨_,rfl⟩
  cases m1 with
  |true =>
   rw[if_pos (of_decide_eq_true hm1)]at hent
   simp only[g1,g4,hz,zb,jz0,kZ0,hm1,hw1,qk_old,ruW,putL,Nat.reduceLeDiff,xF,ruU,Nat.reduceLT,Nat.reduceAdd,Nat.reduceEqDiff]
   exact joinR_normal ⟨by rw[hent],by simp only[g2,ruU,Nat.reduceEqDiff],by simp only[g3,ruU,Nat.reduceEqDiff],by simp only[g4,ruU,Nat.reduceEqDiff]⟩
  |false =>
   rw[if_neg (of_decide_eq_false hm1)]at hent
   simp only[g1,hz,jz0,kZ0,hm1,qk_old,ruW,xF,ruU,Nat.reduceLT,Nat.reduceAdd]
   exact joinR_normal ⟨by rw[hent],by simp only[g2,ruU,Nat.reduceEqDiff],by simp only[g3,ruU,Nat.reduceEqDiff],by simp only[g4,ruU,Nat.reduceEqDiff]⟩
 clear g1 g2 g3 g4 E
 rintro E X' ⟨hX',g2,g3,g4⟩
 rw[hX']
 generalize hT:ext Z _=T
 have mT:Mod [] Z T:=hT▸Mod.ext okZ
 have nT:T.next=z+1:=by rw[<-hT,ext_next,hz]; rfl
 have t0:bk T (z+0)=some ⟨93,false,[.int .i64 en,.int .i64 0,.slice none 0 0]⟩:=by rw[<-hT,bk_at hz (by simp)]; rfl
 clear hT hX'
 have okT:=mT.ok okZ
 have tb:T.base<=z+1:=nT▸okT
 have VT:=V.mod0 mT
 have kT1:=(mT.bk (n:=b+1) (by omega) (by simp)).trans kZ1
 have mHT:=mHZ.trans mT
 have jt:z+0<z+1:=by omega
 obtain⟨dA,hdA⟩:∃ d,deepR depth 200 1000 (entS en)=d:=⟨_,rfl⟩
 have hdp:=deep74_c (ext T []) (b+3) least most depth _ _ lv (.map (some ix)) (.map (some (b+2))) (.slice none 0 0) (entS en) none 0 VT.vb VT.vn
 rw[hdA]at hdp
 unfold stC at hdp
 simp only[entS]at hdp
 rw[show T=ext T [] from rfl]
 simp only[g2,g4,nT,jt,t0,qk_old,ruW,Nat.reduceLeDiff,xF,ruU,Nat.reduceLT,Nat.reduceAdd,Nat.reduceEqDiff]
 refine hdp.to ?_
 simp only[ruW,xF,ruU,Nat.reduceLT]
 cases dA with
 |true =>
  rw[if_pos hdA]at hR
  refine fail_t _ 12 0 _ ?_
  simp only[opC_error,seqC_panic,endA_panic]
  exact fin _ T 12 0 mHT (by omega) kT1 (by simp only[g3,ruU,Nat.reduceEqDiff]) hR.symm
 |false =>
 rw[if_neg (by rw[hdA]; simp)]at hR
 refine (fail_f _ 12 0).to ?_
 simp only[g2,g4,nT,jt,t0,qk_old,ruW,Nat.reduceLeDiff,xF,ruU,Nat.reduceLT,Nat.reduceAdd,Nat.reduceEqDiff]
 have hq0:qI (queR (ksS (List.replicate ls.length none)) (List.replicate ls.length false))=[]:=by rw[ksS_rep,que_rep]; rfl
 have hgv:=give75_c (ext T []) (b+3) (b+2) ix _ d1 least most depth _ _ lv ls (List.replicate ls.length none) (.slice none 0 0) (List.replicate ls.length false) 0 (entS en) (.slice none 0 0) 0 (by rw[hq0]; exact VT) (by rw[List.length_replicate]; exact hpos) (by rw[List.length_replicate]; omega) (zB9 hd1 (mT.next)) (FrAt.nil) (by simp[entS]) (fun _=>by
  rw[zB1,List.getElem?_replicate]; split<;>rfl) (by rw[ext_nil,nT]; exact scb_mono (by omega) _ hu) (by rw[ext_nil,nT]; exact scb_mono (by omega) _ hp) (scb_mono mT.next _ hlv) okT
 unfold stC at hgv
 simp only[entS]at hgv
 refine hgv.mono ?_
 rintro out A ⟨mA,ho⟩
 replace mA:Mod ((b+3)::(b+2)::idsV (.slice none 0 0)) T A:=mA
 have hg0:giveR (ksS (List.replicate ls.length none)) 0 (entS en)=some ((List.replicate ls.length none).set 0 (some (entS en))):=by
  rw[ksS_rep,giveR,zB1,List.getElem?_replicate,if_pos hpos]
  rfl
 unfold entS at hg0
 rw[hg0]at ho
 obtain⟨ho,ss1,qv1,V1,hk1,hl1,hq1⟩:=ho
 rw[ho]
 simp only[ruW,Nat.reduceLT]
 have okA:=mA.ok okT
 have lA:b+1<A.next:=by have:=mA.next; omega
 have hW0:∀ k,k∈(b+3)::(b+2)::idsV (.slice none 0 0)->b+2<=k:=fun k hk=>by
  simp only[idsV,zA9,zD6,or_false]at hk
  omega
 have mHA:Mod [] H A:=mHT.step mA hok fun k hk=>.inr (by have:=hW0 k hk; omega)
 have kA1:=(mA.bk (n:=b+1) (by omega) (fun h=>by have:=hW0 _ h; omega)).trans kT1
 unfold entS at hR
 rw[<-hk1]at V1 hR
 rw[List.length_replicate]at hl1
 have hks1:KsOk (ksS ss1):=fun j t h=>by
  rw[hk1,List.getElem?_set]at h
  split at h
  ·rename_i e
   subst e
   rw[List.length_replicate,if_pos hpos]at h
   simp only[Option.some.injEq]at h
   subst h
   unfold deepR at hdA
   simp only[Bool.or_eq_false_iff,entS,zD1]at hdA
   refine⟨?_,?_,by simp,by simp,by simp,by simp⟩
   ·simp only; rw[hent]; split<;>omega
   ·simp only; omega
  ·rw[List.getElem?_replicate]at h
   split at h<;>simp at h
 refine w_env fun E5 hE=>?_
 replace g2:E5 2=.pointer (some ⟨b+3,0,none⟩):=by rw[hE]; simp only[g2,ruU,Nat.reduceEqDiff]
 replace g3:E5 3=.pointer (some ⟨b+1,0,none⟩):=by rw[hE]; simp only[g3,ruU,Nat.reduceEqDiff]
 clear hE g4 E
 refine w_loop (fun (st:Ss × Value × List Bool) E' X'=>Mod [] H X'/\b+4<=X'.next/\bk X' (b+1)=some ⟨26,false,[.int .i64 0,.int .i64 0]⟩/\VAt X' (b+3) (b+2) ix (ext Y []).next d1 least most depth (.slice ba bs.length bc) (.slice ca cn cc) lv ls st.1 st.2.1 (qI (queR (ksS st.1) st.2.2))/\d1<=X'.next/\scb X'.next lv=true/\st.1.length=ls.length/\st.2.2.length=ls.length/\KsOk (ksS st.1)/\(∀ j,(ksS st.1).getD j none=none->st.2.2.getD j false=false)/\(∀ k∈idsV st.2.1,b<=k)/\runR depth l (leftR st.2.2+1) (ksS st.1) st.2.2=R/\E' 2=.pointer (some ⟨b+3,0,none⟩)/\E' 3=.pointer (some ⟨b+1,0,none⟩)) (fun st=>leftR st.2.2) (ss1,qv1,List.replicate ls.length false) ⟨mHA,by have:=mA.next; omega,kA1,V1,zB9 hd1 (zB9 mT.next mA.next),scb_mono (zB9 mT.next mA.next) _ hlv,hl1,List.length_replicate,hks1,fun j _=>by
  rw[zB1,List.getElem?_replicate]; split<;>rfl,fun k hk=>?_,by rw[left_rep]; exact hR,g2,g3⟩ ?_
 ·rcases hq1 k hk with h|h
  ·simp[idsV]at h
  ·have:b<=(ext T []).next:=by rw[ext_nil,nT]; omega
   omega
 clear g2 g3 E5 V1 hl1 hks1 hq1 hk1 kA1 mHA okA lA mA ho hR qv1 ss1
 rintro⟨ss,qv,dn⟩ E X ⟨mX2,lX,kX1,VX,hdX,hlX,hls2,hdl2,hks,hdn,hqb,hR,g2,g3⟩
 simp only at VX hls2 hdl2 hks hdn hqb hR
 obtain⟨x,hx⟩:=Go.Ax.exq X.next
 have okX2:=mX2.ok hok
 have xb2:X.base<=x:=hx▸okX2
 have jv:b+3<x:=by omega
 have j1:b+1<x:=by omega
 have kvX:=VX.vb
 unfold vfC at kvX
 obtain⟨qa,eq⟩:=VX.que.sl
 rw[eq]at kvX
 obtain⟨q,hq⟩:=Go.Ax.exq (queR (ksS ss) dn)
 have hnx:nxtR (ksS ss) dn=q.head?:=by rw[nxt_head,hq]
 rw[hq]at kvX
 rw[runR,hnx]at hR
 rw[show X=ext X [] from rfl]
 cases q with
 |nil =>
  have hd:decide ((0:Int)<(((qI []).length:Nat):Int))=false:=by decide
  simp only[List.head?_nil]at hR
  simp only[g2,hx,jv,kvX,hd,qk_old,ruW,xF,ruU,Nat.reduceLT,Nat.reduceAdd]
  refine w_drawB [(3,1)] [] (by kernel_rfl) (by kernel_rfl) rfl fun ops anc hA hG=>?_
  simp only[all2_cons]at hA
  simp only[g2,g3,hx,j1,kX1,hA,qk_old,ruD,ruW,putL,Nat.reduceLeDiff,xF,ruU,Nat.reduceLT,Nat.reduceAdd,Nat.reduceEqDiff]
  have mU:Mod [b+1] X (ext (uw X (b+1) 0 [.int .i64 0,.int .i64 0]) []):=Mod.uw (by simp)
  have kU:bk (ext (uw X (b+1) 0 [.int .i64 0,.int .i64 0]) []) (b+1)=some ⟨26,false,[.int .i64 0,.int .i64 0]⟩:=by rw[ext_nil,bk_uw_eq,kX1]; rfl
  generalize ext (uw X (b+1) 0 [.int .i64 0,.int .i64 0]) []=U at mU kU ⊢
  have mHU:=mX2.step mU hok fun k hk=>by simp only[zA7]at hk; exact .inr (by omega)
  refine leave45_ret (q:=b+1) (mU.ok okX2) kU (by have:=mU.next; omega) rfl (by simp only[g3,ruU,Nat.reduceEqDiff]) ?_
  refine⟨mHU,?_⟩
  rw[<-hR]
  exact⟨b+3,b+2,ix,_,d1,lv,ls,ss,qv,_,by simp only[ruU],VX.mod26 kX1 (by rw[ext_nil,nY]; omega) mU,hl.trans hls,rfl,hls2⟩
 |cons i rest =>
  obtain⟨hi,⟨s,hsi⟩,hdi,_⟩:=nxt_some (show nxtR (ksS ss) dn=some i by rw[hnx]; rfl)
  rw[ksS_len]at hi
  rw[ksS_get]at hsi
  obtain⟨⟨s',fv⟩,hss,e1⟩:∃ y:St × Value,ss[i]?=some (some y)/\y.1=s:=by
   cases h:ss[i]? with
   |none=>rw[h]at hsi; cases hsi
   |some o =>
    rw[h]at hsi
    cases o with
    |none=>simp at hsi
    |some y =>
     simp only[zA5,Option.some.injEq]at hsi
     exact⟨y,rfl,hsi⟩
  simp only at e1
  subst e1
  have hdi2:dn[i]?=some false:=by
   have hil:i<dn.length:=by omega
   rw[zB1,zA6 hil]at hdi
   rw[zA6 hil]
   exact congrArg some hdi
  have hd:decide ((0:Int)<(((qI (i::rest)).length:Nat):Int))=true:=decide_eq_true (by simp only[qI,zB4,zA8]; omega)
  have hlq:0<(qI (i::rest)).length:=by simp only[qI,zB4,zA8]; omega
  have qX:=VX.que
  rw[hq]at qX
  obtain⟨w,qw,hww,hcut⟩:=QAt.cut (k:=(i:Int)) (q:=qI rest) qX
  obtain⟨wa,ew⟩:=qw.sl
  have sww:=qw.sc
  rw[hx,ew]at sww
  obtain⟨n2,off2,s2,c2',e2,o2,M2,ek2,n12,r12,m12⟩:=qX.rd.one hlq
  rw[eq,hq]at ek2
  simp only[Value.slice.injEq]at ek2
  obtain⟨hqa,-,hc2⟩:=ek2
  have i2:aIndexAddr Tryz.prog 35 (.slice (some ⟨n2,off2,s2⟩) (qI (i::rest)).length (qI (i::rest)).length) (.int .i64 0)=some (.pointer (some ⟨n2,off2+0*1,none⟩)):=ia_of (i:=0) u35 s3 hlq
  rw[Nat.zero_mul]at i2
  rw[hx]at n12
  have m13:M2[off2+0]?=some (.int .i64 (i:Int)):=m12
  have hcut2:=hcut (ext X []) fun n _=>rfl
  rw[eq,hq,hqa]at hcut2
  rw[hqa]at kvX
  rw[ew]at hcut2
  simp only[g2,hx,jv,kvX,hd,i2,n12,r12,m13,hcut2,sww,qk_old,ruW,putL,Nat.reduceLeDiff,xF,ruU,Nat.reduceLT,Nat.reduceAdd,Nat.reduceEqDiff]
  generalize hU:ext (uw X (b+3) 8 [.slice wa (qI rest).length (qI rest).length]) []=U
  have mU:Mod [b+3] X U:=hU▸Mod.uw (by simp)
  have kUv:bk U (b+3)=some ⟨90,false,vfC least most depth (.slice ba bs.length bc) (.slice ca cn cc) lv (.map (some ix)) (.map (some (b+2))) w⟩:=by
   rw[<-hU,ext_nil,ew]
   exact bk_uw (off:=8) (vs:=[.slice wa (qI rest).length (qI rest).length]) kvX (by simp)
  clear hU
  have okU:=mU.ok okX2
  have VU:=VX.setq qw hww mU kUv
  have kU1:=(mU.bk (n:=b+1) (by omega) (by simp)).trans kX1
  have hdl3:dn.length=(ksS ss).length:=by rw[ksS_len,hls2,hdl2]
  have hdone:=que_done hdl3 hq
  rw[<-hdone]at VU
  have mHU:=mX2.step mU hok fun k hk=>by simp only[zA7]at hk; exact .inr (by omega)
  have hil:i<ls.length:=by omega
  obtain⟨y,hy⟩:∃ y,ls[i]?=some y:=⟨ls[i],zA6 hil⟩
  have hly:l[i]?=some y.1:=by rw[<-hl,List.getElem?_map,hy]; rfl
  have hdn':∀ j,(ksS ss).getD j none=none->(dn.set i true).getD j false=false:=fun j hj=>by
   by_cases e:i=j
   ·subst e
    rw[zB1,ksS_get,hss]at hj
    cases hj
   ·rw[zB1,List.getElem?_set_ne e,<-zB1]
    exact hdn j hj
  have nU:X.next<=U.next:=mU.next
  have hpc:=process76_c U (b+3) (b+2) ix _ d1 least most depth _ _ lv ls ss w (dn.set i true) i y s' fv VU hy hss hls2 (by omega) (zB9 hdX nU) hwf hal hks n5 (by rw[hl]; exact stat_tgs hst (List.mem_of_getElem? hly)) hdn' (scb_mono (by omega) _ hu) (scb_mono (by omega) _ hp) (scb_mono nU _ hlX) okU
  refine hpc.mono ?_
  rintro out D ⟨mD,ho⟩
  rw[hl]at ho
  have hwb:∀ k∈(b+3)::(b+2)::idsV w,b<=k/\k≠b+1:=fun k hk=>by
   rcases zA9.1 hk with rfl|hk
   ·omega
   rcases zA9.1 hk with rfl|hk
   ·omega
   ·refine⟨hqb k (hww k hk),fun e=>?_⟩
    obtain⟨M,hM⟩:=qw.ids k hk
    rw[e,kX1]at hM
    cases hM
  have mHD:=mHU.step mD hok fun k hk=>.inr (by have:=hwb k hk; omega)
  have kD1:=(mD.bk (n:=b+1) (by omega) (fun h=>(hwb _ h).2 rfl)).trans kU1
  have nD:=mD.next
  simp only[List.head?_cons]at hR
  obtain⟨pr,hpr⟩:∃ q,prR depth l (ksS ss) i=q:=⟨_,rfl⟩
  rw[hpr]at ho hR
  cases pr with
  |error e =>
   unfold PcOut at ho
   rw[ho]
   simp only at hR
   simp only[opC_error,seqC_panic,blockC_panic,loopC_panic,endA_panic]
   refine fin _ D e y.1.pos mHD (by omega) kD1 (by simp only[g3,ruU,Nat.reduceEqDiff]) ?_
   rw[<-hR,posR,hly]
  |ok ks' =>
   obtain⟨ho,ss',qv',V',hk',hl',hq'⟩:=ho
   rw[ho]
   simp only at hR
   simp only[ruW,Nat.reduceLT]
   rw[<-hk']at V' hR hpr
   refine loopC_next ⟨(ss',qv',dn.set i true),by have:=left_set hdi2; simp only; omega,mHD,by omega,kD1,V',zB9 hdX (by omega),scb_mono (show X.next<=D.next by omega) _ hlX,by rw[hl',hls2],by simp only[List.length_set]; exact hdl2,pr_ok (hl▸fun x hx=>by obtain⟨z,hz,rfl⟩:=zC4.1 hx; exact hwf z hz) hks n5 hpr,fun j hj=>hdn' j (pr_un hpr hj),fun k hk=>?_,?_,?_,?_⟩
   ·rcases hq' k hk with h|h
    ·exact hqb k (hww k h)
    ·have:=mHU.next
     omega
   ·rw[left_set hdi2]at hR
    exact hR
   ·exact g2
   ·exact g3
set_option maxRecDepth 100000
def errV:Except (Int × Int) Ks->Value
 |.error f=>fltV f.1 f.2
 |.ok _=>fltV 0 0
theorem sc_cde {N:Nat} {a b c:Int} {u p:Value} (h:scb N (.agg ⟨[.int .i64 a,.int .i64 b,.int .i64 c,u,p]⟩)=true):scb N u=true/\scb N p=true:=by
 have h':(true&&(true&&(true&&(scb N u&&(scb N p&&true)))))=true:=h
 simp only[zA4]at h'
 exact⟨h'.2.2.2.1,h'.2.2.2.2.1⟩
theorem check19_c (H:AHeap) (least most depth:Int) (u:Value) (ca:Option Addr) (cn cc:Nat) (bs:List UInt8) (hu:RdAt H 1 u (bv bs) bs.length) :
  Pure 19 [.agg ⟨[.int .i64 least,.int .i64 most,.int .i64 depth,u,.slice ca cn cc]⟩] H (errV (verA least most depth cn bs)):=by
 refine callS_drop (fun wf hsc=>?_) (fun _ _=>by unfold errV; split<;>rfl)
 obtain⟨b,hb⟩:=Go.Ax.exq H.next
 have hok:=wf.base
 have hbase:H.base<=b:=hb▸hok
 rw[scbL_iff]at hsc
 obtain⟨su,sc⟩:=sc_cde (hsc _ (zA7.2 rfl))
 obtain⟨ba,bc,eu⟩:=hu.sl
 rw[hb]at su sc
 rw[eu]at su
 refine callE_fn mixed Tryz.func19 rfl Tryz.ntmps19 (zB3 rfl) ?_
 rw[eu]
 simp only[hb,su,sc,ruW,Nat.reduceLeDiff,xF,ruU,entryE,Nat.reduceLT,Nat.reduceAdd,Nat.reduceEqDiff]
 generalize hY:ext H _=Y
 have mY:Mod [] H Y:=hY▸Mod.ext hok
 have nY:Y.next=b+2:=by rw[<-hY,ext_next,hb]; rfl
 have kY:bk Y (b+1)=some ⟨26,false,[.int .i64 0,.int .i64 0]⟩:=by rw[<-hY,bk_at hb (by simp)]; rfl
 have okY:=mY.ok hok
 clear hY
 refine (verify45_c Y least most depth _ _ ba ca cn cc bc bs rfl rfl (eu▸hu.mod0 mY) (by rw[nY]; exact scb_mono (by omega) _ su) (by rw[nY]; exact scb_mono (by omega) _ sc) okY).mono ?_
 rintro out Z ⟨mZ,ho⟩
 obtain⟨w,e,a,ho',hr⟩:∃ w e a,out=.ok (.tuple #[w,fltV e a])/\errV (verA least most depth cn bs)=fltV e a:=by
  cases hv:verA least most depth cn bs with
  |error f =>
   rw[hv]at ho
   obtain⟨w,ho⟩:=ho
   exact⟨w,f.1,f.2,ho,rfl⟩
  |ok ks =>
   rw[hv]at ho
   obtain⟨v,r,ix,d0,d1,lv,ls,ss,qv,q,ho,_⟩:=ho
   exact⟨_,0,0,ho,rfl⟩
 rw[ho',hr]
 obtain⟨z,hz⟩:=Go.Ax.exq Z.next
 have zb:Z.base<=z:=hz▸mZ.ok okY
 have kZ:=(mZ.bk (by omega) (by simp)).trans kY
 have lZ:b+1<z:=by have:=mZ.next; omega
 have mm:=mY.trans mZ
 rw[show Z=ext Z [] from rfl]
 simp only[fltV,hz,zb,kZ,lZ,Tryz.results19,ruW,putL,Nat.reduceLeDiff,xF,ruU,Nat.reduceLT,Nat.reduceAdd,Nat.reduceEqDiff]
 refine⟨trivial,?_⟩
 exact (mm.step (W':=[b+1]) (Mod.uw (by simp)) hok fun n hn=>by simp only[zA7]at hn; exact .inr (by omega)).trans (Mod.ext (by rw[uw_base,uw_next,hz]; exact zb))
theorem pr_err {depth:Int} {l:List Ins} {ks:Ks} {i:Nat} {e:Int} {x:Ins} {s:St} (hx:l[i]?=some x) (hs:ks.getD i none=some s) (h:prR depth l ks i=.error e):e=9\/e=19\/e=12\/e=13:=by
 rw[prR_eq hx hs]at h
 split at h
 ·simp only[Except.error.injEq]at h; omega
 split at h
 ·simp only[Except.error.injEq]at h; omega
 unfold tl1 at h
 split at h
 ·simp only[Except.error.injEq]at h; omega
 unfold tl2 at h
 split at h
 ·simp only[Except.error.injEq]at h; omega
 generalize (if x.op.toNat≠10/\x.op.toNat≠15 then giveR ks (i+1) (aftR x.op.toNat x.args s).1 else some ks)=o at h
 cases o with
 |none =>
  rw[tl3]at h
  simp only[Except.error.injEq]at h; omega
 |some k =>
  rw[tl3]at h
  cases hg:givesR k ((targsR x.op.toNat x.args).map fun t=>(findR l t).toNat) (aftR x.op.toNat x.args s).2 with
  |none =>
   rw[hg]at h
   simp only[Except.error.injEq]at h; omega
  |some k2=>rw[hg]at h; cases h
theorem run_err {depth:Int} {l:List Ins}:∀ {n:Nat} {ks:Ks} {dn:List Bool} {f:Int × Int},ks.length=l.length->runR depth l n ks dn=.error f->f.1=9\/f.1=19\/f.1=12\/f.1=13
 |0,ks,dn,f,hl,h=>by cases h
 |n+1,ks,dn,f,hl,h=>by
  rw[runR]at h
  cases hn:nxtR ks dn with
  |none=>rw[hn]at h; cases h
  |some i =>
   rw[hn]at h
   simp only at h
   obtain⟨hi,⟨s,hs⟩,_⟩:=nxt_some hn
   have hg:ks.getD i none=some s:=by rw[zB1,hs]; rfl
   have hil:i<l.length:=by omega
   cases hp:prR depth l ks i with
   |error e =>
    rw[hp]at h
    simp only[Except.error.injEq]at h
    rw[<-h]
    exact pr_err (zA6 hil) hg hp
   |ok k =>
    rw[hp]at h
    exact run_err (by rw[pr_len hp]; exact hl) h
theorem ver_ne {least most depth:Int} {cn:Nat} {bs:List UInt8} {f:Int × Int} (h:verA least most depth cn bs=.error f):f.1≠0:=by
 unfold verA at h
 cases hs:statA least most depth cn bs with
 |some g =>
  rw[hs]at h
  simp only[Except.error.injEq]at h
  rw[<-h]
  unfold statA at hs
  split at hs
  ·simp only[Option.some.injEq]at hs; rw[<-hs]; decide
  unfold decF at hs
  split at hs
  ·rename_i f' hf
   simp only[Option.some.injEq]at hs
   rw[<-hs]
   split at hf
   ·simp only[Option.some.injEq]at hf; rw[<-hf]; decide
   ·split at hf
    ·rename_i r hb
     simp only[Option.some.injEq]at hf
     rw[<-hf]
     exact bad_ne hb
    ·cases hf
  ·split at hs
   ·simp only[Option.some.injEq]at hs; rw[<-hs]; decide
   ·rw[statR]at hs
    obtain⟨x,_,hx⟩:=List.exists_of_findSome?_eq_some hs
    unfold statO at hx
    split at hx
    ·simp only[Option.some.injEq]at hx; rw[<-hx]; simp
    split at hx
    ·simp only[Option.some.injEq]at hx; rw[<-hx]; simp
    split at hx
    ·simp only[Option.some.injEq]at hx; rw[<-hx]; simp
    ·cases hx
 |none =>
  rw[hs]at h
  simp only at h
  split at h
  ·simp only[Except.error.injEq]at h; rw[<-h]; decide
  ·have:=run_err (by rw[List.length_set,List.length_replicate]) h
   omega
theorem hgh_at {ks:Ks} {i:Nat} (hi:i<ks.length):(hghR ks)[i]?=some (match ks.getD i none with
  |some s=>s.h
  |none=>-1):=by
 rw[hghR,List.getElem?_map,zA6 hi,zB1,zA6 hi]
 rfl
theorem heights16_c (H:AHeap) (least most depth:Int) (u:Value) (ca:Option Addr) (cn cc:Nat) (bs:List UInt8) (hu:RdAt H 1 u (bv bs) bs.length) (su:scb H.next u=true) (sc:scb H.next (.slice ca cn cc)=true) (hok:H.base<=H.next) :
  CallA Tryz.prog 16 [.agg ⟨[.int .i64 least,.int .i64 most,.int .i64 depth,u,.slice ca cn cc]⟩] H (fun out X=>Mod [] H X/\HgtOut (verA least most depth cn bs) out X):=by
 obtain⟨b,hb⟩:=Go.Ax.exq H.next
 have hbase:H.base<=b:=hb▸hok
 obtain⟨ba,bc,eu⟩:=hu.sl
 rw[hb]at su sc
 rw[eu]at su
 refine callE_fn mixed Tryz.func16 rfl Tryz.ntmps16 (zB3 rfl) ?_
 rw[eu]
 simp only[hb,su,sc,ruW,Nat.reduceLeDiff,xF,ruU,entryE,Nat.reduceLT,Nat.reduceAdd,Nat.reduceEqDiff]
 generalize hY:ext H _=Y
 have mY:Mod [] H Y:=hY▸Mod.ext hok
 have nY:Y.next=b+2:=by rw[<-hY,ext_next,hb]; rfl
 have kY:bk Y (b+1)=some ⟨26,false,[.int .i64 0,.int .i64 0]⟩:=by rw[<-hY,bk_at hb (by simp)]; rfl
 have okY:=mY.ok hok
 clear hY
 refine (verify45_c Y least most depth _ _ ba ca cn cc bc bs rfl rfl (eu▸hu.mod0 mY) (by rw[nY]; exact scb_mono (by omega) _ su) (by rw[nY]; exact scb_mono (by omega) _ sc) okY).mono ?_
 rintro out Z ⟨mZ,ho⟩
 obtain⟨z,hz⟩:=Go.Ax.exq Z.next
 have okZ:=mZ.ok okY
 have zb:Z.base<=z:=hz▸okZ
 have lz:b+2<=z:=by have:=mZ.next; omega
 have kZ:=(mZ.bk (by omega) (by simp)).trans kY
 have mHZ:=mY.trans mZ
 have j1:b+1<z:=by omega
 rw[show Z=ext Z [] from rfl]
 cases hv:verA least most depth cn bs with
 |error f =>
  obtain⟨e,a⟩:=f
  rw[hv]at ho
  obtain⟨w,ho⟩:=ho
  rw[ho]
  have hne:decide (¬e=0)=true:=decide_eq_true (ver_ne hv)
  simp only[fltV,hz,zb,hne,ruW,putL,Nat.reduceLeDiff,xF,ruU,Nat.reduceLT,Nat.reduceAdd,Nat.reduceEqDiff]
  refine w_drawB [(2,0),(2,1)] [] (by kernel_rfl) (by kernel_rfl) rfl fun ops anc hA hG=>?_
  simp only[all2_cons]at hA
  simp only[hz,kZ,j1,hA,Tryz.results16,qk_old,ruD,ruW,putL,Nat.reduceLeDiff,xF,ruU,Nat.reduceLT,Nat.reduceAdd,Nat.reduceEqDiff]
  exact⟨(mHZ.step (W':=[b+1]) (Mod.uw (by simp)) hok fun n hn=>by simp only[zA7]at hn; exact .inr (by omega)).trans (Mod.ext (by rw[uw_base,uw_next,hz]; exact zb)),rfl⟩
 |ok ks =>
  rw[hv]at ho
  obtain⟨v,r,ix,d0,d1,lv,ls,ss,qv,q,ho,V,hls,hks,hss⟩:=ho
  rw[ho]
  have hne:∀ i:Decidable (¬True),@decide (¬True) i=false:=fun i=>by simp
  obtain⟨la,lc,el⟩:=V.ins.rd.sl
  have kvZ:=V.vb
  unfold vfC at kvZ
  rw[el]at kvZ
  have jv:v<z:=hz▸V.vn
  simp only[fltV,hz,zb,hne,jv,kvZ,qk_old,ruW,putL,Nat.reduceLeDiff,xF,ruU,Nat.reduceLT,Nat.reduceAdd,Nat.reduceEqDiff]
  generalize hZ1:ext Z _=Z1
  have mZ1:Mod [] Z Z1:=hZ1▸Mod.ext okZ
  have nZ1:Z1.next=z+1:=by rw[<-hZ1,ext_next,hz]; rfl
  clear hZ1
  have okZ1:=mZ1.ok okZ
  have V1:=V.mod0 mZ1
  have kZ1:=(mZ1.bk (by omega) (by simp)).trans kZ
  have mHZ1:=mHZ.trans mZ1
  have hkl:ks.length=ls.length:=by rw[<-hks,ksS_len,hss]
  have hhl:(hghR ks).length=ls.length:=by rw[hghR,zD5,hkl]
  have hll:ls.length<=60000:=by
   have h1:(insA bs).length=ls.length:=by rw[<-hls,zD5]
   unfold verA at hv
   cases hs:statA least most depth cn bs with
   |some g=>rw[hs]at hv; cases hv
   |none =>
    obtain⟨_,h2,h3,_⟩:=stat_none hs
    have:=(ins_len h3).1
    omega
  refine w_env fun E hE=>?_
  have g3:E 3=.pointer (some ⟨b+1,0,none⟩):=by rw[hE]; rfl
  have g4:E 4=.pointer (some ⟨v,0,none⟩):=by rw[hE]; rfl
  have g6:E 6=.slice none 0 0:=by rw[hE]; rfl
  have g23:E 23=.int .i64 (ls.length:Int):=by rw[hE]; rfl
  have g24:E 24=.int .i64 ((0:Nat):Int):=by rw[hE]; rfl
  clear hE
  refine w_loop (fun (q:Nat × List Int × Value) E' X'=>Mod [] Z1 X'/\ArgA X' q.2.2 q.2.1/\(∀ n∈idsV q.2.2,z+1<=n)/\q.2.1=(hghR ks).take q.1/\q.1<=ls.length/\E' 3=.pointer (some ⟨b+1,0,none⟩)/\E' 4=.pointer (some ⟨v,0,none⟩)/\E' 6=q.2.2/\E' 23=.int .i64 (ls.length:Int)/\E' 24=.int .i64 (q.1:Int)) (fun q=>ls.length-q.1) (0,[],.slice none 0 0) ⟨Mod.refl,VsAt.nil,fun n hn=>by simp[idsV]at hn,by simp,zB5 _,g3,g4,g6,g23,g24⟩ ?_
  clear g3 g4 g6 g23 g24 E
  rintro⟨i,out2,w⟩ E T ⟨mT,hw,hwi,hev,hil,g3,g4,g6,g23,g24⟩
  simp only at hw hwi hev hil g6 g24
  have hol:out2.length=i:=by rw[hev,zE7,hhl]; omega
  obtain⟨t,ht⟩:=Go.Ax.exq T.next
  have okT:=mT.ok okZ1
  have tb:T.base<=t:=ht▸okT
  have lt:z+1<=t:=by have:=mT.next; omega
  have kT:=(mT.bk (by omega) (by simp)).trans kZ1
  have VT:=V1.mod0 mT
  have kvT:=VT.vb
  unfold vfC at kvT
  rw[el]at kvT
  have i1:b+1<t:=by omega
  have iv':v<t:=by omega
  obtain⟨wa,ew⟩:=VsAt.len hw
  rw[show T=ext T [] from rfl]
  by_cases hie:i=ls.length
  ·have hd:decide ((i:Int)<(ls.length:Int))=false:=decide_eq_false (by omega)
   rw[ew]at g6
   simp only[g3,g6,g23,g24,ht,hd,i1,kT,Tryz.results16,qk_old,ruW,putL,Nat.reduceLeDiff,xF,ruU,Nat.reduceLT,Nat.reduceAdd,Nat.reduceEqDiff]
   rw[ext_nil]
   have mF:Mod [b+1] T (uw T (b+1) 0 [.int .i64 0,.int .i64 0]):=Mod.uw (by simp)
   refine⟨(mHZ1.trans mT).step mF hok fun n hn=>.inr (by simp only[zA7]at hn; omega),?_⟩
   rw[<-ew]
   rw[hie,zE2 (by omega)]at hev
   refine⟨w,rfl,?_⟩
   rw[<-hev]
   exact hw.of mF.next fun k hk=>mF.get k (hw.ne k hk).2 (by have:=hwi k hk; simp only[zA7]; omega)
  ·have hil':i<ls.length:=by omega
   have hd:decide ((i:Int)<(ls.length:Int))=true:=decide_eq_true (by omega)
   have hwj:IntKind.i64.wrap ((i:Int)+1)=((i+1:Nat):Int):=wrap_succ (by omega)
   obtain⟨o,ho2⟩:=Go.Ax.exq (ss.getD i none)
   have hgi:=hgh_at (ks:=ks) (show i<ks.length by omega)
   have hko:ks.getD i none=o.map (·.1):=by rw[<-hks,zB1,ksS_get,<-ho2,zB1]; cases ss[i]?<;>rfl
   rw[hko]at hgi
   -- what lookup gives
   obtain⟨h',bb,fv,ok2,hlk,hsf,hh⟩:∃ (h' bb:Int) (fv:Value) (ok2:Bool),(∀ L,aLookup Tryz.prog (ext T L) 88 (.map (some r)) (.int .i64 (i:Int)) true=some (.tuple #[.agg ⟨[.int .i64 h',.int .i64 bb,fv]⟩,.bool ok2]))/\(∃ a n c,fv=.slice a n c/\scb t fv=true)/\(hghR ks)[i]?=some (if ok2=true then h' else -1):=by
    cases o with
    |none =>
     refine⟨0,0,.slice none 0 0,false,fun L=>?_,⟨_,_,_,rfl,rfl⟩,hgi⟩
     have:=VT.sts.look u88 z93 (i:Int) true (ext T L) (ext_get_old VT.sts.1)
     rw[stF_nat,ho2]at this
     exact this
    |some y =>
     obtain⟨s,fv⟩:=y
     have hsi:ss[i]?=some (some (s,fv)):=by
      have hi':i<ss.length:=by omega
      rw[zB1,zA6 hi']at ho2
      rw[zA6 hi']
      exact congrArg some ho2
     have fr:=VT.fr i s fv hsi
     obtain⟨a,c,e⟩:=fr.sl
     refine⟨s.h,s.b,fv,true,fun L=>?_,⟨a,_,c,e,ht▸fr.sc⟩,hgi⟩
     have:=VT.sts.look u88 z93 (i:Int) true (ext T L) (ext_get_old VT.sts.1)
     rw[stF_nat,ho2]at this
     exact this
   obtain⟨fa,fn,fc,rfl,sf⟩:=hsf
   have sf1:=scb_mono (show t<=t+1 by omega) _ sf
   have jt:t+0<t+1:=by omega
   generalize hc:Code.seq (Code.seq (Code.region 9 _ _) _) _=code
   simp only[g4,g23,g24,ht,tb,hd,iv',kvT,hlk,w_lookup,sf1,qk_old,ruW,putL,Nat.reduceLeDiff,xF,ruU,Nat.reduceLT,Nat.reduceAdd,Nat.reduceEqDiff]
   subst hc
   refine w_env fun E2 hE=>?_
   replace g3:E2 3=.pointer (some ⟨b+1,0,none⟩):=by rw[hE]; simp only[g3,ruU,Nat.reduceEqDiff]
   replace g4:E2 4=.pointer (some ⟨v,0,none⟩):=by rw[hE]; simp only[g4,ruU,Nat.reduceEqDiff]
   replace g6:E2 6=w:=by rw[hE]; simp only[g6,ruU,Nat.reduceEqDiff]
   replace g23:E2 23=.int .i64 (ls.length:Int):=by rw[hE]; simp only[g23,ruU,Nat.reduceEqDiff]
   replace g24:E2 24=.int .i64 (i:Int):=by rw[hE]; simp only[g24,ruU,Nat.reduceEqDiff]
   have g8:E2 8=.pointer (some ⟨t+0,0,none⟩):=by rw[hE]; rfl
   have g9:E2 9=.bool ok2:=by rw[hE]; rfl
   clear hE
   obtain⟨hv',hhv⟩:∃ q,(if ok2=true then h' else -1)=q:=⟨_,rfl⟩
   rw[hhv]at hh
   rw[w_seq]
   refine w_meet (fun E' X'=>X'=ext T [⟨93,false,[.int .i64 hv',.int .i64 bb,.slice fa fn fc]⟩]/\E' 3=.pointer (some ⟨b+1,0,none⟩)/\E' 4=.pointer (some ⟨v,0,none⟩)/\E' 6=w/\E' 23=.int .i64 (ls.length:Int)/\E' 24=.int .i64 (i:Int)/\E' 8=.pointer (some ⟨t+0,0,none⟩)) ?_ ?_
   ·cases ok2 with
    |true =>
     have e:h'=hv':=hhv
     subst e
     simp only[g9,ruW,ruU,Nat.reduceLT]
     refine joinR_normal ⟨rfl,?_,?_,?_,?_,?_,?_⟩
     all_goals simp only[g3,g4,g6,g23,g24,g8,ruU,Nat.reduceEqDiff]
    |false =>
     have e:-1=hv':=hhv
     subst e
     simp only[g8,g9,ht,tb,ruW,putL,Nat.reduceLeDiff,xF,ruU,Nat.reduceLT,Nat.reduceAdd,Nat.reduceEqDiff]
     refine joinR_normal ⟨rfl,?_,?_,?_,?_,?_,?_⟩
     all_goals simp only[g3,g4,g6,g23,g24,g8,ruU,Nat.reduceEqDiff]
   clear g3 g4 g6 g8 g9 g23 g24 E2 E
   rintro E X' ⟨hX',g3,g4,g6,g23,g24,g8⟩
   rw[hX']
   generalize hT1:ext T _=T1
   have mT1:Mod [] T T1:=hT1▸Mod.ext okT
   have nT1:T1.next=t+1:=by rw[<-hT1,ext_next,ht]; rfl
   have t0:bk T1 (t+0)=some ⟨93,false,[.int .i64 hv',.int .i64 bb,.slice fa fn fc]⟩:=by rw[<-hT1,bk_at ht (by simp)]; rfl
   clear hT1 hX'
   have okT1:=mT1.ok okT
   have hw1:ArgA T1 w out2:=hw.of mT1.next fun k hk=>mT1.get k (hw.ne k hk).2 (by simp)
   obtain⟨G,k1,vG,mG,nG⟩:=int_app hw1 nT1 okT1 (by omega) hv'
   have hwx:∀ q∈idsV w,z+1<=q/\q<t:=fun q hq=>⟨hwi q hq,ht▸(hw.ne q hq).2⟩
   have mZG:Mod [] Z1 G:=(mT.trans mT1).step mG okZ1 fun q hq=>.inr (by have:=hwx q hq; omega)
   rw[show T1=ext T1 [] from rfl]
   simp only[g6,g8,g24,nT1,jt,t0,k1,hwj,qk_old,ruW,xF,ruU,Nat.reduceLT,Nat.reduceAdd,Nat.reduceEqDiff]
   refine loopC_next ⟨(i+1,out2++[hv'],.slice (some ⟨t+1+1,0,none⟩) (out2.length+1) (out2.length+1)),by simp only; omega,mZG,vG,fun q hq=>by simp only[idsV,zA7]at hq; omega,?_,by simp only; omega,?_,?_,?_,?_,?_⟩
   ·simp only
    rw[List.take_add_one,<-hev,hh]
    rfl
   all_goals simp only[g3,g4,g23,ruU,Nat.reduceEqDiff]
abbrev kpa1:List Value:=[.int .i64 0,.int .i64 0,.int .i64 1,.int .i64 1,.string ⟨#[100,114,111,112,10]⟩,.int .i64 9,.int .i64 0]
abbrev kpa2:List Value:=[.int .i64 0,.int .i64 0,.int .i64 1,.int .i64 1,.string ⟨#[99,111,110,115,116,32,48,10]⟩,.int .i64 13,.int .i64 0]
abbrev kpa3:List Value:=[.int .i64 0,.int .i64 0,.int .i64 1,.int .i64 1,.string ⟨#[106,117,109,112,32,49,10]⟩,.int .i64 5,.int .i64 0]
abbrev kpa4:List Value:=[.int .i64 0,.int .i64 0,.int .i64 1,.int .i64 1,.string ⟨#[114,101,116,117,114,110,10]⟩,.int .i64 9,.int .i64 0]
abbrev kpa5:List Value:=[.int .i64 0,.int .i64 0,.int .i64 1,.int .i64 1,.string ⟨#[99,111,110,115,116,32,49,10]⟩,.int .i64 3,.int .i64 0]
abbrev kpa6:List Value:=[.int .i64 0,.int .i64 0,.int .i64 2,.int .i64 2,.string ⟨#[99,111,110,115,116,32,48,10,99,97,116,99,104,32,49,49,10,99,111,110,115,116,32,49,10,100,111,110,101,10,114,101,116,117,114,110,10]⟩,.int .i64 5,.int .i64 3]
abbrev kpa7:List Value:=[.int .i64 2,.int .i64 2,.int .i64 4,.int .i64 1,.string ⟨#[99,111,110,115,116,32,48,10,99,111,112,121,32,50,10,99,111,112,121,32,50,10,99,97,108,108,32,50,10,114,101,116,117,114,110,10]⟩,.int .i64 12,.int .i64 6]
abbrev kpl0:List (FuncId × List Value × Value):=[]
abbrev kpl1:List (FuncId × List Value × Value):=(37,kpa1,.bool true)::kpl0
abbrev kpl2:List (FuncId × List Value × Value):=(37,kpa2,.bool true)::kpl1
abbrev kpl3:List (FuncId × List Value × Value):=(37,kpa3,.bool true)::kpl2
abbrev kpl4:List (FuncId × List Value × Value):=(37,kpa4,.bool true)::kpl3
abbrev kpl5:List (FuncId × List Value × Value):=(37,kpa5,.bool true)::kpl4
abbrev kpl6:List (FuncId × List Value × Value):=(37,kpa6,.bool true)::kpl5
abbrev kpl7:List (FuncId × List Value × Value):=(37,kpa7,.bool true)::kpl6
end Go.Proofs.YtnigelgcjfhghaaGreatDoor
