/- Parts of the proof, one behind the other. -/
import Derived.Test.YtfpckllenkifkaaDoorM4
import Derived.Test.YtfpckllenkifkaaDoorM5
set_option linter.all false
set_option maxRecDepth 10000
set_option maxHeartbeats 16000000
open And renaming intro -> zA0
open Option renaming bind_eq_bind -> zA1, bind_eq_some_iff -> zA2, bind_some -> zA3, map_some -> zA8, map_eq_some_iff -> zB0
open Bool renaming and_eq_true -> zA4, false_eq_true -> zC1, not_true -> zC2, not_false -> zD8, false_and -> zE0, and_true -> zE6, and_self -> zE8
open List renaming getElem?_eq_getElem -> zA5, mem_singleton -> zA9, mem_cons -> zB2, mem_cons_of_mem -> zB3, length_cons -> zB4, mem_of_getElem? -> zB5, map_cons -> zB7, mem_cons_self -> zB9, mem_append -> zC3, drop_zero -> zC7, length_append -> zC8, nil_append -> zC9, length_nil -> zD0, all_eq_true -> zD1, getElem?_eq_none -> zD2, getElem?_cons_zero -> zD3, length_drop -> zD4, length_replicate -> zD6, eq_nil_of_length_eq_zero -> zD7, getElem?_eq_some_iff -> zE1, getElem?_cons_succ -> zE2, length_take -> zE3, append_nil -> zE4, mem_map -> zE7, drop_drop -> zE9, take_length -> zF0, map_congr_left -> zF1, take_of_length_le -> zF2, flatMap_cons -> zF3, getElem?_take -> zF4, drop_eq_nil_of_le -> zF5, length_map -> zF6, foldl_cons -> zF7, mem_flatMap -> zF8, getD_eq_getElem?_getD -> zF9
open Nat renaming le_refl -> zA6, zero_le -> zA7, le_of_ble_eq_true -> zB1, zero_add -> zB6, le_trans -> zB8, lt_or_ge -> zC0, lt_of_lt_of_le -> zC4, lt_succ_self -> zC5, ble_eq -> zC6, add_zero -> zD5, min -> zD9, zero_mul -> zE5

namespace Go.Proofs.YtfpckllenkifkaaDoor
open Go.Ax
theorem SrcAt.of {H H0 G Z:AHeap} {v:Value} {l:List Ce} (h:SrcAt H0 G v l) (hH:H0.next=H.next) (hg:∀ n,H.next<=n->n<G.next->Z.get n=G.get n) (hn:Z.next=G.next):SrcAt H Z v l:=by
 rcases h with h|⟨n,cap,L,rfl,h1,h2,hb⟩
 ·exact .inl h
 ·exact .inr ⟨n,cap,L,rfl,by omega,by omega,(bk_get (hg n (by omega) h2)).trans hb⟩
theorem refFit_c (H:AHeap) (t:Tab H) (h01:1<H.next) (s:ByteArray) (width:Int) (k:Lk) (hlen:s.data.toList.length<=300) (hok:H.base<=H.next) :
  CallA Tryd.prog 14 [.string s,.int .i64 width,k.val] H (fun out H1=>Mod [] H H1/\FitOut H H1 (ptsR s.data.toList) width k out):=by
 obtain⟨b,hb⟩:=Go.Ax.exq H.next
 refine callE_fn mixed Tryd.func14 rfl Tryd.ntmps14 (zB1 rfl) ?_
 simp only[hb,Lk.val,ruW,xF,ruU,entryE,Nat.reduceLT,Nat.reduceAdd,Nat.reduceEqDiff]
 generalize hX0:ext H [_]=X0
 have m0:Mod [] H X0:=hX0▸Mod.ext hok
 have n0:X0.next=b+1:=by rw[<-hX0,ext_next,hb]; rfl
 have box0:bk X0 (b+0)=some ⟨38,false,lkc k⟩:=by rw[<-hX0,bk_at hb (by simp)]; rfl
 refine (refList_c X0 s (by omega) (m0.ok hok)).mono ?_
 rintro out X ⟨m1,ho⟩
 obtain⟨q,hq⟩:=Go.Ax.exq (b+0)
 rw[hq]at box0 ⊢
 have ql:q<X.next:=by have:=m1.next; omega
 have mX:=m0.trans m1
 have okX:=mX.ok hok
 have boxX:bk X q=some ⟨38,false,lkc k⟩:=(m1.bk (by omega) (by simp)).trans box0
 obtain⟨x,hx⟩:=Go.Ax.exq X.next
 rw[hx]at ql
 rw[show X=ext X [] from rfl]
 cases hp:ptsR s.data.toList with
 |none =>
  rw[hp]at ho
  simp only[LsOut]at ho
  subst ho
  have h5:decide (¬(5:Int)=0)=true:=by decide
  simp only[h5,not_false_eq_true,Tryd.results14,ruW,ruU,Nat.reduceLT,Nat.reduceEqDiff]
  exact⟨mX,rfl⟩
 |some l =>
  rw[hp]at ho
  obtain⟨v8,rfl,hv8,hid8⟩:=ho
  have hll:l.length<=300:=zB8 (ptsR_len _ _ _ (zA6 _) hp) hlen
  obtain⟨d1,h1⟩:∃ d,decide (width<0)=d:=⟨_,rfl⟩
  obtain⟨d2,h2⟩:∃ d,decide (1000<width)=d:=⟨_,rfl⟩
  obtain⟨d3,h3⟩:∃ d,colr k=d:=⟨_,rfl⟩
  have hcol:=colours_c (ext X []) k
  rw[h3]at hcol
  simp only[FitOut,h1,h2,h3]
  cases d1 with
  |true =>
   simp only[not_true_eq_false,decide_false,not_false_eq_true,h1,Tryd.results14,ruW,ruU,Nat.reduceLT,Nat.reduceEqDiff]
   exact⟨mX,by simp⟩
  |false =>
   cases d2 with
   |true =>
    simp only[not_true_eq_false,decide_false,not_false_eq_true,h1,h2,Tryd.results14,ruW,ruU,Nat.reduceLT,Nat.reduceEqDiff]
    exact⟨mX,by simp⟩
   |false =>
    simp only[not_true_eq_false,decide_false,not_false_eq_true,hx,h1,h2,boxX,ql,lkc,ruW,Nat.reduceLeDiff,xF,ruU,Nat.reduceLT,Nat.reduceAdd,Nat.reduceEqDiff]
    refine hcol.to ?_
    cases d3 with
    |false =>
     simp only[not_false_eq_true,Tryd.results14,ruW,ruU,Nat.reduceLT,Nat.reduceEqDiff]
     exact⟨mX,by simp⟩
    |true =>
     obtain⟨w,hw⟩:∃ w:Nat,width=w:=⟨width.toNat,by have:=of_decide_eq_false h1; omega⟩
     have hw1:w<=1000:=by have:=of_decide_eq_false h2; omega
     subst hw
     simp only[not_false_eq_true,ruW,ruU,Nat.reduceLT,Nat.reduceEqDiff]
     refine w_env fun E hE=>?_
     have g1:E 1=.int .i64 (w:Int):=by rw[hE]; rfl
     have g5:E 5=.pointer (some ⟨q,0,none⟩):=by rw[hE]; rfl
     have g10:E 10=.slice none 0 0:=by rw[hE]; rfl
     have g8:E 8=v8:=by rw[hE]; rfl
     have g11:E 11=.int .i64 ((0:Nat):Int):=by rw[hE]; rfl
     clear hE
     have hq1:q<X.next:=by rw[hx]; exact ql
     have hHX:H.next<=X.next:=mX.next
     have I0:FitI H X X q k v8 l (.slice none 0 0) []:=⟨mX,zA6 _,okX,boxX,hq1,hv8,fun n hn=>(hv8.ne n hn).2,VsAt.nil,fun n hn=>by simp[idsV]at hn⟩
     have hR:=grd_len w k l [] (zA7 _)
     obtain⟨R,hRd⟩:=Go.Ax.exq (grd w k l [])
     rw[hRd]at hR
     have hfit:fitR (w:Int).toNat k l=R++List.replicate (w-R.length) (k.ce 32):=by rw[Int.toNat_natCast,fitR,hRd]
     refine blockC_meet (fun E' Y=>∃ v,FitI H X Y q k v8 l v R/\E' 10=v/\E' 1=.int .i64 (w:Int)/\E' 5=.pointer (some ⟨q,0,none⟩)) ?_ ?_
     ·refine w_loop (fun (z:Nat × List Ce × Value) E' Y=>FitI H X Y q k v8 l z.2.2 z.2.1/\z.1<=l.length/\z.2.1.length<=w/\grd w k (l.drop z.1) z.2.1=R/\E' 1=.int .i64 (w:Int)/\E' 5=.pointer (some ⟨q,0,none⟩)/\E' 10=z.2.2/\E' 8=v8/\E' 11=.int .i64 (z.1:Int)) (fun z=>l.length-z.1) (0,[],.slice none 0 0)
       ⟨I0,zA7 _,zA7 _,hRd,g1,g5,g10,g8,g11⟩ ?_
      clear g1 g5 g10 g8 g11 E
      rintro⟨i,acc,v⟩ E Y ⟨I,hil,hal,hg,g1,g5,g10,g8,g11⟩
      simp only at I hil hal hg g10 g11
      obtain⟨y,hy⟩:=Go.Ax.exq Y.next
      have hqy:q<y:=by have:=I.lo; have:=I.ql; omega
      have hby:=I.box
      obtain⟨a8,e8⟩:=I.av8.len
      rw[show Y=ext Y [] from rfl]
      by_cases hlt:i<l.length
      ·have hd:decide ((i:Int)<(l.length:Int))=true:=decide_eq_true (by omega)
       obtain⟨c,hc⟩:∃ c,l[i]?=some c:=⟨_,zA5 hlt⟩
       obtain⟨n8,e8',n8l,b8,c8⟩:=ints_load I.av8 hc
       rw[e8']at g8
       rw[hy]at n8l
       have i0:=ints_ia (len:=l.length) (cap:=l.length) (n:=n8) (s:=none) (k:=i) hlt
       have hdr:l.drop i=c::l.drop (i+1):=by
        rw[List.drop_eq_getElem_cons hlt]
        rw[zA5 hlt]at hc
        rw[Option.some.inj hc]
       rw[hdr,grd]at hg
       simp only[g8,g11,hd,ruW,xF,ruU,Nat.reduceLT,Nat.reduceEqDiff]
       refine w_drawB [(5,3),(5,4),(6,5)] [] (by kernel_rfl) (by kernel_rfl) rfl fun ops anc hA hG=>?_
       simp only[all2_cons]at hA
       simp only[g5,g8,g11,hy,i0,b8,n8l,c8,hby,hqy,lkc,ruD,ruW,Nat.reduceLeDiff,xF,ruU,Nat.reduceLT,Nat.reduceAdd,Nat.reduceEqDiff]
       have hrn:=restrict_next Y []
       obtain⟨_,gg,hcc,mg,v12,rfl,hs⟩:=refCells_c (Y.restrict []) c k (by rw[hrn.1,hrn.2.1]; exact zA6 _)
       refine genV_mod (H:=ext Y []) (W:=[]) [] I.ok rfl (by kernel_rfl) (fun n hn=>by simp at hn) (fun n hn=>by simp at hn) (fun _ h=>by simp at h) (v:=v12) (g:=gg) (by simp only[ruU,Nat.reduceEqDiff]; exact hcc) mg (by simp only[all2_cons,all2_nil,hA,true_or,and_true]) ?_
       intro Z D mZ hFZ hNZ hnZ hDZ
       have hD0:D=[]:=List.eq_nil_iff_forall_not_mem.2 (fun q hq=>by simpa using hDZ q hq)
       subst hD0
       replace mZ:Mod [] Y Z:=mZ
       replace hNZ:∀ m,Y.next<=m->m<gg.next->Z.get m=gg.get m:=hNZ
       have hs:=hs.of (H:=Y) hrn.1 hNZ hnZ
       have I2:=I.grow hok mZ
       obtain⟨z,hz⟩:=Go.Ax.exq Z.next
       have hsl:∃ a cap,v12=.slice a (cls c k).length cap:=by
        rcases hs with⟨e,rfl⟩|⟨n,cap,L,rfl,_⟩
        ·exact⟨none,0,by rw[e]; rfl⟩
        ·exact⟨_,_,rfl⟩
       obtain⟨a13,c13,e13⟩:=hsl
       obtain⟨av,ev⟩:=I2.av.len
       rw[show Z=ext Z [] from rfl]
       have hcl:=cls_len c k
       have hw2:IntKind.i64.wrap ((acc.length:Int)+((cls c k).length:Int))=(((acc.length+(cls c k).length:Nat)):Int):=(wrap_sm (by omega) (by omega)).trans (by omega)
       simp only[hA,ruD,ruW,ruU,Nat.reduceLT,Nat.reduceAdd,Nat.reduceEqDiff]
       by_cases hgt:w<acc.length+(cls c k).length
       ·have hd2:decide ((w:Int)<((acc.length+(cls c k).length:Nat):Int))=true:=decide_eq_true (by omega)
        rw[if_pos hgt]at hg
        rw[e13]
        rw[ev]at g10
        simp only[g1,g10,hw2,hd2,blockC_other (show (0:Nat)≠1 by decide),ruW,xF,ruU,Nat.reduceLT,Nat.reduceEqDiff]
        refine joinR_normal ?_
        refine⟨v,by rw[<-hg]; exact I2,?_,?_,?_⟩
        ·rw[ev]; simp only[g10,ruU,Nat.reduceEqDiff]
        ·exact g1
        ·exact g5
       ·have hd2:decide ((w:Int)<((acc.length+(cls c k).length:Nat):Int))=false:=decide_eq_false (by omega)
        rw[if_neg hgt]at hg
        obtain⟨v',G,k1,I3⟩:=I2.app hok hHX hs hz (by omega)
        have hw3:IntKind.i64.wrap ((i:Int)+1)=((i+1:Nat):Int):=wrap_succ (by omega)
        rw[e13]at k1 ⊢
        rw[ev]at g10 k1
        rw[<-ext_nil (H:=Z)]at k1
        simp only[g1,g10,g11,hw2,hw3,hd2,k1,ruW,xF,ruU,Nat.reduceLT,Nat.reduceEqDiff]
        refine loopC_next ⟨(i+1,acc++cls c k,v'),?_,I3,?_,?_,hg,?_,?_,?_,?_,?_⟩
        ·simp only; omega
        ·simp only; omega
        ·simp only[zC8]; omega
        all_goals simp only[g1,g5,g8,e8',ruU,Nat.reduceEqDiff]
      ·have hd:decide ((i:Int)<(l.length:Int))=false:=decide_eq_false (by omega)
       rw[zF5 (by omega),grd]at hg
       rw[e8]at g8
       simp only[g8,g11,hd,ruW,xF,ruU,Nat.reduceLT,Nat.reduceEqDiff]
       refine joinR_normal ?_
       exact⟨v,hg▸I,by simp only[g10,ruU,Nat.reduceEqDiff],by simp only[g1,ruU,Nat.reduceEqDiff],by simp only[g5,ruU,Nat.reduceEqDiff]⟩
     clear g1 g5 g10 g8 g11 E
     rintro E Y ⟨v,I,g10,g1,g5⟩
     rw[show Y=ext Y [] from rfl]
     simp only[ruW]
     refine blockC_meet (fun E' Y=>∃ v,FitI H X Y q k v8 l v (R++List.replicate (w-R.length) (k.ce 32))/\E' 10=v) ?_ ?_
     ·refine w_loop (fun (z:Nat × Value) E' Y=>FitI H X Y q k v8 l z.2 (R++List.replicate z.1 (k.ce 32))/\z.1<=w-R.length/\E' 1=.int .i64 (w:Int)/\E' 5=.pointer (some ⟨q,0,none⟩)/\E' 10=z.2) (fun z=>w-R.length-z.1) (0,v)
       ⟨by rw[List.replicate_zero,zE4]; exact I,zA7 _,g1,g5,g10⟩ ?_
      clear g1 g5 g10 I v E Y
      rintro⟨i,v⟩ E Y ⟨I,hil,g1,g5,g10⟩
      simp only at I hil g10
      obtain⟨y,hy⟩:=Go.Ax.exq Y.next
      have hqy:q<y:=by have:=I.lo; have:=I.ql; omega
      have hby:=I.box
      obtain⟨av,ev⟩:=I.av.len
      have hlr:(R++List.replicate i (k.ce 32)).length=R.length+i:=by rw[zC8,zD6]
      rw[hlr]at ev
      rw[show Y=ext Y [] from rfl]
      rw[ev]at g10
      by_cases hlt:i<w-R.length
      ·have hd:decide (((R.length+i:Nat):Int)<(w:Int))=true:=decide_eq_true (by omega)
       have hsrc:SrcAt Y (ext Y [⟨68,false,(k.ce 32).cells⟩]) (.slice (some ⟨y+0,0,some 0⟩) 1 1) [k.ce 32] :=
        .inr ⟨y+0,1,[],rfl,by omega,by rw[ext_next,hy]; simp,by rw[bk_at hy (by simp)]; rfl⟩
       have mZ:Mod [] Y (ext Y [⟨68,false,(k.ce 32).cells⟩]):=Mod.ext I.ok
       simp only[g1,g5,g10,hd,hy,hqy,hby,lkc,ruW,Nat.reduceLeDiff,xF,ruU,Nat.reduceLT,Nat.reduceAdd,Nat.reduceEqDiff]
       simp only[Lk.ce,Ce.cells]at hsrc mZ
       generalize hZ:ext Y [_]=Z at hsrc mZ ⊢
       obtain⟨z,hz⟩:=Go.Ax.exq Z.next
       obtain⟨v',G,k1,I5⟩:=(I.grow hok mZ).app hok hHX hsrc hz (by rw[hlr]; simp only[List.length_singleton]; omega)
       rw[ev]at k1
       rw[<-ext_nil (H:=Z)]at k1
       rw[show Z=ext Z [] from rfl]
       simp only[k1,ruW,ruU,Nat.reduceLT]
       refine loopC_next ⟨(i+1,v'),?_,?_,?_,?_,?_,?_⟩
       ·simp only; omega
       ·simp only
        rw[show R++List.replicate (i+1) (k.ce 32)=R++List.replicate i (k.ce 32)++[k.ce 32] from by rw[List.replicate_succ',List.append_assoc]]
        exact I5
       ·simp only; omega
       all_goals simp only[g1,g5,ruU,Nat.reduceEqDiff]
      ·have hd:decide (((R.length+i:Nat):Int)<(w:Int))=false:=decide_eq_false (by omega)
       have hi:i=w-R.length:=by omega
       subst hi
       simp only[g1,g10,hd,ruW,xF,ruU,Nat.reduceLT,Nat.reduceEqDiff]
       refine joinR_normal ?_
       exact⟨v,I,by rw[ev]; simp only[g10,ruU,Nat.reduceEqDiff]⟩
     clear g1 g5 g10 I v E Y
     rintro E Y ⟨v,I,g10⟩
     rw[show Y=ext Y [] from rfl]
     simp only[g10,Tryd.results14,ruW,ruU,Nat.reduceLT,Nat.reduceEqDiff]
     refine⟨I.m,?_⟩
     rw[if_neg (by simp),hfit]
     exact⟨v,rfl,I.av,fun n hn=>zB8 hHX (I.i n hn)⟩
structure SvR (x N:Nat) (H:AHeap) (s:Nat) (v:Value) (rvs:List Value) (W:Nat) (g:List (List Ce)) (rw cl:Int):Prop where
 at_:bk H s=some ⟨31,false,[v,.int .i64 rw,.int .i64 cl]⟩
 lt:s<H.next
 xs:x<=s
 xN:x<=N
 nx:N<=H.next
 ns:s∉idsV v++rvs.flatMap idsV
 sc:ScR N H v rvs W g
theorem SvR.grow {x N s W:Nat} {H G:AHeap} {v:Value} {rvs:List Value} {g:List (List Ce)} {rw cl:Int} (h:SvR x N H s v rvs W g rw cl) (m:Mod [] H G):SvR x N G s v rvs W g rw cl :=
 ⟨(m.bk h.lt (by simp)).trans h.at_,zC4 h.lt m.next,h.xs,h.xN,zB8 h.nx m.next,h.ns,h.sc.grow m⟩
theorem SvR.put {x N s W:Nat} {H G:AHeap} {v:Value} {rvs:List Value} {g g':List (List Ce)} {rw cl:Int} (h:SvR x N H s v rvs W g rw cl) (m:Mod (rvs.flatMap idsV) H G) (hs:ScR N G v rvs W g'):SvR x N G s v rvs W g' rw cl :=
 ⟨(m.bk h.lt (fun hn=>h.ns (List.mem_append_right _ hn))).trans h.at_,zC4 h.lt m.next,h.xs,h.xN,zB8 h.nx m.next,h.ns,hs⟩
theorem SvR.low {x N s W:Nat} {H:AHeap} {v:Value} {rvs:List Value} {g:List (List Ce)} {rw cl:Int} (h:SvR x N H s v rvs W g rw cl):∀ n∈s::rvs.flatMap idsV,x<=n/\n<H.next:=fun n hn=>by
 rcases zB2.1 hn with rfl|hn
 ·exact⟨h.xs,h.lt⟩
 ·have:=h.sc.own.ids n hn
  have:=h.xN
  omega
theorem SvR.row {x N s W:Nat} {H:AHeap} {v:Value} {rvs:List Value} {g:List (List Ce)} {rw cl:Int} (h:SvR x N H s v rvs W g rw cl) (a:Int):SvR x N (uw H s 1 [.int .i64 a]) s v rvs W g a cl/\Mod [s] H (uw H s 1 [.int .i64 a]):=by
 have m:Mod [s] H (uw H s 1 [.int .i64 a]):=Mod.uw (by simp)
 refine⟨⟨by rw[bk_uw_eq,h.at_]; rfl,zC4 h.lt m.next,h.xs,h.xN,zB8 h.nx m.next,h.ns,⟨h.sc.own.of m.next fun n _ hn hin=>m.get n hn (fun h1=>?_),h.sc.wd⟩⟩,m⟩
 simp only[zA9]at h1
 exact h.ns (h1▸hin)
theorem SvR.col {x N s W:Nat} {H:AHeap} {v:Value} {rvs:List Value} {g:List (List Ce)} {rw cl:Int} (h:SvR x N H s v rvs W g rw cl) (a:Int):SvR x N (uw H s 2 [.int .i64 a]) s v rvs W g rw a/\Mod [s] H (uw H s 2 [.int .i64 a]):=by
 have m:Mod [s] H (uw H s 2 [.int .i64 a]):=Mod.uw (by simp)
 refine⟨⟨by rw[bk_uw_eq,h.at_]; rfl,zC4 h.lt m.next,h.xs,h.xN,zB8 h.nx m.next,h.ns,⟨h.sc.own.of m.next fun n _ hn hin=>m.get n hn (fun h1=>?_),h.sc.wd⟩⟩,m⟩
 simp only[zA9]at h1
 exact h.ns (h1▸hin)
theorem over_one {A:List Ce} {n:Nat} {c:Ce} (h:n<A.length):overR A n [c]=A.set n c:=by
 unfold overR
 rw[List.set_eq_take_append_cons_drop,if_pos h,List.append_assoc]
 rfl
theorem putG_nil {g:List (List Ce)} {row col:Nat} {q:List Ce} (hq:g[row]?=some q):putG g row col []=g:=by
 rw[putG_get hq]
 have:overR q col []=q:=by simp[overR]
 rw[this]
 obtain⟨h1,h2⟩:=zE1.1 hq
 rw[<-h2]
 exact List.set_getElem_self ..
theorem putG_next {g:List (List Ce)} {row col t:Nat} {q:List Ce} {c:Ce} (hq:g[row]?=some q) (h:col+(t+1)<=q.length):putG (putG g row col (List.replicate t c)) row (col+t) [c]=putG g row col (List.replicate (t+1) c):=by
 have hr:=(zE1.1 hq).1
 have h1:=over_snoc (q:=q) (cs:=List.replicate (t+1) c) (col:=col) (i:=t) (c:=c) (by simp) (by rw[zD6]; exact h)
 rw[zF2 (by simp),List.take_replicate,Nat.min_eq_left (by omega)]at h1
 have hl:(overR q col (List.replicate t c)).length=q.length:=overR_len (by rw[zD6]; omega)
 rw[putG_get hq,putG_get (q:=overR q col (List.replicate t c)) (List.getElem?_set_self hr),putG_get hq,over_one (by omega),h1,List.set_set]
theorem fitOut_row {H X:AHeap} {s:ByteArray} {wi:Int} {w:Nat} {k:Lk} {out:Out} (ho:FitOut H X (ptsR s.data.toList) wi k out) (hwi:wi=w) (hk:colr k=true) (hw:w<=1000):∃ u e,out=.ok (.tuple #[u,.int .i64 e])/\RowAt X u (strG w k s)/\∀ n∈idsV u,H.next<=n:=by
 unfold FitOut at ho
 unfold strG
 cases hp:ptsR s.data.toList with
 |none =>
  rw[hp]at ho
  exact⟨_,_,ho,.inl ⟨rfl,_,_,rfl⟩,fun n hn=>by simp[idsV]at hn⟩
 |some l =>
  rw[hp]at ho
  have:(decide (wi<0)||decide (1000<wi)||!colr k)=false:=by
   rw[hk]
   simp only[Bool.or_eq_false_iff,decide_eq_false_iff_not]
   exact⟨⟨by omega,by omega⟩,rfl⟩
  simp only[this]at ho
  obtain⟨u,h1,h2,h3⟩:=ho
  rw[show wi.toNat=w by omega]at h2
  exact⟨u,_,h1,vs_rowF h2,h3⟩
theorem rfDraw_c (q:Bool) (H:AHeap) (t:TabX H) (f:Fr) (pv bv:Value) (hf:FrR q H pv bv f) (bd:FrBd f) (hok:H.base<=H.next):CallA Tryd.prog 10 [.agg ⟨frL pv bv f⟩] H (fun out X=>DrO H f out X):=by
 obtain⟨x,hx⟩:=Go.Ax.exq H.next
 obtain⟨pa,pc,ep⟩:=hf.panes.sl
 obtain⟨ba,bc,eb⟩:=hf.bars.sl
 have sp:=hf.sp
 have sb:=hf.sb
 rw[hx,ep]at sp
 rw[hx,eb]at sb
 refine callE_fn mixed Tryd.func10 rfl Tryd.ntmps10 (zB1 rfl) ?_
 have z31:zeroOf Tryd.prog 31=some (.agg #[.slice none 0 0,.int .i64 0,.int .i64 0]):=by kernel_rfl
 have bl31:aBuild Tryd.prog 31 []=some (.agg #[.slice none 0 0,.int .i64 0,.int .i64 0]):=by kernel_rfl
 obtain⟨G,hG⟩:=Go.Ax.exq (ext H [⟨25,false,frL pv bv f⟩,⟨31,false,[.slice none 0 0,.int .i64 0,.int .i64 0]⟩])
 have mG:Mod [] H G:=hG▸Mod.ext hok
 have nG:G.next=x+2:=by rw[<-hG,ext_next,hx]; rfl
 have okG:=mG.ok hok
 have gb:G.base<=x+2:=nG▸okG
 have k1:bk G (x+0)=some ⟨25,false,frL pv bv f⟩:=by rw[<-hG,bk_at hx (by simp)]; rfl
 have k2:bk G (x+1)=some ⟨31,false,[.slice none 0 0,.int .i64 0,.int .i64 0]⟩:=by rw[<-hG,bk_at hx (by simp)]; rfl
 have j1:x+0<x+2:=by omega
 have j2:x+1<x+2:=by omega
 have hva:=rfCheck_c q G f pv bv (hf.mod0 mG) bd
 rw[ep,eb]at k1 hG hva ⊢
 unfold frL at k1 hG hva ⊢
 generalize hcode:Code.seq (Code.region 5 _ _) _=code
 simp only[hx,sp,sb,z31,ruW,Nat.reduceLeDiff,xF,ruU,entryE,Nat.reduceLT,Nat.reduceAdd,Nat.reduceEqDiff]
 rw[hG]
 refine hva.to ?_
 rw[show G=ext G [] from rfl]
 obtain⟨ev,hev⟩:∃ q,frE f=q:=⟨_,rfl⟩
 rw[hev]at hva
 rw[hev]
 obtain⟨d,hd⟩:=Go.Ax.exq (decide (¬ev=0))
 cases d with
 |true =>
  have hne:ev≠0:=of_decide_eq_true hd
  simp only[nG,j2,k2,hd,bl31,Tryd.results10,qk_old,ruW,putL,Nat.reduceLeDiff,xF,ruU,Nat.reduceLT,Nat.reduceAdd,Nat.reduceEqDiff]
  refine⟨?_,?_⟩
  ·exact mG.step (W':=[x+1]) (Mod.uw (by simp)) hok fun n hn=>.inr (by simp only[zA9]at hn; omega)
  ·rw[hev,if_pos hne]
 |false =>
 have hev0:ev=0:=Decidable.byContradiction fun h=>of_decide_eq_false hd h
 simp only[nG,j1,k1,hd,qk_old,ruW,xF,ruU,Nat.reduceLT,Nat.reduceAdd,Nat.reduceEqDiff]
 have fo:=frOk_of (hev.trans hev0)
 obtain⟨W,hW⟩:∃ W:Nat,f.width=(W:Int):=⟨f.width.toNat,by have:=fo.w1; omega⟩
 obtain⟨h,hh⟩:∃ h:Nat,f.height=(h:Int):=⟨f.height.toNat,by have:=fo.h1; omega⟩
 have hW1:1<=W:=by have:=fo.w1; omega
 have hW2:W<=1000:=by have:=fo.w2; omega
 have hh1:2<=h:=by have:=fo.h1; omega
 have hh2:h<=200:=by have:=fo.h2; omega
 have bC:=blank_c G h W f.height f.width hh hW (by omega) hW1 hW2 okG
 refine CallA.mono (show CallA Tryd.prog 32 _ (ext G []) _ from bC) ?_
 rintro out B ⟨mB,N,v,rvs,hNl,hNB,hsB,rfl⟩
 rw[nG]at hNl
 obtain⟨s,hs⟩:=Go.Ax.exq B.next
 have okB:=mB.ok okG
 have bb:B.base<=s:=hs▸okB
 have xs:x+2<=s:=by have:=mB.next; omega
 obtain⟨va,vc,ev⟩:∃ a c,v=.slice a (blankG h W).length c:=hsB.own.grid.sl
 have scv:scb s v=true:=by
  rcases hsB.own.at_ with⟨_,e⟩|⟨m,s',c,o,e,_,_,hlt,_⟩
  ·rw[e]; rfl
  ·rw[e]; exact blt_of (hs▸hlt)
 have hns:s∉idsV v++rvs.flatMap idsV:=fun hn=>by
  rcases zC3.1 hn with h1|h1
  ·have:=(hsB.own.idv s h1).2.1; omega
  ·have:=(hsB.own.ids s h1).2.1; omega
 obtain⟨S,hS⟩:=Go.Ax.exq (ext B [⟨31,false,[v,.int .i64 (-1),.int .i64 0]⟩])
 have mS:Mod [] B S:=hS▸Mod.ext okB
 have nS:S.next=s+1:=by rw[<-hS,ext_next,hs]; rfl
 have kS:bk S (s+0)=some ⟨31,false,[v,.int .i64 (-1),.int .i64 0]⟩:=by rw[<-hS,bk_at hs (by simp)]; rfl
 have okS:=mS.ok okB
 have sS:SvR (x+2) N S (s+0) v rvs W (blankG h W) (-1) 0:=⟨kS,by omega,by omega,hNl,by omega,hns,hsB.grow mS⟩
 have mHS:Mod [] H S:=(mG.trans mB).trans mS
 have mGS:Mod [] G S:=mB.trans mS
 rw[show B=ext B [] from rfl]
 rw[ev]at hS scv
 rw[ev]
 simp only[hs,bb,z31,scv,ruW,putL,Nat.reduceLeDiff,xF,ruU,Nat.reduceLT,Nat.reduceAdd,Nat.reduceEqDiff]
 rw[hS]
 have k1S:=(mGS.bk (by omega) (by simp)).trans k1
 have k2S:=(mGS.bk (by omega) (by simp)).trans k2
 refine w_env fun E hE=>?_
 have g1:E 1=.pointer (some ⟨x+0,0,none⟩):=by rw[hE]; rfl
 have g2:E 2=.pointer (some ⟨x+1,0,none⟩):=by rw[hE]; rfl
 have g5:E 5=.pointer (some ⟨s+0,0,none⟩):=by rw[hE]; rfl
 clear hE
 have hlow:∀ n∈(s+0)::rvs.flatMap idsV,x+2<=n/\n<s+1:=fun n hn=>nS▸sS.low n hn
 have u22:Tryd.prog.underlying 22=some (.slice 55):=by kernel_rfl
 have s55:szOf Tryd.prog 55=some 15:=by kernel_rfl
 have ag55':aggT Tryd.prog 55=some true:=by kernel_rfl
 have z55:zeroOf Tryd.prog 55=some (.agg #[.int .i64 0,.int .i64 0,.int .i64 0,.int .i64 0,.int .i64 0,.slice none 0 0,.int .i64 0,.int .i64 0,.string ⟨#[]⟩,.int .i64 0,.int .i64 0,.bool false,.bool false,.bool false,.bool false]):=by kernel_rfl
 have z52:zeroOf Tryd.prog 52=some (.agg #[.int .i64 0,.int .i64 0,.int .i64 0,.int .i64 0,.int .i64 0]):=by kernel_rfl
 have u53:Tryd.prog.underlying 53=some (.slice 58):=by kernel_rfl
 have s58:szOf Tryd.prog 58=some 5:=by kernel_rfl
 have hbl:(blankG h W).length=h:=zD6
 have hgl:∀ (l:List Pn) (g:List (List Ce)),(l.foldl paneG g).length=g.length:=fun l=>by
  induction l with
  |nil=>intro g; rfl
  |cons q l ih=>intro g; rw[zF7,ih,paneG,putG_len,putRows_len]
 subst hcode
 simp only[ruW,ruU,Nat.reduceLT]
 refine w_env fun E2 hE=>?_
 have g1':E2 1=.pointer (some ⟨x+0,0,none⟩):=by rw[hE]; simp only[g1,ruU,Nat.reduceEqDiff]
 have g2':E2 2=.pointer (some ⟨x+1,0,none⟩):=by rw[hE]; simp only[g2,ruU,Nat.reduceEqDiff]
 have g5':E2 5=.pointer (some ⟨s+0,0,none⟩):=by rw[hE]; simp only[g5,ruU,Nat.reduceEqDiff]
 have g6':E2 6=.int .i64 ((0:Nat):Int):=by rw[hE]; (simp only[ruU]<;>rfl)
 clear hE g1 g2 g5
 refine w_loop (fun (i:Nat) E' Y=>i<=f.panes.length/\SvR (x+2) N Y (s+0) v rvs W ((f.panes.take i).foldl paneG (blankG h W)) ((f.panes.take i).foldl curS (-1,0)).1 ((f.panes.take i).foldl curS (-1,0)).2/\Mod ((s+0)::rvs.flatMap idsV) S Y/\E' 1=.pointer (some ⟨x+0,0,none⟩)/\E' 2=.pointer (some ⟨x+1,0,none⟩)/\E' 5=.pointer (some ⟨s+0,0,none⟩)/\E' 6=.int .i64 (i:Int)) (fun i=>f.panes.length-i) 0 ⟨zA7 _,sS,Mod.refl,g1',g2',g5',g6'⟩ ?_
 clear g1' g2' g5' g6' E2
 rintro i E Y ⟨hi,hY,mY,g1,g2,g5,g6⟩
 obtain⟨z,hz⟩:=Go.Ax.exq Y.next
 have okY:=mY.ok okS
 have zb:Y.base<=z:=hz▸okY
 have sz:s+1<=z:=by have:=mY.next; omega
 have mHY:Mod [] H Y:=mHS.step mY hok fun n hn=>.inr (by have:=hlow n hn; omega)
 have k1Y:=(mY.bk (n:=x+0) (by omega) (fun hn=>by have:=hlow _ hn; omega)).trans k1S
 have k2Y:=(mY.bk (n:=x+1) (by omega) (fun hn=>by have:=hlow _ hn; omega)).trans k2S
 have z0:x+0<z:=by omega
 rw[show Y=ext Y [] from rfl]
 by_cases hil:i<f.panes.length
 ·have hd:decide ((i:Int)<(f.panes.length:Int))=true:=decide_eq_true (by omega)
  obtain⟨p,hp⟩:∃ p,f.panes[i]?=some p:=⟨_,zA5 hil⟩
  have hpm:=zB5 hp
  obtain⟨b1,b2,b3⟩:=bd.rows p hpm
  obtain⟨n,off,sp',cc,e,o,M,cs,e1,n1r,r1,hle,hM,rv,rfl,hR⟩:=hf.panes.one hp
  have e1':=ep.symm.trans e1
  simp only[Value.slice.injEq,true_and]at e1'
  obtain⟨rfl,rfl⟩:=e1'
  have r1Y:=(rk_get (mHY.get n n1r (by simp))).trans r1
  have n1Y:n<z:=by have:=mHY.next; omega
  have i1:=ia_of (P:=Tryd.prog) (k:=.i64) (i:=i) (n:=n) (off:=off) (len:=f.panes.length) (cap:=pc) (s:=sp') u22 s55 hil
  have l1:ldB Tryd.prog 55 (off+i*15) (some ⟨e,o,M⟩)=some (.agg ⟨pnL rv p⟩):=by
   rw[ld_agg ag55',s55,zA3,if_pos (by omega),hM]
  obtain⟨ra,rc,er⟩:=hR.it.sl
  have sr:=scb_mono mHY.next _ hR.sc
  rw[hz,er]at sr
  obtain⟨Z,hZ⟩:=Go.Ax.exq (ext Y [⟨55,false,pnL rv p⟩,⟨52,false,rcL p.rect⟩])
  have mZ:Mod [] Y Z:=hZ▸Mod.ext okY
  have nZ:Z.next=z+2:=by rw[<-hZ,ext_next,hz]; rfl
  have kZp:bk Z (z+0)=some ⟨55,false,pnL rv p⟩:=by rw[<-hZ,bk_at hz (by simp)]; rfl
  have kZr:bk Z (z+1)=some ⟨52,false,rcL p.rect⟩:=by rw[<-hZ,bk_at hz (by simp)]; rfl
  have okZ:=mZ.ok okY
  have pok:=pnOk_of (h:=h) (w:=W) (p:=p) (by rw[<-hh,<-hW]; exact pnsE_mem _ fo.panes p hpm)
  obtain⟨gi,hgi⟩:∃ q,(f.panes.take i).foldl paneG (blankG h W)=q:=⟨_,rfl⟩
  obtain⟨⟨rw,cl⟩,hcu⟩:∃ c,(f.panes.take i).foldl curS (-1,0)=c:=⟨_,rfl⟩
  have hgil:gi.length=h:=by rw[<-hgi,hgl,hbl]
  rw[hgi,hcu]at hY
  simp only at hY
  rw[er]at l1 hZ kZp
  unfold pnL at l1 hZ kZp
  unfold rcL at hZ kZr
  generalize hcodeA:Code.seq (Code.region 14 _ _) _=codeA
  simp only[g1,g6,hd,hz,zb,i1,n1Y,r1Y,l1,sr,z55,z52,k1Y,z0,qk_old,ruW,putL,Nat.reduceLeDiff,xF,ruU,Nat.reduceLT,Nat.reduceAdd,Nat.reduceEqDiff]
  rw[hZ]
  refine w_env fun E3 hE=>?_
  have g1':E3 1=.pointer (some ⟨x+0,0,none⟩):=by rw[hE]; simp only[g1,ruU,Nat.reduceEqDiff]
  have g2':E3 2=.pointer (some ⟨x+1,0,none⟩):=by rw[hE]; simp only[g2,ruU,Nat.reduceEqDiff]
  have g5':E3 5=.pointer (some ⟨s+0,0,none⟩):=by rw[hE]; simp only[g5,ruU,Nat.reduceEqDiff]
  have g6':E3 6=.int .i64 (i:Int):=by rw[hE]; simp only[g6,ruU,Nat.reduceEqDiff]
  have g7':E3 7=.pointer (some ⟨z+0,0,none⟩):=by rw[hE]; simp only[ruU,Nat.reduceEqDiff]
  have g8':E3 8=.pointer (some ⟨z+1,0,none⟩):=by rw[hE]; simp only[ruU,Nat.reduceEqDiff]
  have g9':E3 9=.int .i64 ((0:Nat):Int):=by rw[hE]; (simp only[ruU]<;>rfl)
  clear hE hd
  have ht0:=pok.top
  have hl0:=pok.left
  have hht:=pok.height
  have hwd:=pok.width
  have hth:=pok.th
  have hlw:=pok.lw
  have w3:IntKind.i64.wrap (p.rect.height-1)=p.rect.height-1:=wrap_sm (by omega) (by omega)
  refine blockC_meet (fun E' V=>SvR (x+2) N V (s+0) v rvs W (putRows gi p.rect.top.toNat p.rect.left.toNat ((p.rows.take (p.rect.height-1).toNat).map Rw.cells)) rw cl/\Mod ((s+0)::rvs.flatMap idsV) Z V/\E' 1=.pointer (some ⟨x+0,0,none⟩)/\E' 2=.pointer (some ⟨x+1,0,none⟩)/\E' 5=.pointer (some ⟨s+0,0,none⟩)/\E' 6=.int .i64 (i:Int)/\E' 7=.pointer (some ⟨z+0,0,none⟩)/\E' 8=.pointer (some ⟨z+1,0,none⟩)) ?_ ?_
  ·refine w_loop (fun (k:Nat) E' V=>k<=p.rows.length/\(k:Int)<=p.rect.height-1/\SvR (x+2) N V (s+0) v rvs W (putRows gi p.rect.top.toNat p.rect.left.toNat ((p.rows.take k).map Rw.cells)) rw cl/\Mod ((s+0)::rvs.flatMap idsV) Z V/\E' 1=.pointer (some ⟨x+0,0,none⟩)/\E' 2=.pointer (some ⟨x+1,0,none⟩)/\E' 5=.pointer (some ⟨s+0,0,none⟩)/\E' 6=.int .i64 (i:Int)/\E' 7=.pointer (some ⟨z+0,0,none⟩)/\E' 8=.pointer (some ⟨z+1,0,none⟩)/\E' 9=.int .i64 (k:Int)) (fun k=>p.rows.length-k) 0 ⟨zA7 _,by omega,hY.grow mZ,Mod.refl,g1',g2',g5',g6',g7',g8',g9'⟩ ?_
   clear g1' g2' g5' g6' g7' g8' g9' E3 g1 g2 g5 g6 E
   rintro k E V ⟨hk,hkh,hV,mV,g1,g2,g5,g6,g7,g8,g9⟩
   obtain⟨w,hw⟩:=Go.Ax.exq V.next
   have okV:=mV.ok okZ
   have vb:V.base<=w:=hw▸okV
   have zw:z+2<=w:=by have:=mV.next; omega
   have kVp:=(mV.bk (n:=z+0) (by omega) (fun hn=>by have:=hlow _ hn; omega)).trans kZp
   have kVr:=(mV.bk (n:=z+1) (by omega) (fun hn=>by have:=hlow _ hn; omega)).trans kZr
   have w0:z+0<w:=by omega
   have w1:z+1<w:=by omega
   have mHV:Mod [] H V:=(mHY.trans mZ).step mV hok fun n hn=>.inr (by have:=hlow n hn; omega)
   rw[show V=ext V [] from rfl]
   by_cases hkl:k<p.rows.length
   ·have hd:decide ((k:Int)<(p.rows.length:Int))=true:=decide_eq_true (by omega)
    by_cases hk2:(k:Int)<p.rect.height-1
    ·have hd2:decide ((k:Int)<p.rect.height-1)=true:=decide_eq_true hk2
     obtain⟨r,hrk⟩:∃ r,p.rows[k]?=some r:=⟨_,zA5 hkl⟩
     obtain⟨n2,off2,s2,cc2,e2,o2,M2,cs2,e12,n12,r12,hle2,hM2,cv,pv2,rfl,hRw⟩:=hR.it.one hrk
     have e13:=er.symm.trans e12
     simp only[Value.slice.injEq,true_and]at e13
     obtain⟨rfl,rfl⟩:=e13
     have r2V:=(rk_get (mHV.get n2 n12 (by simp))).trans r12
     have n2V:n2<w:=by have:=mHV.next; omega
     have i2:=ia_of (P:=Tryd.prog) (k:=.i64) (i:=k) (n:=n2) (off:=off2) (len:=p.rows.length) (cap:=rc) (s:=s2) u53 s58 hkl
     have hcell:M2[off2+k*5]?=some cv:=by
      have:=congrArg (fun l=>l[0]?) hM2
      simp only[zF4,List.getElem?_drop,zD5]at this
      rw[if_pos (by decide)]at this
      exact this
     have l2:=grid_load (k:=k*5) (off:=off2) (e:=e2) (o:=o2) hcell
     obtain⟨ca,cb,ecv⟩:=hRw.cells.sl
     have hrowV:RowAt V cv r.cells:=RdAt.row (hRw.cells.mod0 mHV)
     have hidc:∀ n∈idsV cv,n∉rvs.flatMap idsV:=fun n hn h1=>by
      have:=ids_of_scb _ hRw.sc n hn
      have:=hlow n (zB3 _ h1)
      omega
     rw[ecv]at l2 hrowV hidc
     have hrlen:(r.cells.length:Int)=p.rect.width:=pok.rows r (by
      refine zB5 (i:=k) ?_
      rw[zF4,if_pos (by omega)]
      exact hrk)
     have wt:IntKind.i64.wrap (p.rect.top+(k:Int))=p.rect.top+(k:Int):=wrap_sm (by omega) (by omega)
     have hwk:IntKind.i64.wrap ((k:Int)+1)=((k+1:Nat):Int):=wrap_succ (by omega)
     have kVs:=hV.at_
     have hput:=rput_c rw cl hV.sc okV hV.nx (p.rect.top.toNat+k) p.rect.left.toNat (p.rect.top+(k:Int)) p.rect.left (by omega) (by omega) r.cells hrowV hidc (by rw[putRows_len]; omega) (by omega) hW2
     rw[ev]at kVs hput
     have s0:s+0<w:=by omega
     simp only[g7,g8,g9,hd,hd2,hw,kVp,kVr,w0,w1,w3,qk_old,ruW,xF,ruU,Nat.reduceLT,Nat.reduceAdd,Nat.reduceEqDiff]
     refine w_drawP [] [] (by kernel_rfl) (by kernel_rfl) (by kernel_rfl) rfl (fun ops anc hA hG=>?_) (by simp) ⟨rfl,rfl⟩
     simp only[dropLast_more,dropLast_one,g5,g7,g8,g9,hw,kVp,kVr,kVs,s0,w0,w1,wt,i2,n2V,r2V,l2,qk_old,ruD,ruW,Nat.reduceLeDiff,xF,ruU,Nat.reduceLT,Nat.reduceAdd,Nat.reduceEqDiff]
     simp only[lastO_cons,lastO_one,isDef_call,true_and,ruW,xF,ruU,Nat.reduceLT,Nat.reduceEqDiff]
     refine CallA.mono (show CallA Tryd.prog 33 _ (ext V []) _ from hput) ?_
     rintro out U ⟨rfl,hU,mU⟩
     rw[<-ev]at hU
     have htj:((p.rows.take (k+1)).map Rw.cells)=((p.rows.take k).map Rw.cells)++[r.cells]:=by
      rw[List.take_succ,hrk,List.map_append]
      rfl
     have hlj:((p.rows.take k).map Rw.cells).length=k:=by rw[zF6,zE3]; omega
     simp only[g9,hwk,ruW,ruU,Nat.reduceLT,Nat.reduceEqDiff]
     refine loopC_next ⟨k+1,by omega,hkl,by omega,?_,mV.trans (mU.mono fun n hn=>zB3 _ hn),?_,?_,?_,?_,?_,?_,?_⟩
     ·rw[htj,putRows_snoc,hlj]
      exact hV.put mU hU
     ·exact g1
     ·exact g2
     ·exact g5
     ·exact g6
     ·exact g7
     ·exact g8
     ·rfl
    ·have hd2:decide ((k:Int)<p.rect.height-1)=false:=decide_eq_false hk2
     rw[show k=(p.rect.height-1).toNat by omega]at hV
     simp only[g7,g8,g9,hd,hd2,hw,kVp,kVr,w0,w1,w3,qk_old,ruW,xF,ruU,Nat.reduceLT,Nat.reduceAdd,Nat.reduceEqDiff]
     exact joinR_normal ⟨hV,mV,by simp only[g1,ruU,Nat.reduceEqDiff],by simp only[g2,ruU,Nat.reduceEqDiff],by simp only[g5,ruU,Nat.reduceEqDiff],by simp only[g6,ruU,Nat.reduceEqDiff],by simp only[g7,ruU,Nat.reduceEqDiff],by simp only[g8,ruU,Nat.reduceEqDiff]⟩
   ·have hd:decide ((k:Int)<(p.rows.length:Int))=false:=decide_eq_false (by omega)
    have htk:p.rows.take k=p.rows.take (p.rect.height-1).toNat:=by
     rw[List.take_eq_take_iff]
     omega
    rw[htk]at hV
    simp only[g7,g9,hd,hw,kVp,w0,qk_old,ruW,xF,ruU,Nat.reduceLT,Nat.reduceAdd,Nat.reduceEqDiff]
    exact joinR_normal ⟨hV,mV,by simp only[g1,ruU,Nat.reduceEqDiff],by simp only[g2,ruU,Nat.reduceEqDiff],by simp only[g5,ruU,Nat.reduceEqDiff],by simp only[g6,ruU,Nat.reduceEqDiff],by simp only[g7,ruU,Nat.reduceEqDiff],by simp only[g8,ruU,Nat.reduceEqDiff]⟩
  clear g1' g2' g5' g6' g7' g8' g9' E3 g1 g2 g5 g6 E
  rintro E V ⟨hV,mV,g1,g2,g5,g6,g7,g8⟩
  subst hcodeA
  obtain⟨w,hw⟩:=Go.Ax.exq V.next
  have okV:=mV.ok okZ
  have zw:z+2<=w:=by have:=mV.next; omega
  have kVp:=(mV.bk (n:=z+0) (by omega) (fun hn=>by have:=hlow _ hn; omega)).trans kZp
  have kVr:=(mV.bk (n:=z+1) (by omega) (fun hn=>by have:=hlow _ hn; omega)).trans kZr
  have w0:z+0<w:=by omega
  have w1:z+1<w:=by omega
  have mHV:Mod [] H V:=(mHY.trans mZ).step mV hok fun n hn=>.inr (by have:=hlow n hn; omega)
  have hfit:=refFit_c V (t.mod0 mHV).tab (by have:=(t.mod0 mHV).lt; omega) p.mode p.rect.width p.look (by rw[<-size_len]; exact b2) okV
  unfold Pn.look Lk.val at hfit
  rw[show V=ext V [] from rfl]
  simp only[g7,g8,hw,kVp,kVr,w0,w1,qk_old,ruW,Nat.reduceLeDiff,xF,ruU,Nat.reduceLT,Nat.reduceAdd,Nat.reduceEqDiff]
  refine CallA.mono (show CallA Tryd.prog 14 _ (ext V []) _ from hfit) ?_
  rintro out U ⟨mU,ho⟩
  obtain⟨u,ec,ho',hru,hiu⟩:=fitOut_row ho (w:=p.rect.width.toNat) (by omega) pok.look (by omega)
  rw[ho']
  obtain⟨un,hun⟩:∃ w,U.next=w:=⟨_,rfl⟩
  have okU:=mU.ok okV
  have wu:w<=un:=by have:=mU.next; omega
  have hVU:=hV.grow mU
  have kUs:=hVU.at_
  have kUp:=(mU.bk (by omega) (by simp)).trans kVp
  have kUr:=(mU.bk (by omega) (by simp)).trans kVr
  have u0:z+0<un:=by omega
  have u1:z+1<un:=by omega
  have us:s+0<un:=by omega
  have wa:IntKind.i64.wrap (p.rect.top+p.rect.height)=p.rect.top+p.rect.height:=wrap_sm (by omega) (by omega)
  have wb:IntKind.i64.wrap (p.rect.top+p.rect.height-1)=p.rect.top+p.rect.height-1:=wrap_sm (by omega) (by omega)
  have hput:=rput_c rw cl hVU.sc okU hVU.nx (p.rect.top+p.rect.height-1).toNat p.rect.left.toNat (p.rect.top+p.rect.height-1) p.rect.left (by omega) (by omega) (strG p.rect.width.toNat ⟨p.fore,p.back,p.bold,p.under,p.inv⟩ p.mode) hru (fun n hn h1=>by have:=hiu n hn; have:=hlow n (zB3 _ h1); omega) (by rw[putRows_len]; omega) (by have:=strG_len p.rect.width.toNat ⟨p.fore,p.back,p.bold,p.under,p.inv⟩ p.mode; omega) hW2
  obtain⟨ua,uc,eu⟩:=hru.sl
  rw[ev]at kUs hput
  rw[eu]at hput
  rw[eu,show U=ext U [] from rfl]
  simp only[g5,g8,hun,kUs,kUr,u1,us,wa,wb,qk_old,ruW,Nat.reduceLeDiff,xF,ruU,Nat.reduceLT,Nat.reduceAdd,Nat.reduceEqDiff]
  refine CallA.mono (show CallA Tryd.prog 33 _ (ext U []) _ from hput) ?_
  rintro out T ⟨rfl,hT',mT⟩
  have hpg:putG (putRows gi p.rect.top.toNat p.rect.left.toNat ((p.rows.take (p.rect.height-1).toNat).map Rw.cells)) (p.rect.top+p.rect.height-1).toNat p.rect.left.toNat (strG p.rect.width.toNat ⟨p.fore,p.back,p.bold,p.under,p.inv⟩ p.mode)=paneG gi p:=rfl
  rw[hpg,<-ev]at hT'
  have hT:=hVU.put mT hT'
  obtain⟨tn,htn⟩:∃ w,T.next=w:=⟨_,rfl⟩
  have okT:=mT.ok okU
  have ut:un<=tn:=by have:=mT.next; omega
  have kTp:=(mT.bk (n:=z+0) (by omega) (fun hn=>by have:=hlow _ (zB3 _ hn); omega)).trans kUp
  have kTr:=(mT.bk (n:=z+1) (by omega) (fun hn=>by have:=hlow _ (zB3 _ hn); omega)).trans kUr
  have t0:z+0<tn:=by omega
  have t1:z+1<tn:=by omega
  have ts:s+0<tn:=by omega
  have kTs:=hT.at_
  rw[ev]at kTs
  have mST:Mod ((s+0)::rvs.flatMap idsV) S T:=(((mY.trans (mZ.mono (by simp))).trans mV).trans (mU.mono (by simp))).trans (mT.mono fun n hn=>zB3 _ hn)
  have htk:f.panes.take (i+1)=f.panes.take i++[p]:=by rw[List.take_succ,hp]; rfl
  have hwi:IntKind.i64.wrap ((i:Int)+1)=((i+1:Nat):Int):=wrap_succ (by have:=bd.panes; omega)
  have hnext:(f.panes.take (i+1)).foldl paneG (blankG h W)=paneG gi p/\(f.panes.take (i+1)).foldl curS (-1,0)=curS (rw,cl) p:=by
   rw[htk,List.foldl_append,List.foldl_append,hgi,hcu]
   exact⟨rfl,rfl⟩
  obtain⟨d0,h0⟩:∃ d,p.sel=d:=⟨_,rfl⟩
  obtain⟨d1,h1'⟩:∃ d,decide (¬p.row=-1)=d:=⟨_,rfl⟩
  obtain⟨d2,h2'⟩:∃ d,decide (rw=-1)=d:=⟨_,rfl⟩
  rw[h0]at kTp
  rw[show T=ext T [] from rfl]
  have no:¬(d0=true/\d1=true/\d2=true)->curS (rw,cl) p=(rw,cl):=fun hn=>by
   unfold curS
   rw[if_neg]
   rintro⟨e0,e1,e2⟩
   exact hn ⟨h0▸e0,h1'▸decide_eq_true e1,h2'▸decide_eq_true e2⟩
  cases d0 with
  |false =>
   simp only[g6,g7,htn,kTp,t0,hwi,qk_old,ruW,xF,ruU,Nat.reduceLT,Nat.reduceAdd,Nat.reduceEqDiff]
   refine loopC_next ⟨i+1,by omega,hil,?_,mST,by simp only[g1,ruU,Nat.reduceEqDiff],by simp only[g2,ruU,Nat.reduceEqDiff],by simp only[g5,ruU,Nat.reduceEqDiff],by simp only[ruU]⟩
   rw[hnext.1,hnext.2,no (by simp)]
   exact hT
  |true =>
  cases d1 with
  |false =>
   simp only[g6,g7,htn,kTp,t0,h1',hwi,qk_old,ruW,xF,ruU,Nat.reduceLT,Nat.reduceAdd,Nat.reduceEqDiff]
   refine loopC_next ⟨i+1,by omega,hil,?_,mST,by simp only[g1,ruU,Nat.reduceEqDiff],by simp only[g2,ruU,Nat.reduceEqDiff],by simp only[g5,ruU,Nat.reduceEqDiff],by simp only[ruU]⟩
   rw[hnext.1,hnext.2,no (by simp)]
   exact hT
  |true =>
  cases d2 with
  |false =>
   simp only[g5,g6,g7,htn,kTp,kTs,t0,ts,h1',h2',hwi,qk_old,ruW,xF,ruU,Nat.reduceLT,Nat.reduceAdd,Nat.reduceEqDiff]
   refine loopC_next ⟨i+1,by omega,hil,?_,mST,by simp only[g1,ruU,Nat.reduceEqDiff],by simp only[g2,ruU,Nat.reduceEqDiff],by simp only[g5,ruU,Nat.reduceEqDiff],by simp only[ruU]⟩
   rw[hnext.1,hnext.2,no (by simp)]
   exact hT
  |true =>
   have hcuS:curS (rw,cl) p=(p.rect.top+p.row,p.rect.left+p.col):=by
    unfold curS
    rw[if_pos ⟨h0,of_decide_eq_true h1',of_decide_eq_true h2'⟩]
   have hcol:=pok.col (of_decide_eq_true h1')
   have hr1:=pok.row
   have hr2:=pok.rowh
   have wc:IntKind.i64.wrap (p.rect.top+p.row)=p.rect.top+p.row:=wrap_sm (by omega) (by omega)
   have wd:IntKind.i64.wrap (p.rect.left+p.col)=p.rect.left+p.col:=wrap_sm (by omega) (by omega)
   have ne0:¬z+0=s+0:=by omega
   have ne1:¬z+1=s+0:=by omega
   simp only[g5,g6,g7,g8,htn,kTp,kTr,kTs,t0,t1,ts,h1',h2',hwi,wc,wd,ne0,ne1,qk_old,ruW,putL,Nat.reduceLeDiff,xF,ruU,Nat.reduceLT,Nat.reduceAdd,Nat.reduceEqDiff]
   obtain⟨hc1,hm1⟩:=hT.row (p.rect.top+p.row)
   obtain⟨hc2,hm2⟩:=hc1.col (p.rect.left+p.col)
   have mss:∀ n∈[s+0],n∈(s+0)::rvs.flatMap idsV:=fun n hn=>by simp only[zA9]at hn; rw[hn]; exact zB9 ..
   refine loopC_next ⟨i+1,by omega,hil,?_,(mST.trans (hm1.mono mss)).trans (hm2.mono mss),by simp only[g1,ruU,Nat.reduceEqDiff],by simp only[g2,ruU,Nat.reduceEqDiff],by simp only[g5,ruU,Nat.reduceEqDiff],by simp only[ruU]⟩
   rw[hnext.1,hnext.2,hcuS]
   exact hc2
 ·obtain rfl:i=f.panes.length:=by omega
  have hd:decide ((f.panes.length:Int)<(f.panes.length:Int))=false:=decide_eq_false (by omega)
  rw[zF0]at hY
  obtain⟨g,hg⟩:=Go.Ax.exq (f.panes.foldl paneG (blankG h W))
  obtain⟨⟨rw,cl⟩,hcu⟩:∃ c,f.panes.foldl curS (-1,0)=c:=⟨_,rfl⟩
  rw[hg,hcu]at hY
  simp only at hY
  have hgj:g.length=h:=by rw[<-hg,hgl]; exact hbl
  have hbl2:∀ (l:List Rc) (g:List (List Ce)),(l.foldl barG g).length=g.length:=fun l=>by
   induction l with
   |nil=>intro g; rfl
   |cons q l ih=>intro g; rw[zF7,ih,barG,putRows_len]
  generalize hcodeB:Code.region 29 _ _=codeB
  generalize hcodeC:Code.seq (Code.region 30 _ _) _=codeC
  simp only[g1,g6,hd,hz,z0,k1Y,qk_old,ruW,xF,ruU,Nat.reduceLT,Nat.reduceAdd,Nat.reduceEqDiff]
  refine w_env fun E2 hE=>?_
  have g1':E2 1=.pointer (some ⟨x+0,0,none⟩):=by rw[hE]; simp only[g1,ruU,Nat.reduceEqDiff]
  have g2':E2 2=.pointer (some ⟨x+1,0,none⟩):=by rw[hE]; simp only[g2,ruU,Nat.reduceEqDiff]
  have g5':E2 5=.pointer (some ⟨s+0,0,none⟩):=by rw[hE]; simp only[g5,ruU,Nat.reduceEqDiff]
  have g12':E2 12=.int .i64 ((0:Nat):Int):=by rw[hE]; (simp only[ruU]<;>rfl)
  clear hE hd g1 g2 g5 g6 E
  have u23':Tryd.prog.underlying 23=some (.slice 52):=by kernel_rfl
  have s52:szOf Tryd.prog 52=some 5:=by kernel_rfl
  have bl68b:aBuild Tryd.prog 68 [(0,.int .i64 124)]=some (.agg #[.int .i64 124,.int .i64 0,.int .i64 0,.bool false,.bool false,.bool false]):=by kernel_rfl
  refine w_loop (fun (j:Nat) E' X=>j<=f.bars.length/\SvR (x+2) N X (s+0) v rvs W ((f.bars.take j).foldl barG g) rw cl/\Mod ((s+0)::rvs.flatMap idsV) S X/\E' 1=.pointer (some ⟨x+0,0,none⟩)/\E' 2=.pointer (some ⟨x+1,0,none⟩)/\E' 5=.pointer (some ⟨s+0,0,none⟩)/\E' 12=.int .i64 (j:Int)) (fun j=>f.bars.length-j) 0 ⟨zA7 _,hY,mY,g1',g2',g5',g12'⟩ ?_
  clear g1' g2' g5' g12' E2 hY mY okY zb sz mHY k1Y k2Y z0 hz
  clear z Y
  rintro j E Y ⟨hj,hY,mY,g1,g2,g5,g12⟩
  obtain⟨z,hz⟩:=Go.Ax.exq Y.next
  have okY:=mY.ok okS
  have sz:s+1<=z:=by have:=mY.next; omega
  have mHY:Mod [] H Y:=mHS.step mY hok fun n hn=>.inr (by have:=hlow n hn; omega)
  have k1Y:=(mY.bk (n:=x+0) (by omega) (fun hn=>by have:=hlow _ hn; omega)).trans k1S
  have z0:x+0<z:=by omega
  rw[show Y=ext Y [] from rfl]
  by_cases hjl:j<f.bars.length
  ·have hd:decide ((j:Int)<(f.bars.length:Int))=true:=decide_eq_true (by omega)
   obtain⟨r,hr⟩:∃ r,f.bars[j]?=some r:=⟨_,zA5 hjl⟩
   obtain⟨n,off,sp',cc,e,o,M,cs,e1,n1r,r1,hle,hM,hR⟩:=hf.bars.one hr
   have e1':=eb.symm.trans e1
   simp only[Value.slice.injEq,true_and]at e1'
   obtain⟨rfl,rfl⟩:=e1'
   have i1:=ia_of (P:=Tryd.prog) (k:=.i64) (i:=j) (n:=n) (off:=off) (len:=f.bars.length) (cap:=bc) (s:=sp') u23' s52 hjl
   have ag3:aggT Tryd.prog 3=some false:=by kernel_rfl
   have hMk:∀ k,k<5->M[off+(j*5+k)]?=(rcL r)[k]?:=fun k hk=>by
    rw[hR]at hM
    have:=congrArg (fun l=>l[k]?) hM
    simp only[zF4,List.getElem?_drop]at this
    rw[if_pos hk]at this
    rw[show off+(j*5+k)=off+j*5+k by omega]
    exact this
   have lT:ldB Tryd.prog 3 (off+(j*5+1)) (some ⟨e,o,M⟩)=some (.int .i64 r.top):=by rw[ld_one ag3]; exact hMk 1 (by omega)
   have lL:ldB Tryd.prog 3 (off+(j*5+2)) (some ⟨e,o,M⟩)=some (.int .i64 r.left):=by rw[ld_one ag3]; exact hMk 2 (by omega)
   have lH:ldB Tryd.prog 3 (off+(j*5+3)) (some ⟨e,o,M⟩)=some (.int .i64 r.height):=by rw[ld_one ag3]; exact hMk 3 (by omega)
   have lW:ldB Tryd.prog 3 (off+(j*5+4)) (some ⟨e,o,M⟩)=some (.int .i64 r.width):=by rw[ld_one ag3]; exact hMk 4 (by omega)
   have hin:=fo.bars r (zB5 hr)
   unfold insR at hin
   simp only[zA4,decide_eq_true_eq]at hin
   obtain⟨rh,hrh⟩:∃ n:Nat,r.height=(n:Int):=⟨r.height.toNat,by omega⟩
   obtain⟨rw',hrw⟩:∃ n:Nat,r.width=(n:Int):=⟨r.width.toNat,by omega⟩
   obtain⟨gi,hgi⟩:∃ q,(f.bars.take j).foldl barG g=q:=⟨_,rfl⟩
   have hgil:gi.length=h:=by rw[<-hgi,hbl2,hgj]
   rw[hgi]at hY
   simp only[g1,g12,hd,hz,z0,k1Y,qk_old,ruW,xF,ruU,Nat.reduceLT,Nat.reduceAdd,Nat.reduceEqDiff]
   refine w_env fun E2 hE=>?_
   have g1':E2 1=.pointer (some ⟨x+0,0,none⟩):=by rw[hE]; simp only[g1,ruU,Nat.reduceEqDiff]
   have g2':E2 2=.pointer (some ⟨x+1,0,none⟩):=by rw[hE]; simp only[g2,ruU,Nat.reduceEqDiff]
   have g5':E2 5=.pointer (some ⟨s+0,0,none⟩):=by rw[hE]; simp only[g5,ruU,Nat.reduceEqDiff]
   have g12':E2 12=.int .i64 (j:Int):=by rw[hE]; simp only[g12,ruU,Nat.reduceEqDiff]
   have g13':E2 13=.int .i64 ((0:Nat):Int):=by rw[hE]; (simp only[ruU]<;>rfl)
   clear hE hd g1 g2 g5 g12 E
   refine w_loop (fun (k:Nat) E' V=>k<=rh/\SvR (x+2) N V (s+0) v rvs W (putRows gi r.top.toNat r.left.toNat (List.replicate k (List.replicate rw' barC))) rw cl/\Mod ((s+0)::rvs.flatMap idsV) Y V/\E' 1=.pointer (some ⟨x+0,0,none⟩)/\E' 2=.pointer (some ⟨x+1,0,none⟩)/\E' 5=.pointer (some ⟨s+0,0,none⟩)/\E' 12=.int .i64 (j:Int)/\E' 13=.int .i64 (k:Int)) (fun k=>rh-k) 0 ⟨zA7 _,hY,Mod.refl,g1',g2',g5',g12',g13'⟩ ?_
   clear g1' g2' g5' g12' g13' E2
   rintro k E V ⟨hk,hV,mV,g1,g2,g5,g12,g13⟩
   obtain⟨w,hw⟩:=Go.Ax.exq V.next
   have okV:=mV.ok okY
   have zw:z<=w:=by have:=mV.next; omega
   have mHV:Mod [] H V:=mHY.step mV hok fun n hn=>.inr (by have:=hlow n hn; omega)
   have k1V:=(mV.bk (n:=x+0) (by omega) (fun hn=>by have:=hlow _ hn; omega)).trans k1Y
   have w0:x+0<w:=by omega
   have r1V:=(rk_get (mHV.get n n1r (by simp))).trans r1
   have n1V:n<w:=by have:=mHV.next; omega
   rw[show V=ext V [] from rfl]
   by_cases hkl:k<rh
   ·have hd:decide ((k:Int)<r.height)=true:=decide_eq_true (by omega)
    simp only[g1,g12,g13,hd,hw,w0,k1V,i1,r1V,n1V,lH,qk_old,ruW,xF,ruU,Nat.reduceLT,Nat.reduceAdd,Nat.reduceEqDiff]
    obtain⟨gk,hgk⟩:∃ q,putRows gi r.top.toNat r.left.toNat (List.replicate k (List.replicate rw' barC))=q:=⟨_,rfl⟩
    have hgkl:gk.length=h:=by rw[<-hgk,putRows_len]; exact hgil
    rw[hgk]at hV
    obtain⟨qk,hqk⟩:∃ q,gk[r.top.toNat+k]?=some q:=⟨_,zA5 (by omega)⟩
    have hqkl:=hV.sc.wd qk (zB5 hqk)
    refine w_env fun E2 hE=>?_
    have g1':E2 1=.pointer (some ⟨x+0,0,none⟩):=by rw[hE]; simp only[g1,ruU,Nat.reduceEqDiff]
    have g2':E2 2=.pointer (some ⟨x+1,0,none⟩):=by rw[hE]; simp only[g2,ruU,Nat.reduceEqDiff]
    have g5':E2 5=.pointer (some ⟨s+0,0,none⟩):=by rw[hE]; simp only[g5,ruU,Nat.reduceEqDiff]
    have g12':E2 12=.int .i64 (j:Int):=by rw[hE]; simp only[g12,ruU,Nat.reduceEqDiff]
    have g13':E2 13=.int .i64 (k:Int):=by rw[hE]; simp only[g13,ruU,Nat.reduceEqDiff]
    have g14':E2 14=.int .i64 ((0:Nat):Int):=by rw[hE]; (simp only[ruU]<;>rfl)
    clear hE hd g1 g2 g5 g12 g13 E
    refine w_loop (fun (t':Nat) E' U=>t'<=rw'/\SvR (x+2) N U (s+0) v rvs W (putG gk (r.top.toNat+k) r.left.toNat (List.replicate t' barC)) rw cl/\Mod ((s+0)::rvs.flatMap idsV) V U/\E' 1=.pointer (some ⟨x+0,0,none⟩)/\E' 2=.pointer (some ⟨x+1,0,none⟩)/\E' 5=.pointer (some ⟨s+0,0,none⟩)/\E' 12=.int .i64 (j:Int)/\E' 13=.int .i64 (k:Int)/\E' 14=.int .i64 (t':Int)) (fun t'=>rw'-t') 0 ⟨zA7 _,by rw[List.replicate_zero,putG_nil hqk]; exact hV,Mod.refl,g1',g2',g5',g12',g13',g14'⟩ ?_
    clear g1' g2' g5' g12' g13' g14' E2
    rintro t' E U ⟨ht',hU,mU,g1,g2,g5,g12,g13,g14⟩
    obtain⟨un,hun⟩:∃ w,U.next=w:=⟨_,rfl⟩
    have okU:=mU.ok okV
    have wu:w<=un:=by have:=mU.next; omega
    have mHU:Mod [] H U:=mHV.step mU hok fun n hn=>.inr (by have:=hlow n hn; omega)
    have k1U:=(mU.bk (n:=x+0) (by omega) (fun hn=>by have:=hlow _ hn; omega)).trans k1V
    have u0:x+0<un:=by omega
    have us:s+0<un:=by omega
    have r1U:=(rk_get (mHU.get n n1r (by simp))).trans r1
    have n1U:n<un:=by have:=mHU.next; omega
    rw[show U=ext U [] from rfl]
    by_cases htl:t'<rw'
    ·have hd:decide ((t':Int)<r.width)=true:=decide_eq_true (by omega)
     have wa:IntKind.i64.wrap (r.top+(k:Int))=r.top+(k:Int):=wrap_sm (by omega) (by omega)
     have wb:IntKind.i64.wrap (r.left+(t':Int))=r.left+(t':Int):=wrap_sm (by omega) (by omega)
     have kUs:=hU.at_
     rw[ev]at kUs
     obtain⟨U2,hU2⟩:=Go.Ax.exq (ext U [⟨68,false,[.int .i64 124,.int .i64 0,.int .i64 0,.bool false,.bool false,.bool false]⟩])
     have mU2:Mod [] U U2:=hU2▸Mod.ext okU
     have nU2:U2.next=un+1:=by rw[<-hU2,ext_next,hun]; rfl
     have okU2:=mU2.ok okU
     have b1:bk U2 (un+0)=some ⟨68,false,csOf [barC]⟩:=by rw[<-hU2,bk_at hun (by simp)]; rfl
     have hrow:RowAt U2 (.slice (some ⟨un+0,0,some 0⟩) 1 1) [barC]:=.inr ⟨by simp,un+0,0,some 0,1,68,false,csOf [barC],rfl,rk_of b1,by omega,by simp[csOf,Ce.cells],rfl⟩
     have hUU:=hU.grow mU2
     have hput:=rput_c rw cl hUU.sc okU2 hUU.nx (r.top.toNat+k) (r.left.toNat+t') (r.top+(k:Int)) (r.left+(t':Int)) (by omega) (by omega) [barC] hrow (fun n hn h1=>by simp only[idsV,zA9]at hn; have:=hlow n (zB3 _ h1); omega) (by rw[putG_len]; omega) (by simp only[List.length_singleton]; omega) hW2
     rw[ev]at hput
     have hwt:IntKind.i64.wrap ((t':Int)+1)=((t'+1:Nat):Int):=wrap_succ (by omega)
     simp only[g1,g12,g14,hd,hun,u0,k1U,i1,r1U,n1U,lW,qk_old,ruW,xF,ruU,Nat.reduceLT,Nat.reduceAdd,Nat.reduceEqDiff]
     refine w_drawP [] [] (by kernel_rfl) (by kernel_rfl) (by kernel_rfl) rfl (fun ops anc hA hG=>?_) (by simp) ⟨rfl,rfl⟩
     simp only[dropLast_more,dropLast_one,g1,g5,g12,g13,g14,hun,u0,us,k1U,kUs,i1,r1U,n1U,lT,lL,wa,wb,bl68b,qk_old,ruD,ruW,Nat.reduceLeDiff,xF,ruU,Nat.reduceLT,Nat.reduceAdd,Nat.reduceEqDiff]
     simp only[lastO_cons,lastO_one,isDef_call,true_and,ruW,xF,ruU,Nat.reduceLT,Nat.reduceEqDiff]
     rw[hU2]
     refine CallA.mono (show CallA Tryd.prog 33 _ U2 _ from hput) ?_
     rintro out T ⟨rfl,hT',mT⟩
     rw[<-ev]at hT'
     simp only[g14,hwt,ruW,ruU,Nat.reduceLT,Nat.reduceEqDiff]
     refine loopC_next ⟨t'+1,by omega,htl,?_,(mU.trans (mU2.mono (by simp))).trans (mT.mono fun n hn=>zB3 _ hn),by simp only[g1,ruU,Nat.reduceEqDiff],by simp only[g2,ruU,Nat.reduceEqDiff],by simp only[g5,ruU,Nat.reduceEqDiff],by simp only[g12,ruU,Nat.reduceEqDiff],by simp only[g13,ruU,Nat.reduceEqDiff],by simp only[ruU]⟩
     have:=hUU.put mT hT'
     rw[putG_next hqk (by omega)]at this
     exact this
    ·obtain rfl:t'=rw':=by omega
     have hd:decide ((t':Int)<r.width)=false:=decide_eq_false (by omega)
     have hwk:IntKind.i64.wrap ((k:Int)+1)=((k+1:Nat):Int):=wrap_succ (by omega)
     simp only[g1,g12,g13,g14,hd,hun,u0,k1U,i1,r1U,n1U,lW,hwk,qk_old,ruW,xF,ruU,Nat.reduceLT,Nat.reduceAdd,Nat.reduceEqDiff]
     refine loopC_next ⟨k+1,by omega,hkl,?_,mV.trans mU,by simp only[g1,ruU,Nat.reduceEqDiff],by simp only[g2,ruU,Nat.reduceEqDiff],by simp only[g5,ruU,Nat.reduceEqDiff],by simp only[g12,ruU,Nat.reduceEqDiff],by simp only[ruU]⟩
     rw[List.replicate_succ',putRows_snoc,zD6,hgk]
     exact hU
   ·have hd:decide ((k:Int)<r.height)=false:=decide_eq_false (by omega)
    have htk:f.bars.take (j+1)=f.bars.take j++[r]:=by rw[List.take_succ,hr]; rfl
    have hwj:IntKind.i64.wrap ((j:Int)+1)=((j+1:Nat):Int):=wrap_succ (by have:=bd.bars; omega)
    simp only[g1,g12,g13,hd,hw,w0,k1V,i1,r1V,n1V,lH,hwj,qk_old,ruW,xF,ruU,Nat.reduceLT,Nat.reduceAdd,Nat.reduceEqDiff]
    refine loopC_next ⟨j+1,by omega,hjl,?_,mY.trans mV,by simp only[g1,ruU,Nat.reduceEqDiff],by simp only[g2,ruU,Nat.reduceEqDiff],by simp only[g5,ruU,Nat.reduceEqDiff],by simp only[ruU]⟩
    rw[htk,List.foldl_append,hgi]
    have:barG gi r=putRows gi r.top.toNat r.left.toNat (List.replicate k (List.replicate rw' barC)):=by
     rw[show k=r.height.toNat by omega,show rw'=r.width.toNat by omega]
     rfl
    rw[zF7,List.foldl_nil,this]
    exact hV
  ·obtain rfl:j=f.bars.length:=by omega
   have hd:decide ((f.bars.length:Int)<(f.bars.length:Int))=false:=decide_eq_false (by omega)
   rw[zF0]at hY
   obtain⟨gb',hgb⟩:∃ q,f.bars.foldl barG g=q:=⟨_,rfl⟩
   have hgbl:gb'.length=h:=by rw[<-hgb,hbl2,hgj]
   rw[hgb]at hY
   have bl38:aBuild Tryd.prog 38 []=some (Lk.val ⟨0,0,false,false,false⟩):=by kernel_rfl
   have hck:colr ⟨0,0,false,false,false⟩=true:=by decide
   have hes:(echoB f.echo).size<=300:=by
    have h1:=bd.echo
    have h2:=size_len f.echo
    unfold echoB echoR
    rw[size_len]
    have:=(List.takeWhile_sublist (fun c=>decide (c≠(10:UInt8))) (l:=f.echo.data.toList)).length_le
    simp only
    omega
   have hec:=fun K=>echo_c K f.echo (by have:=bd.echo; omega)
   have tY:=t.mod0 mHY
   have hrn:=restrict_next Y [0,1]
   have tR:Tab (Y.restrict [0,1]):=tY.tab.of (by rw[restrict_get,if_pos (by simp)]) (by rw[restrict_get,if_pos (by simp)])
   obtain⟨_,gg,hcc,mg,ho⟩:=refFit_c (Y.restrict [0,1]) tR (by rw[hrn.1]; have:=tY.lt; omega) (echoB f.echo) f.width ⟨0,0,false,false,false⟩ (by rw[<-size_len]; exact hes) (by rw[hrn.1,hrn.2.1]; exact zA6 _)
   obtain⟨u,ec,rfl,hru,hiu⟩:=fitOut_row ho (w:=W) (by omega) hck hW2
   rw[hrn.1,hz]at hiu
   obtain⟨tb0,tb1,htb0,htb1⟩:=tY.tab
   subst hcodeB
   simp only[g1,g12,hd,hz,z0,k1Y,qk_old,ruW,xF,ruU,Nat.reduceLT,Nat.reduceAdd,Nat.reduceEqDiff]
   refine w_drawB [(6,1),(6,2),(6,4),(7,6),(8,6),(9,6),(10,6),(11,6)] [] (by kernel_rfl) (by kernel_rfl) rfl fun ops anc hA hG=>?_
   simp only[all2_cons]at hA
   simp only[g1,hz,z0,k1Y,qk_old,ruD,ruW,xF,ruU,Nat.reduceLT,Nat.reduceAdd,Nat.reduceEqDiff]
   refine genV_quiet (v:=.string (echoB f.echo)) [] (by simp only[ruU,Nat.reduceLT]) (by kernel_rfl) (by decide) (fun m hm=>by simp at hm) (fun K _ _=>?_) (by simp (maxDischargeDepth:=6) only[idsV,ruD]) ?_
   ·simp only[ruU]
    exact hec K
   simp only[g1,hz,z0,k1Y,bl38,idsV,qk_old,Lk.val,ruD,ruW,xF,ruU,Nat.reduceLT,Nat.reduceAdd,Nat.reduceEqDiff]
   unfold Lk.val at hcc
   refine genV_mod (H:=ext Y []) (W:=[]) [0,1] okY rfl (by kernel_rfl) (fun n hn=>?_) (fun n hn=>?_) (fun _ h=>by simp at h) (v:=.tuple #[u,.int .i64 ec]) (g:=gg) (by simp only[ruU,Nat.reduceEqDiff]; exact hcc) mg (by simp only[all2_cons,all2_nil,hA,true_or,and_true]) ?_
   ·simp only[zB2,List.not_mem_nil,or_false]at hn
    rcases hn with rfl|rfl
    ·exact bk_ne (H:=Y) htb0
    ·exact bk_ne (H:=Y) htb1
   ·show n<Y.next
    simp only[zB2,List.not_mem_nil,or_false]at hn
    have:=tY.lt
    omega
   intro Z D mZ hFZ hNZ hnZ hDZ
   have hD0:D=[]:=List.eq_nil_iff_forall_not_mem.2 (fun q hq=>by simpa using hDZ q hq)
   subst hD0
   replace mZ:Mod [] Y Z:=mZ
   replace hNZ:∀ m,Y.next<=m->m<gg.next->Z.get m=gg.get m:=hNZ
   obtain⟨zn,hzn⟩:∃ z,Z.next=z:=⟨_,rfl⟩
   have okZ:=mZ.ok okY
   have zzn:z<=zn:=by have:=mZ.next; omega
   have hruZ:RowAt Z u (strG W ⟨0,0,false,false,false⟩ (echoB f.echo)):=by
    by_cases hne:strG W ⟨0,0,false,false,false⟩ (echoB f.echo)=[]
    ·obtain⟨a,c,e⟩:=hru.sl
     rw[hne]at e ⊢
     exact .inl ⟨rfl,a,c,e⟩
    ·exact hru.of (Nat.le_of_eq hnZ.symm) fun n hn=>hNZ n (by have:=hiu n hn; omega) (hru.ne hne n hn).2
   have hYZ:=hY.grow mZ
   obtain⟨ua,uc,eu⟩:=hru.sl
   rw[eu]at hiu hruZ ⊢
   simp only[hz,hA,idsV,ruD,ruW,ruU,Nat.reduceLT,Nat.reduceAdd,Nat.reduceEqDiff]
   have k1Z:=(mZ.bk (by omega) (by simp)).trans k1Y
   have z0':x+0<zn:=by omega
   have zs':s+0<zn:=by omega
   have kZs:=hYZ.at_
   have wa:IntKind.i64.wrap (f.height-1)=f.height-1:=wrap_sm (by omega) (by omega)
   have hput:=rput_c rw cl hYZ.sc okZ hYZ.nx (f.height-1).toNat 0 (f.height-1) 0 (by omega) rfl (strG W ⟨0,0,false,false,false⟩ (echoB f.echo)) hruZ (fun n hn h1=>by have:=hiu n hn; have:=hlow n (zB3 _ h1); omega) (by omega) (by have:=strG_len W ⟨0,0,false,false,false⟩ (echoB f.echo); omega) hW2
   rw[ev]at kZs hput
   generalize hcodeE:Code.seq (Code.region 39 _ _) _=codeE at hcodeC
   generalize hcodeD:Code.seq (Code.region 34 _ _) _=codeD at hcodeC
   subst hcodeC
   rw[show Z=ext Z [] from rfl]
   simp only[g1,g5,hzn,z0',zs',k1Z,kZs,wa,qk_old,ruW,Nat.reduceLeDiff,xF,ruU,Nat.reduceLT,Nat.reduceAdd,Nat.reduceEqDiff]
   refine CallA.mono (show CallA Tryd.prog 33 _ (ext Z []) _ from hput) ?_
   rintro out T ⟨rfl,hT',mT⟩
   have hdr:putG gb' (f.height-1).toNat 0 (strG W ⟨0,0,false,false,false⟩ (echoB f.echo))=drawG f:=by
    rw[<-hgb,<-hg,show h=f.height.toNat by omega,show W=f.width.toNat by omega]
    rfl
   rw[hdr,<-ev]at hT'
   have hT:=hYZ.put mT hT'
   have hdl:(drawG f).length=h:=by rw[<-hdr,putG_len,hgbl]
   obtain⟨tn,htn⟩:∃ w,T.next=w:=⟨_,rfl⟩
   have okT:=mT.ok okZ
   have ut:zn<=tn:=by have:=mT.next; omega
   have k1T:=(mT.bk (n:=x+0) (by omega) (fun hn=>by have:=hlow _ (zB3 _ hn); omega)).trans k1Z
   have t0:x+0<tn:=by omega
   have ts:s+0<tn:=by omega
   have kTs:=hT.at_
   rw[ev]at kTs
   have mST:Mod ((s+0)::rvs.flatMap idsV) S T:=(mY.trans (mZ.mono (by simp))).trans (mT.mono fun n hn=>zB3 _ hn)
   obtain⟨d1,h1'⟩:∃ d,decide (¬f.ecol=-1)=d:=⟨_,rfl⟩
   have hcg:f.panes.foldl curS (-1,0)=curG f.panes:=curS_fold _ fun p hp=>by
    have:=pnOk_of (h:=h) (w:=W) (p:=p) (by rw[<-hh,<-hW]; exact pnsE_mem _ fo.panes p hp)
    exact⟨this.top,this.row⟩
   have hfin:∀ (E:Env) (X:AHeap),SvR (x+2) N X (s+0) v rvs W (drawG f) (drawC f).1 (drawC f).2->Mod ((s+0)::rvs.flatMap idsV) S X->E 2=.pointer (some ⟨x+1,0,none⟩)->E 5=.pointer (some ⟨s+0,0,none⟩)->wpA Tryd.prog none codeD (seqC Tryd.prog none codeE (endA Tryd.prog Tryd.f10 fun out X=>DrO H f out X)) (mkA 205 E []) X:=by
    intro E X hX mX g2 g5
    obtain⟨xn,hxn⟩:∃ w,X.next=w:=⟨_,rfl⟩
    have okX:=mX.ok okS
    have sxn:s+1<=xn:=by have:=mX.next; omega
    have mHX:Mod [] H X:=mHS.step mX hok fun n hn=>.inr (by have:=hlow n hn; omega)
    have k2X:=(mX.bk (n:=x+1) (by omega) (fun hn=>by have:=hlow _ hn; omega)).trans k2S
    have x1:x+1<xn:=by omega
    have xs':s+0<xn:=by omega
    have kXs:=hX.at_
    rw[ev,hbl,<-hdl]at kXs
    have hgr:=hX.sc.own.grid
    have mU:∀ vs,Mod [x+1] X (uw X (x+1) 0 vs):=fun vs=>Mod.uw (by simp)
    have mHU:∀ vs,Mod [] H (uw X (x+1) 0 vs):=fun vs=>mHX.step (mU vs) hok fun n hn=>.inr (by simp only[zA9]at hn; omega)
    have scu:scb xn (.slice va (drawG f).length vc)=true:=by
     rw[hdl,<-hbl,<-ev]
     rcases hX.sc.own.at_ with⟨_,e⟩|⟨m,s',c,o,e,_,_,hlt,_⟩
     ·rw[e]; rfl
     ·rw[e]; exact blt_of (hxn▸hlt)
    subst hcodeD hcodeE
    simp only[ruW,ruU,Nat.reduceLT]
    refine w_env fun E2 hE=>?_
    have g2':E2 2=.pointer (some ⟨x+1,0,none⟩):=by rw[hE]; simp only[g2,ruU,Nat.reduceEqDiff]
    have g5':E2 5=.pointer (some ⟨s+0,0,none⟩):=by rw[hE]; simp only[g5,ruU,Nat.reduceEqDiff]
    have g17':E2 17=.int .i64 ((0:Nat):Int):=by rw[hE]; (simp only[ruU]<;>rfl)
    clear hE g2 g5 E
    rw[show X=ext X [] from rfl]
    refine w_loop (fun (i:Nat) E' X'=>X'=ext X []/\i<=(drawG f).length/\(∀ l∈(drawG f).take i,wholeB l=true)/\E' 2=.pointer (some ⟨x+1,0,none⟩)/\E' 5=.pointer (some ⟨s+0,0,none⟩)/\E' 17=.int .i64 (i:Int)) (fun i=>(drawG f).length-i) 0 ⟨rfl,zA7 _,fun l hl=>by simp at hl,g2',g5',g17'⟩ ?_
    clear g2' g5' g17' E2
    rintro i E X' ⟨hX',hi,hall,g2,g5,g17⟩
    rw[hX']
    by_cases hil:i<(drawG f).length
    ·have hd:decide ((i:Int)<((drawG f).length:Int))=true:=decide_eq_true (by omega)
     obtain⟨l,hl⟩:∃ l,(drawG f)[i]?=some l:=⟨_,zA5 hil⟩
     obtain⟨n,off,s',c,e,o,L,rv,e1,r1,n1,hrv,hR⟩:=GridAt.one hgr hl
     rw[ev,hbl,<-hdl]at e1
     simp only[Value.slice.injEq,true_and]at e1
     obtain⟨rfl,rfl⟩:=e1
     have i1:=grid_ia (n:=n) (off:=off) (s:=s') (cap:=vc) (i:=(i:Int)) rfl hil
     have l1:=grid_load (e:=e) (o:=o) hrv
     rw[hxn]at n1
     obtain⟨wb,hwb⟩:∃ q,wholeB l=q:=⟨_,rfl⟩
     have hva:=rowV_c X rv l hR (by have:=hX.sc.wd l (zB5 hl); omega)
     rw[hwb]at hva
     have hwi:IntKind.i64.wrap ((i:Int)+1)=((i+1:Nat):Int):=wrap_succ (by omega)
     simp only[g5,g17,hd,hxn,xs',kXs,i1,r1,n1,l1,qk_old,ruW,xF,ruU,Nat.reduceLT,Nat.reduceEqDiff]
     refine CallS.to (show Pure 35 _ (ext X []) _ from hva) ?_
     cases wb with
     |false =>
      simp only[g2,hxn,x1,k2X,bl31,zD8,Tryd.results10,qk_old,ruW,putL,Nat.reduceLeDiff,xF,ruU,Nat.reduceLT,Nat.reduceAdd,Nat.reduceEqDiff]
      refine⟨mHU _,?_⟩
      rw[if_neg (fun h=>h (hev.trans hev0)),if_pos (List.any_eq_true.2 ⟨l,zB5 hl,by rw[hwb]; rfl⟩)]
     |true =>
      simp only[g17,hwi,zC2,ruW,ruU,Nat.reduceLT,Nat.reduceEqDiff]
      refine loopC_next ⟨i+1,by omega,rfl,hil,fun q hq=>?_,by simp only[g2,ruU,Nat.reduceEqDiff],by simp only[g5,ruU,Nat.reduceEqDiff],by simp only[ruU]⟩
      rw[List.take_succ,hl]at hq
      rcases zC3.1 hq with hq|hq
      ·exact hall q hq
      ·simp only[Option.toList_some,zA9]at hq
       rw[hq]; exact hwb
    ·obtain rfl:i=(drawG f).length:=by omega
     have hd:decide (((drawG f).length:Int)<((drawG f).length:Int))=false:=decide_eq_false (by omega)
     rw[zF0]at hall
     have hany:((drawG f).any fun l=>!wholeB l)=false:=List.any_eq_false.2 fun l hl=>by rw[hall l hl]; decide
     simp only[g2,g5,g17,hd,hxn,xs',x1,kXs,k2X,scu,Tryd.results10,qk_old,ruW,putL,Nat.reduceLeDiff,xF,ruU,Nat.reduceLT,Nat.reduceAdd,Nat.reduceEqDiff]
     refine⟨mHU _,?_⟩
     rw[if_neg (fun h=>h (hev.trans hev0)),if_neg (by rw[hany]; decide)]
     refine⟨N,v,rvs,by omega,?_,by rw[ev,hbl,<-hdl],by omega,fun l hl=>by have:=hX.sc.wd l hl; omega⟩
     have hx1:=mU [.slice va (drawG f).length vc,.int .i64 (drawC f).1,.int .i64 (drawC f).2]
     exact hX.sc.own.of hx1.next fun n hN' hn _=>hx1.get n hn (by simp only[zA9]; omega)
   have mss:∀ n∈[s+0],n∈(s+0)::rvs.flatMap idsV:=fun n hn=>by simp only[zA9]at hn; rw[hn]; exact zB9 ..
   rw[show T=ext T [] from rfl]
   cases d1 with
   |false =>
    have hec0:f.ecol=-1:=Decidable.byContradiction fun h=>of_decide_eq_false h1' h
    simp only[g1,htn,t0,k1T,h1',qk_old,ruW,xF,ruU,Nat.reduceLT,Nat.reduceAdd,Nat.reduceEqDiff]
    refine hfin _ T ?_ mST ?_ ?_
    ·have:drawC f=(rw,cl):=by unfold drawC; rw[if_neg (fun h=>h hec0),<-hcg,hcu]
     rw[this]
     exact hT
    ·exact g2
    ·exact g5
   |true =>
    have hec1:f.ecol≠-1:=of_decide_eq_true h1'
    obtain⟨hc1,hm1⟩:=hT.row (f.height-1)
    obtain⟨hc2,hm2⟩:=hc1.col f.ecol
    have ne0:¬x+0=s+0:=by omega
    simp only[g1,g5,htn,t0,ts,k1T,kTs,h1',wa,ne0,qk_old,ruW,putL,Nat.reduceLeDiff,xF,ruU,Nat.reduceLT,Nat.reduceAdd,Nat.reduceEqDiff]
    refine hfin _ _ ?_ ((mST.trans (hm1.mono mss)).trans (hm2.mono mss)) ?_ ?_
    ·have:drawC f=(f.height-1,f.ecol):=by unfold drawC; rw[if_pos hec1]
     rw[this]
     exact hc2
    ·exact g2
    ·exact g5
def pnBig (p:Pn):Bool:=decide (30<p.rows.length)||decide (300<p.mode.size)||p.rows.any fun r=>decide (60<r.cells.length)
def lgB (f:Fr):Bool:=(f.panes.take 13).any pnBig||decide (12<f.panes.length)||decide (12<f.bars.length)||decide (300<f.echo.size)
theorem lgB_bd {f:Fr} (h:lgB f=false):FrBd f:=by
 unfold lgB at h
 simp only[Bool.or_eq_false_iff,decide_eq_false_iff_not]at h
 obtain⟨⟨⟨h1,h2⟩,h3⟩,h4⟩:=h
 refine⟨by omega,by omega,by omega,fun p hp=>?_⟩
 rw[zF2 (by omega)]at h1
 have:=List.any_eq_false.1 h1 p hp
 unfold pnBig at this
 simp only[Bool.or_eq_true,decide_eq_true_eq,not_or,Bool.not_eq_true,List.any_eq_false]at this
 obtain⟨⟨h5,h6⟩,h7⟩:=this
 exact⟨by omega,by omega,fun r hr=>by have:=h7 r hr; omega⟩
theorem large_c (q:Bool) (H:AHeap) (f:Fr) (pv bv:Value) (hf:FrR q H pv bv f):Pure 6 [.agg ⟨frL pv bv f⟩] H (.bool (lgB f)):=by
 obtain⟨x,hx⟩:=Go.Ax.exq H.next
 obtain⟨pa,pc,ep⟩:=hf.panes.sl
 obtain⟨ba,bc,eb⟩:=hf.bars.sl
 obtain⟨B,hB⟩:=Go.Ax.exq (lgB f)
 rw[hB]
 refine callS_drop (fun wf hsc=>?_) (fun _ _=>rfl)
 have hok:=wf.base
 have sp:=hf.sp
 have sb:=hf.sb
 rw[hx,ep]at sp
 rw[hx,eb]at sb
 refine callE_fn mixed Tryd.func6 rfl Tryd.ntmps6 (zB1 rfl) ?_
 rw[ep,eb]
 unfold frL
 simp only[hx,sp,sb,ruW,ruU,entryE,Nat.reduceLT]
 generalize hY:ext H _=Y
 have mY:Mod [] H Y:=hY▸Mod.ext hok
 have nY:Y.next=x+1:=by rw[<-hY,ext_next,hx]; rfl
 have kY:bk Y (x+0)=some ⟨25,false,[.int .i64 f.height,.int .i64 f.width,.slice pa f.panes.length pc,.slice ba f.bars.length bc,.string f.echo,.int .i64 f.ecol]⟩:=by rw[<-hY,bk_at hx (by simp)]; rfl
 clear hY
 have okY:=mY.ok hok
 refine w_env fun E hE=>?_
 have g1:E 1=.pointer (some ⟨x+0,0,none⟩):=by rw[hE]; rfl
 have g3:E 3=.int .i64 ((0:Nat):Int):=by rw[hE]; rfl
 clear hE
 have u9:=u9
 have u22:Tryd.prog.underlying 22=some (.slice 55):=by kernel_rfl
 have s55:szOf Tryd.prog 55=some 15:=by kernel_rfl
 have ag55':aggT Tryd.prog 55=some true:=by kernel_rfl
 have z55:zeroOf Tryd.prog 55=some (.agg #[.int .i64 0,.int .i64 0,.int .i64 0,.int .i64 0,.int .i64 0,.slice none 0 0,.int .i64 0,.int .i64 0,.string ⟨#[]⟩,.int .i64 0,.int .i64 0,.bool false,.bool false,.bool false,.bool false]):=by kernel_rfl
 have u53:Tryd.prog.underlying 53=some (.slice 58):=by kernel_rfl
 have s58:szOf Tryd.prog 58=some 5:=by kernel_rfl
 have bl:∀ (G:AHeap) (s:ByteArray),aBuiltin Tryd.prog G .len ⟨[9]⟩ [.string s]=some (goInt s.size,G):=fun G s=>bt_lenStr u9
 rw[show Y=ext Y [] from rfl]
 refine blockC_meet (fun E' X=>Mod [] Y X/\E' 1=.pointer (some ⟨x+0,0,none⟩)/\((12<f.panes.length)\/(f.panes.take 13).any pnBig=false)) ?_ ?_
 ·refine w_loop (fun (i:Nat) E' X=>i<=f.panes.length/\i<=13/\Mod [] Y X/\(∀ p∈f.panes.take i,pnBig p=false)/\E' 1=.pointer (some ⟨x+0,0,none⟩)/\E' 3=.int .i64 (i:Int)) (fun i=>f.panes.length-i) 0 ⟨zA7 _,by omega,Mod.refl,fun p hp=>by simp at hp,g1,g3⟩ ?_
  clear g1 g3 E
  rintro i E X ⟨hi,hi13,mX,hall,g1,g3⟩
  obtain⟨y,hy⟩:=Go.Ax.exq X.next
  have okX:=mX.ok okY
  have yb:X.base<=y:=hy▸okX
  have mHX:=mY.trans mX
  have kX:=(mX.bk (by omega) (by simp)).trans kY
  have xy:x+0<y:=by have:=mX.next; omega
  rw[show X=ext X [] from rfl]
  by_cases hil:i<f.panes.length
  ·have hd:decide ((i:Int)<(f.panes.length:Int))=true:=decide_eq_true (by omega)
   by_cases hi2:i<13
   ·have hd2:decide ((i:Int)<13)=true:=decide_eq_true (by omega)
    obtain⟨p,hp⟩:∃ p,f.panes[i]?=some p:=⟨_,zA5 hil⟩
    obtain⟨n,off,s,cc,e,o,M,cs,e1,n1r,r1,hle,hM,rv,rfl,hR⟩:=(hf.panes.mono mHX fun _ _=>PnC.mod0 mHX).one hp
    have e1':=ep.symm.trans e1
    simp only[Value.slice.injEq,true_and]at e1'
    obtain⟨rfl,rfl⟩:=e1'
    have i1:=ia_of (P:=Tryd.prog) (k:=.i64) (i:=i) (n:=n) (off:=off) (len:=f.panes.length) (cap:=pc) (s:=s) u22 s55 hil
    have l1:ldB Tryd.prog 55 (off+i*15) (some ⟨e,o,M⟩)=some (.agg ⟨pnL rv p⟩):=by
     rw[ld_agg ag55',s55,zA3,if_pos (by omega),hM]
    obtain⟨ra,rc,er⟩:=hR.it.sl
    have sr:=hR.sc
    rw[hy,er]at sr
    rw[hy]at n1r
    obtain⟨Z,hZ⟩:=Go.Ax.exq (ext X [⟨55,false,pnL rv p⟩])
    have mZ:Mod [] X Z:=hZ▸Mod.ext okX
    have nZ:Z.next=y+1:=by rw[<-hZ,ext_next,hy]; rfl
    have kZ:bk Z (y+0)=some ⟨55,false,pnL rv p⟩:=by rw[<-hZ,bk_at hy (by simp)]; rfl
    have okZ:=mZ.ok okX
    have zb:Z.base<=y+1:=nZ▸okZ
    have zz:y+0<y+1:=by omega
    have mHZ:=mHX.trans mZ
    rw[er]at l1 hZ kZ
    unfold pnL at l1 hZ kZ
    have bad:pnBig p=true->true=B:=fun hb=>by
     rw[<-hB]
     have:(f.panes.take 13).any pnBig=true:=List.any_eq_true.2 ⟨p,zB5 (i:=i) (by rw[zF4,if_pos hi2]; exact hp),hb⟩
     unfold lgB
     rw[this]
     rfl
    obtain⟨d3,h3⟩:∃ d,decide ((30:Int)<(p.rows.length:Int))=d:=⟨_,rfl⟩
    obtain⟨d4,h4⟩:∃ d,decide ((300:Int)<(p.mode.size:Int))=d:=⟨_,rfl⟩
    simp only[g1,g3,hy,yb,kX,xy,hd,hd2,i1,n1r,r1,l1,sr,z55,qk_old,ruW,putL,Nat.reduceLeDiff,xF,ruU,Nat.reduceLT,Nat.reduceAdd,Nat.reduceEqDiff]
    rw[hZ,show Z=ext Z [] from rfl]
    cases d3 with
    |true =>
     obtain rfl:true=B:=bad (by unfold pnBig; rw[decide_eq_true (show 30<p.rows.length by have:=of_decide_eq_true h3; omega)]; rfl)
     simp only[h3,joinR_ret,Tryd.results6,ruW,ruU,Nat.reduceLT,Nat.reduceEqDiff]
     exact⟨trivial,mHZ⟩
    |false =>
    cases d4 with
    |true =>
     obtain rfl:true=B:=bad (by unfold pnBig; rw[decide_eq_true (show 300<p.mode.size by have:=of_decide_eq_true h4; omega)]; simp)
     simp only[nZ,kZ,zz,h3,h4,bl,goInt,joinR_ret,Tryd.results6,qk_old,ruW,xF,ruU,Nat.reduceLT,Nat.reduceAdd,Nat.reduceEqDiff]
     exact⟨trivial,mHZ⟩
    |false =>
    simp only[nZ,kZ,zz,h3,h4,bl,goInt,qk_old,ruW,xF,ruU,Nat.reduceLT,Nat.reduceAdd,Nat.reduceEqDiff]
    have hrl:p.rows.length<=30:=by have:=of_decide_eq_false h3; omega
    refine w_env fun E2 hE=>?_
    have g1':E2 1=.pointer (some ⟨x+0,0,none⟩):=by rw[hE]; simp only[g1,ruU,Nat.reduceEqDiff]
    have g3':E2 3=.int .i64 (i:Int):=by rw[hE]; simp only[g3,ruU,Nat.reduceEqDiff]
    have g4':E2 4=.pointer (some ⟨y+0,0,none⟩):=by rw[hE]; simp only[ruU,Nat.reduceEqDiff]
    have g5':E2 5=.int .i64 ((0:Nat):Int):=by rw[hE]; (simp only[ruU]<;>rfl)
    clear hE g1 g3 E hd hd2
    refine w_loop (fun (k:Nat) E' X'=>X'=ext Z []/\k<=p.rows.length/\(∀ r∈p.rows.take k,¬60<r.cells.length)/\E' 1=.pointer (some ⟨x+0,0,none⟩)/\E' 3=.int .i64 (i:Int)/\E' 4=.pointer (some ⟨y+0,0,none⟩)/\E' 5=.int .i64 (k:Int)) (fun k=>p.rows.length-k) 0 ⟨rfl,zA7 _,fun r hr=>by simp at hr,g1',g3',g4',g5'⟩ ?_
    clear g1' g3' g4' g5' E2
    rintro k E X' ⟨hX',hk,hkall,g1,g3,g4,g5⟩
    rw[hX']
    by_cases hkl:k<p.rows.length
    ·have hd:decide ((k:Int)<(p.rows.length:Int))=true:=decide_eq_true (by omega)
     obtain⟨r,hrk⟩:∃ r,p.rows[k]?=some r:=⟨_,zA5 hkl⟩
     obtain⟨n2,off2,s2,cc2,e2,o2,M2,cs2,e12,n12,r12,hle2,hM2,cv,pv2,rfl,hRw⟩:=(hR.it.mono mZ fun _ _=>RwC.mod0 mZ).one hrk
     have e13:=er.symm.trans e12
     simp only[Value.slice.injEq,true_and]at e13
     obtain⟨rfl,rfl⟩:=e13
     have i2:=ia_of (P:=Tryd.prog) (k:=.i64) (i:=k) (n:=n2) (off:=off2) (len:=p.rows.length) (cap:=rc) (s:=s2) u53 s58 hkl
     have hcell:M2[off2+k*5]?=some cv:=by
      have:=congrArg (fun l=>l[0]?) hM2
      simp only[zF4,List.getElem?_drop,zD5]at this
      rw[if_pos (by decide)]at this
      exact this
     have l2:=grid_load (k:=k*5) (off:=off2) (e:=e2) (o:=o2) hcell
     obtain⟨ca,cb,ecv⟩:=hRw.cells.sl
     rw[ecv]at l2
     rw[nZ]at n12
     obtain⟨d5,h5⟩:∃ d,decide ((60:Int)<(r.cells.length:Int))=d:=⟨_,rfl⟩
     have hwk:IntKind.i64.wrap ((k:Int)+1)=((k+1:Nat):Int):=wrap_succ (by omega)
     cases d5 with
     |true =>
      obtain rfl:true=B:=bad (by
       unfold pnBig
       rw[List.any_eq_true.2 ⟨r,zB5 hrk,decide_eq_true (by have:=of_decide_eq_true h5; omega)⟩]
       simp)
      simp only[g4,g5,nZ,kZ,zz,hd,i2,n12,r12,l2,h5,joinR_ret,Tryd.results6,qk_old,ruW,xF,ruU,Nat.reduceLT,Nat.reduceAdd,Nat.reduceEqDiff]
      exact⟨trivial,mHZ⟩
     |false =>
      simp only[g4,g5,nZ,kZ,zz,hd,i2,n12,r12,l2,h5,hwk,qk_old,ruW,xF,ruU,Nat.reduceLT,Nat.reduceAdd,Nat.reduceEqDiff]
      refine loopC_next ⟨k+1,by omega,rfl,hkl,fun q hq=>?_,by simp only[g1,ruU,Nat.reduceEqDiff],by simp only[g3,ruU,Nat.reduceEqDiff],by simp only[g4,ruU,Nat.reduceEqDiff],by simp only[ruU]⟩
      rw[List.take_succ,hrk]at hq
      rcases zC3.1 hq with hq|hq
      ·exact hkall q hq
      ·simp only[Option.toList_some,zA9]at hq
       rw[hq]
       have:=of_decide_eq_false h5
       omega
    ·obtain rfl:k=p.rows.length:=by omega
     have hd:decide ((p.rows.length:Int)<(p.rows.length:Int))=false:=decide_eq_false (by omega)
     have hwi:IntKind.i64.wrap ((i:Int)+1)=((i+1:Nat):Int):=wrap_succ (by omega)
     rw[zF0]at hkall
     simp only[g3,g4,g5,nZ,kZ,zz,hd,hwi,qk_old,ruW,xF,ruU,Nat.reduceLT,Nat.reduceAdd,Nat.reduceEqDiff]
     refine loopC_next ⟨i+1,by omega,hil,by omega,mX.trans mZ,fun q hq=>?_,by simp only[g1,ruU,Nat.reduceEqDiff],by simp only[ruU]⟩
     rw[List.take_succ,hp]at hq
     rcases zC3.1 hq with hq|hq
     ·exact hall q hq
     ·simp only[Option.toList_some,zA9]at hq
      rw[hq]
      unfold pnBig
      have:=of_decide_eq_false h4
      rw[decide_eq_false (show ¬30<p.rows.length by omega),decide_eq_false (show ¬300<p.mode.size by omega)]
      simp only[Bool.false_or]
      refine List.any_eq_false.2 fun r hr=>?_
      simp only[decide_eq_true_eq]
      exact hkall r hr
   ·have hd2:decide ((i:Int)<13)=false:=decide_eq_false (by omega)
    simp only[g1,g3,hy,kX,xy,hd,hd2,qk_old,ruW,xF,ruU,Nat.reduceLT,Nat.reduceAdd,Nat.reduceEqDiff]
    exact joinR_normal ⟨mX,by simp only[g1,ruU,Nat.reduceEqDiff],.inl (by omega)⟩
  ·obtain rfl:i=f.panes.length:=by omega
   have hd:decide ((f.panes.length:Int)<(f.panes.length:Int))=false:=decide_eq_false (by omega)
   rw[zF0]at hall
   simp only[g1,g3,hy,kX,xy,hd,qk_old,ruW,xF,ruU,Nat.reduceLT,Nat.reduceAdd,Nat.reduceEqDiff]
   refine joinR_normal ⟨mX,by simp only[g1,ruU,Nat.reduceEqDiff],.inr (List.any_eq_false.2 fun p hp=>?_)⟩
   rw[hall p (List.mem_of_mem_take hp)]
   decide
 ·rintro E X ⟨mX,g1,hb⟩
  obtain⟨y,hy⟩:=Go.Ax.exq X.next
  have okX:=mX.ok okY
  have mHX:=mY.trans mX
  have kX:=(mX.bk (by omega) (by simp)).trans kY
  have xy:x+0<y:=by have:=mX.next; omega
  obtain⟨d1,h1⟩:∃ d,decide ((12:Int)<(f.panes.length:Int))=d:=⟨_,rfl⟩
  obtain⟨d2,h2⟩:∃ d,decide ((12:Int)<(f.bars.length:Int))=d:=⟨_,rfl⟩
  obtain⟨d3,h3⟩:∃ d,decide ((300:Int)<(f.echo.size:Int))=d:=⟨_,rfl⟩
  have e1:decide (12<f.panes.length)=d1:=by rw[<-h1]; exact decide_eq_decide.2 ⟨fun h=>by omega,fun h=>by omega⟩
  have e2:decide (12<f.bars.length)=d2:=by rw[<-h2]; exact decide_eq_decide.2 ⟨fun h=>by omega,fun h=>by omega⟩
  have e3:decide (300<f.echo.size)=d3:=by rw[<-h3]; exact decide_eq_decide.2 ⟨fun h=>by omega,fun h=>by omega⟩
  have hBd:B=(d1||d2||d3):=by
   rw[<-hB]
   unfold lgB
   rw[e1,e2,e3]
   rcases hb with hb|hb
   ·have:d1=true:=by rw[<-e1]; exact decide_eq_true hb
    rw[this]
    simp
   ·rw[hb,Bool.false_or]
  rw[hBd]
  rw[show X=ext X [] from rfl]
  cases d1 with
  |true =>
   simp only[g1,hy,kX,xy,h1,Tryd.results6,qk_old,Bool.true_or,ruW,xF,ruU,Nat.reduceLT,Nat.reduceAdd,Nat.reduceEqDiff]
   exact⟨trivial,mHX⟩
  |false =>
  cases d2 with
  |true =>
   simp only[g1,hy,kX,xy,h1,h2,Tryd.results6,qk_old,Bool.true_or,Bool.false_or,ruW,xF,ruU,Nat.reduceLT,Nat.reduceAdd,Nat.reduceEqDiff]
   exact⟨trivial,mHX⟩
  |false =>
   cases d3 with
   |true =>
    simp only[g1,hy,kX,xy,h1,h2,h3,bl,goInt,Tryd.results6,qk_old,Bool.false_or,ruW,xF,ruU,Nat.reduceLT,Nat.reduceAdd,Nat.reduceEqDiff]
    exact⟨trivial,mHX⟩
   |false =>
    simp only[g1,hy,kX,xy,h1,h2,h3,bl,goInt,Tryd.results6,qk_old,Bool.false_or,ruW,xF,ruU,Nat.reduceLT,Nat.reduceAdd,Nat.reduceEqDiff]
    exact⟨trivial,mHX⟩
def RwA (x:Nat) (H:AHeap) (v:Value) (cs:List Value) (r:Rw):Prop:=∃ cv pv,cs=rwL cv pv r/\RwR H cv pv r/\∀ n∈idsV cv++idsV pv,n∉idsV v/\x<=n
theorem rwR_of {H G:AHeap} {W:List Nat} {cv pv:Value} {r:Rw} (h:RwR H cv pv r) (m:Mod W H G) (hn:∀ n∈idsV cv++idsV pv,n∉W):RwR G cv pv r:=by
 have key:∀ (v:Value) (cnt:Nat),∀ n∈rdF v cnt,n∈idsV v:=fun v cnt n hn=>by
  unfold rdF at hn
  split at hn
  ·cases hn
  ·exact hn
 refine⟨h.cells.of m.next fun n hk=>m.get n (h.cells.ne n hk).2 (hn n (List.mem_append_left _ (key _ _ n hk))),h.pos.of m.next fun n hk=>m.get n (h.pos.ne n hk).2 (hn n (List.mem_append_right _ (key _ _ n hk))),scb_mono m.next _ h.sc,scb_mono m.next _ h.sp⟩
def RowsO (x:Nat) (H:AHeap) (v:Value) (rows:List Rw):Prop:=∃ vs,VsAt H 58 5 v vs rows.length/\(∀ n∈idsV v,x<=n)/\∀ (i:Nat) (r:Rw),rows[i]?=some r->∃ cv pv,(vs.drop (i*5)).take 5=rwL cv pv r/\RwR H cv pv r/\∀ n∈idsV cv++idsV pv,x<=n
theorem RowsO.rows {x:Nat} {H:AHeap} {v:Value} {rows:List Rw} (h:RowsO x H v rows):RowsR true H v rows:=by
 obtain⟨vs,vX,_,hrw⟩:=h
 have u53:Tryd.prog.underlying 53=some (.slice 58):=by kernel_rfl
 have s58:szOf Tryd.prog 58=some 5:=by kernel_rfl
 have hg:∀ (i:Nat) (r:Rw),rows[i]?=some r->RwC H ((vs.drop (i*5)).take 5) r:=fun i r hi=>by
  obtain⟨cv,pv,e,hR,_⟩:=hrw i r hi
  exact⟨cv,pv,e,hR⟩
 refine⟨⟨vs,_root_.Go.Ax.VsAt.rd vX,hg⟩,vX.sc,fun _ k hk=>?_⟩
 obtain⟨a,c,h1,h2,h3⟩:=vs_cut (P:=Tryd.prog) u53 s58 vX hk
 refine⟨a,c,h1,⟨vs.take (k*5),?_,fun i r hi=>?_⟩,h3⟩
 ·rw[zE3,Nat.min_eq_left hk]
  exact h2
 ·rw[zF4]at hi
  split at hi
  ·rename_i hik
   rw[List.drop_take,List.take_take,Nat.min_eq_left (by omega)]
   exact hg i r hi
  ·cases hi
theorem RowsO.mod {x:Nat} {H G:AHeap} {W:List Nat} {v:Value} {rows:List Rw} (h:RowsO x H v rows) (m:Mod W H G) (hW:∀ n∈W,n<x):RowsO x G v rows:=by
 obtain⟨vs,vX,hid,hrw⟩:=h
 refine⟨vs,vX.of m.next fun n hn=>m.get n (vX.ne n hn).2 fun h1=>by have:=hW n h1; have:=hid n hn; omega,hid,fun i r hi=>?_⟩
 obtain⟨cv,pv,e,hR,hn⟩:=hrw i r hi
 exact⟨cv,pv,e,rwR_of hR m fun n h1 h2=>by have:=hW n h2; have:=hn n h1; omega,hn⟩
theorem RowsO.sub {x:Nat} {H G:AHeap} {v:Value} {rows:List Rw} (h:RowsO x H v rows) (s:SubH H G):RowsO x G v rows:=by
 obtain⟨vs,vX,hid,hrw⟩:=h
 refine⟨vs,vX.of (Nat.le_of_eq s.next.symm) fun n hn=>s.get n (vX.ne n hn).2 (vX.ne n hn).1,hid,fun i r hi=>?_⟩
 obtain⟨cv,pv,e,hR,hn⟩:=hrw i r hi
 exact⟨cv,pv,e,⟨rdAt_sub s hR.cells,rdAt_sub s hR.pos,by rw[s.next]; exact hR.sc,by rw[s.next]; exact hR.sp⟩,hn⟩
theorem copyRows_c (q:Bool) (H:AHeap) (rv:Value) (rows:List Rw) (hr:RowsR q H rv rows) (hl:rows.length<=1000) (hcl:∀ r∈rows,r.cells.length<=1000/\r.pos.length<=17592186043904) (hok:H.base<=H.next) :
  CallA Tryd.prog 22 [rv] H (fun out X=>Mod [] H X/\∃ v,out=.ok v/\RowsO H.next X v rows):=by
 obtain⟨ra,rc,er⟩:=hr.it.sl
 obtain⟨x,hx⟩:=Go.Ax.exq H.next
 refine callE_fn mixed Tryd.func22 rfl Tryd.ntmps22 (zB1 rfl) ?_
 rw[er]
 simp only[ruW,ruU,entryE,Nat.reduceLT]
 refine w_env fun E hE=>?_
 have g0:E 0=.slice ra rows.length rc:=by rw[hE]; rfl
 have g3:E 3=.slice none 0 0:=by rw[hE]; rfl
 have g4:E 4=.int .i64 ((0:Nat):Int):=by rw[hE]; rfl
 clear hE
 have u53:Tryd.prog.underlying 53=some (.slice 58):=by kernel_rfl
 have s58:szOf Tryd.prog 58=some 5:=by kernel_rfl
 have by58:bytesOf Tryd.prog 58=some 72:=by kernel_rfl
 have ag58:aggT Tryd.prog 58=some true:=by kernel_rfl
 have z58:zeroOf Tryd.prog 58=some (.agg #[.slice none 0 0,.slice none 0 0,.int .i64 0,.int .i64 0,.bool false]):=by kernel_rfl
 have i53:intTy Tryd.prog 53=some false:=by kernel_rfl
 have uC:Tryd.prog.underlying 39=some (.slice 68):=by kernel_rfl
 have sC:szOf Tryd.prog 68=some 6:=by kernel_rfl
 have byC:bytesOf Tryd.prog 68=some 32:=by kernel_rfl
 have zC:zeroOf Tryd.prog 68=some (.agg #[.int .i64 0,.int .i64 0,.int .i64 0,.bool false,.bool false,.bool false]):=by kernel_rfl
 have iC:intTy Tryd.prog 39=some false:=by kernel_rfl
 have uI:Tryd.prog.underlying 56=some (.slice 3):=by kernel_rfl
 have sI:szOf Tryd.prog 3=some 1:=by kernel_rfl
 have byI:bytesOf Tryd.prog 3=some 8:=by kernel_rfl
 have zI:zeroOf Tryd.prog 3=some (.int .i64 0):=by kernel_rfl
 have iI:intTy Tryd.prog 56=some false:=by kernel_rfl
 rw[show H=ext H [] from rfl]
 refine w_loop (fun (j:Nat) E' X=>j<=rows.length/\Mod [] H X/\(∃ av vs,VsAt X 58 5 av vs j/\(∀ n∈idsV av,x<=n)/\scbL X.next vs=true/\(∀ (i:Nat) (r:Rw),i<j->rows[i]?=some r->RwA x X av ((vs.drop (i*5)).take 5) r)/\E' 3=av)/\E' 0=.slice ra rows.length rc/\E' 4=.int .i64 (j:Int)) (fun j=>rows.length-j) 0 ⟨zA7 _,Mod.refl,⟨_,[],VsAt.nil,fun n hn=>by simp[idsV]at hn,rfl,fun i r h=>by omega,g3⟩,g0,g4⟩ ?_
 clear g0 g3 g4 E
 rintro j E X ⟨hj,mX,⟨av,vs,vX,lav,scvs,hrw,g3⟩,g0,g4⟩
 have okX:=mX.ok hok
 obtain⟨y,hy⟩:=Go.Ax.exq X.next
 have yb:X.base<=y:=hy▸okX
 have xy:x<=y:=by have:=mX.next; omega
 obtain⟨av0,eav⟩:=vX.len
 rw[show X=ext X [] from rfl]
 by_cases hjl:j<rows.length
 ·have hd:decide ((j:Int)<(rows.length:Int))=true:=decide_eq_true (by omega)
  obtain⟨r,hrj⟩:∃ r,rows[j]?=some r:=⟨_,zA5 hjl⟩
  obtain⟨hc1,hc2⟩:=hcl r (zB5 hrj)
  obtain⟨n,off,s,cc,e,o,M,cs,e1,n1,r1,hle,hM,cv,pv,rfl,hRw⟩:=(hr.it.mono mX fun _ _=>RwC.mod0 mX).one hrj
  have e1':=er.symm.trans e1
  simp only[Value.slice.injEq,true_and]at e1'
  obtain⟨rfl,rfl⟩:=e1'
  have i1:=ia_of (P:=Tryd.prog) (k:=.i64) (i:=j) (n:=n) (off:=off) (len:=rows.length) (cap:=rc) (s:=s) u53 s58 hjl
  have l1:ldB Tryd.prog 58 (off+j*5) (some ⟨e,o,M⟩)=some (.agg ⟨rwL cv pv r⟩):=by
   rw[ld_agg ag58,s58,zA3,if_pos (by omega),hM]
  obtain⟨ca,cb,ecv⟩:=hRw.cells.sl
  obtain⟨pa,pb,epv⟩:=hRw.pos.sl
  have sc1:=hRw.sc
  have sc2:=hRw.sp
  rw[hy]at n1 sc1 sc2
  rw[ecv]at l1 sc1
  rw[epv]at l1 sc2
  unfold rwL at l1
  simp only[g0,g4,hy,yb,hd,i1,n1,r1,l1,sc1,sc2,z58,qk_old,ruW,putL,Nat.reduceLeDiff,xF,ruU,Nat.reduceLT,Nat.reduceAdd,Nat.reduceEqDiff]
  obtain⟨X1,hX1⟩:=Go.Ax.exq (ext X [⟨58,false,[.slice ca r.cells.length cb,.slice pa r.pos.length pb,.int .i64 r.frm,.int .i64 r.til,.bool r.cont]⟩])
  have m1:Mod [] X X1:=hX1▸Mod.ext okX
  have nX1:X1.next=y+1:=by rw[<-hX1,ext_next,hy]; rfl
  have ok1:=m1.ok okX
  have k1:bk X1 (y+0)=some ⟨58,false,[.slice ca r.cells.length cb,.slice pa r.pos.length pb,.int .i64 r.frm,.int .i64 r.til,.bool r.cont]⟩:=by rw[<-hX1,bk_at hy (by simp)]; rfl
  have hsm1:small r.cells.length 32=true:=by simp only[small,zA4,zC6]; omega
  have hap1:=own_appN (P:=Tryd.prog) (st:=39) (e:=68) (H:=X1) (b:=y+1) (by1:=32) (z:=.agg #[.int .i64 0,.int .i64 0,.int .i64 0,.bool false,.bool false,.bool false]) uC sC byC zC rfl iC nX1 ok1 (hRw.cells.mod0 m1) (csOf_one _) (csOf_sc _ _) hsm1
  obtain⟨A2,hA2⟩:=Go.Ax.exq (ext X1 (ownL 68 (csOf r.cells) r.cells.length))
  have rd1:RdAt A2 6 (ownW (y+1) r.cells.length) (csOf r.cells) r.cells.length:=hA2▸own_rdN nX1 (csOf_length _)
  have m2:Mod [] X1 A2:=hA2▸Mod.ext ok1
  have ok2:=m2.ok ok1
  obtain⟨a2,na2⟩:∃ a,A2.next=a:=⟨_,rfl⟩
  have ge2:y+2<=a2:=by
   rw[<-na2,<-hA2,ext_next,nX1,ownL]
   split<;>simp
  have k2:=(m2.bk (by omega) (by simp)).trans k1
  obtain⟨oa1,eo1⟩:=own_form (y+1) r.cells.length
  have scw1:scb a2 (ownW (y+1) r.cells.length)=true:=by
   rw[ownW]
   split
   ·exact blt_of (show y+1+0<a2 by omega)
   ·rename_i h0
    refine blt_of (show y+1+1<a2 from ?_)
    rw[<-na2,<-hA2,ext_next,nX1,ownL,if_neg h0]
    simp
  have hid1:∀ n∈idsV (ownW (y+1) r.cells.length),y+1<=n:=fun n hn=>by rcases own_ids n hn with h|h<;>omega
  rw[ecv,hA2]at hap1
  obtain⟨w1,hw1⟩:∃ w,ownW (y+1) r.cells.length=w:=⟨_,rfl⟩
  rw[hw1]at hap1 rd1 scw1 hid1 eo1
  rw[eo1]at hap1 scw1
  have ab2:A2.base<=a2:=na2▸ok2
  have y02:y+0<a2:=by omega
  have hX1':ext X1 [⟨68,false,[]⟩]=ext X [⟨58,false,[.slice ca r.cells.length cb,.slice pa r.pos.length pb,.int .i64 r.frm,.int .i64 r.til,.bool r.cont]⟩,⟨68,false,[]⟩]:=by rw[<-hX1,ext_append]; rfl
  have hap1':aBuiltin Tryd.prog (ext X [⟨58,false,[.slice ca r.cells.length cb,.slice pa r.pos.length pb,.int .i64 r.frm,.int .i64 r.til,.bool r.cont]⟩,⟨68,false,[]⟩]) .append ⟨[39,39]⟩ [.slice (some ⟨y+1,0,some 0⟩) 0 0,.slice ca r.cells.length cb]=some (.slice oa1 r.cells.length r.cells.length,A2):=by rw[<-hX1']; exact hap1
  rw[hap1',show A2=ext A2 [] from rfl]
  simp only[na2,k2,y02,scw1,qk_old,ruW,putL,Nat.reduceLeDiff,xF,ruU,Nat.reduceLT,Nat.reduceAdd,Nat.reduceEqDiff]
  obtain⟨A3,hA3⟩:=Go.Ax.exq (uw A2 (y+0) 0 [.slice oa1 r.cells.length r.cells.length])
  have m3:Mod [y+0] A2 A3:=hA3▸Mod.uw (by simp)
  have ok3:=m3.ok ok2
  have na3:A3.next=a2:=by rw[<-hA3,uw_next,na2]
  have k3:bk A3 (y+0)=some ⟨58,false,[.slice oa1 r.cells.length r.cells.length,.slice pa r.pos.length pb,.int .i64 r.frm,.int .i64 r.til,.bool r.cont]⟩:=by rw[<-hA3,bk_uw_eq,k2]; rfl
  have ab3:A3.base<=a2:=na3▸ok3
  have m12:=m1.trans m2
  have hpids:∀ n∈idsV pv,n<y:=fun n hn=>hy▸ids_of_scb _ hRw.sp n hn
  have kf:∀ (v:Value) (cnt:Nat),∀ n∈rdF v cnt,n∈idsV v:=fun v cnt n hn=>by
   unfold rdF at hn
   split at hn
   ·cases hn
   ·exact hn
  have rdp:RdAt A3 1 pv (r.pos.map (Value.int .i64)) r.pos.length:=(hRw.pos.mod0 m12).of m3.next fun n hn=>m3.get n ((hRw.pos.mod0 m12).ne n hn).2 (by have:=hpids n (kf _ _ n hn); simp only[zA9]; omega)
  have hsm2:small r.pos.length 8=true:=by simp only[small,zA4,zC6]; omega
  have hpone:(r.pos.map (Value.int .i64)).all one=true:=zD1.2 fun v hv=>by
   obtain⟨n,_,rfl⟩:=zE7.1 hv
   rfl
  have hpsc:∀ N,scbL N (r.pos.map (Value.int .i64))=true:=fun N=>by
   rw[scbL_iff]
   intro v hv
   obtain⟨n,_,rfl⟩:=zE7.1 hv
   rfl
  have hap2:=own_appN (P:=Tryd.prog) (st:=56) (e:=3) (H:=A3) (b:=a2) (by1:=8) (z:=.int .i64 0) uI sI byI zI rfl iI na3 ok3 rdp hpone (hpsc _) hsm2
  obtain⟨A4,hA4⟩:=Go.Ax.exq (ext A3 (ownL 3 (r.pos.map (Value.int .i64)) r.pos.length))
  have rd2:RdAt A4 1 (ownW a2 r.pos.length) (r.pos.map (Value.int .i64)) r.pos.length:=hA4▸own_rdN na3 (by rw[zF6,Nat.mul_one])
  have m4:Mod [] A3 A4:=hA4▸Mod.ext ok3
  have ok4:=m4.ok ok3
  obtain⟨a4,na4⟩:∃ a,A4.next=a:=⟨_,rfl⟩
  have ge4:a2+1<=a4:=by
   rw[<-na4,<-hA4,ext_next,na3,ownL]
   split<;>simp
  have k4:=(m4.bk (by omega) (by simp)).trans k3
  obtain⟨oa2,eo2⟩:=own_form a2 r.pos.length
  have scw2:scb a4 (ownW a2 r.pos.length)=true:=by
   rw[ownW]
   split
   ·exact blt_of (show a2+0<a4 by omega)
   ·rename_i h0
    refine blt_of (show a2+1<a4 from ?_)
    rw[<-na4,<-hA4,ext_next,na3,ownL,if_neg h0]
    simp
  have hid2:∀ n∈idsV (ownW a2 r.pos.length),a2<=n:=fun n hn=>by rcases own_ids n hn with h|h<;>omega
  rw[epv,hA4]at hap2
  obtain⟨w2,hw2⟩:∃ w,ownW a2 r.pos.length=w:=⟨_,rfl⟩
  rw[hw2]at hap2 rd2 scw2 hid2 eo2
  rw[eo2]at hap2 scw2
  have ab4:A4.base<=a4:=na4▸ok4
  have y04:y+0<a4:=by omega
  have scw1':=scb_mono (show a2<=a4 by omega) _ scw1
  rw[hA3]
  have hap2':aBuiltin Tryd.prog (ext A3 [⟨3,false,[]⟩]) .append ⟨[56,56]⟩ [.slice (some ⟨a2+0,0,some 0⟩) 0 0,.slice pa r.pos.length pb]=some (.slice oa2 r.pos.length r.pos.length,A4):=hap2
  rw[hap2',show A4=ext A4 [] from rfl]
  obtain⟨A5,hA5⟩:=Go.Ax.exq (uw A4 (y+0) 1 [.slice oa2 r.pos.length r.pos.length])
  have m5:Mod [y+0] A4 A5:=hA5▸Mod.uw (by simp)
  have ok5:=m5.ok ok4
  have na5:A5.next=a4:=by rw[<-hA5,uw_next,na4]
  have k5:bk A5 (y+0)=some ⟨58,false,[.slice oa1 r.cells.length r.cells.length,.slice oa2 r.pos.length r.pos.length,.int .i64 r.frm,.int .i64 r.til,.bool r.cont]⟩:=by rw[<-hA5,bk_uw_eq,k4]; rfl
  have ab5:A5.base<=a4:=na5▸ok5
  obtain⟨A6,hA6⟩:=Go.Ax.exq (ext A5 [⟨58,false,[.slice oa1 r.cells.length r.cells.length,.slice oa2 r.pos.length r.pos.length,.int .i64 r.frm,.int .i64 r.til,.bool r.cont]⟩])
  have m6:Mod [] A5 A6:=hA6▸Mod.ext ok5
  have ok6:=m6.ok ok5
  have na6:A6.next=a4+1:=by rw[<-hA6,ext_next,na5]; rfl
  have k6:bk A6 (a4+0)=some ⟨58,false,rwL w1 w2 r⟩:=by rw[<-hA6,bk_at na5 (by simp),eo1,eo2]; rfl
  have ab6:A6.base<=a4+1:=na6▸ok6
  have m25:Mod [y+0] A2 A5:=(m3.trans (m4.mono (by simp))).trans m5
  have mX6:Mod [] X A6:=(m12.step m25 okX fun n hn=>.inr (by simp only[zA9]at hn; omega)).trans m6
  have m26:Mod [y+0] A2 A6:=m25.trans (m6.mono (by simp))
  have m46:Mod [y+0] A4 A6:=m5.trans (m6.mono (by simp))
  have hrw6:RwR A6 w1 w2 r:=by
   refine⟨rd1.of m26.next fun n hn=>m26.get n (rd1.ne n hn).2 ?_,rd2.of m46.next fun n hn=>m46.get n (rd2.ne n hn).2 ?_,?_,?_⟩
   ·have:=hid1 n (kf _ _ n hn)
    simp only[zA9]
    omega
   ·have:=hid2 n (kf _ _ n hn)
    simp only[zA9]
    omega
   ·rw[eo1,na6]
    exact scb_mono (by omega) _ scw1
   ·rw[eo2,na6]
    exact scb_mono (by omega) _ scw2
  have v6:=vs_mod0 mX6 vX
  have r6:RdAt A6 5 (.slice (some ⟨a4+0,0,some 0⟩) 1 1) (rwL w1 w2 r) 1:=⟨rfl,.inr ⟨by omega,a4+0,0,some 0,1,58,false,rwL w1 w2 r,rfl,rk_of k6,by omega,by simp[rwL],rfl⟩⟩
  have hsm6:small (j+1) 72=true:=by simp only[small,zA4,zC6]; omega
  have hone6:(rwL w1 w2 r).all one=true:=by rw[eo1,eo2]; rfl
  have hscr6:scbL A6.next (rwL w1 w2 r)=true:=by
   have e1:=hrw6.sc
   have e2:=hrw6.sp
   rw[scbL_iff]
   intro v hv
   simp only[rwL,zB2,List.not_mem_nil,or_false]at hv
   rcases hv with rfl|rfl|rfl|rfl|rfl
   ·exact e1
   ·exact e2
   ·rfl
   ·rfl
   ·rfl
  have hsc6:scbL A6.next (vs++rwL w1 w2 r)=true:=scbL_append (scbL_mono mX6.next _ scvs) hscr6
  obtain⟨v',K,ga,gv,gm,gi⟩:=vs_appR u53 s58 by58 z58 rfl i53 v6 r6 ok6 hone6 hsc6 hsm6
  have hwj:IntKind.i64.wrap ((j:Int)+1)=((j+1:Nat):Int):=wrap_succ (by omega)
  rw[eav]at ga
  rw[eav]at g3
  simp only[g3,na4,k4,y04,scw2,scw1',qk_old,ruW,putL,Nat.reduceLeDiff,xF,ruU,Nat.reduceLT,Nat.reduceAdd,Nat.reduceEqDiff]
  rw[hA5,hA6,ga]
  simp only[g4,hwj,ruW,ruU,Nat.reduceLT,Nat.reduceEqDiff]
  have hXK:Mod [] H K:=(mX.trans mX6).step gm hok fun n hn=>.inr (by rw[hx]; exact lav n hn)
  refine loopC_next ⟨j+1,by omega,hjl,hXK,⟨v',vs++rwL w1 w2 r,gv,?_,scbL_mono gm.next _ hsc6,?_,?_⟩,?_,?_⟩
  ·intro n hn
   rcases gi n hn with h|h
   ·exact lav n h
   ·omega
  ·intro i ri hi hri
   have hv5:=vX.1
   have hvN:∀ n∈idsV v',n∈idsV av\/a4+1<=n:=fun n hn=>by
    rcases gi n hn with h|h
    ·exact .inl h
    ·exact .inr (by omega)
   have lavy:∀ n∈idsV av,n<y:=fun n hn=>hy▸(vX.ne n hn).2
   by_cases hij:i=j
   ·subst hij
    rw[hrj]at hri
    cases hri
    rw[List.drop_append,zF5 (by omega),zC9,show i*5-vs.length=0 by omega,zC7]
    refine⟨w1,w2,rfl,rwR_of hrw6 gm fun n hn h=>?_,fun n hn=>⟨fun h=>?_,?_⟩⟩
    ·have:=lavy n h
     rcases zC3.1 hn with hn|hn
     ·have:=hid1 n hn; omega
     ·have:=hid2 n hn; omega
    ·have h12:y<=n/\n<a4+1:=by
      rcases zC3.1 hn with hn|hn
      ·have h1:=hid1 n hn
       have h2:=ids_of_scb _ hrw6.sc n hn
       omega
      ·have h1:=hid2 n hn
       have h2:=ids_of_scb _ hrw6.sp n hn
       omega
     rcases hvN n h with h|h
     ·have:=lavy n h; omega
     ·omega
    ·rcases zC3.1 hn with hn|hn
     ·have:=hid1 n hn; omega
     ·have:=hid2 n hn; omega
   ·rw[List.drop_append_of_le_length (by omega),List.take_append_of_le_length (by rw[zD4]; omega)]
    obtain⟨c1,p1,ec,hR1,hni⟩:=hrw i ri (by omega) hri
    have hR6:=rwR_of hR1 mX6 (fun n _=>by simp)
    refine⟨c1,p1,ec,rwR_of hR6 gm (fun n hn=>(hni n hn).1),fun n hn=>⟨fun h=>?_,(hni n hn).2⟩⟩
    rcases hvN n h with h|h
    ·exact (hni n hn).1 h
    ·rcases zC3.1 hn with hn|hn
     ·have h2:=ids_of_scb _ hR1.sc n hn; omega
     ·have h2:=ids_of_scb _ hR1.sp n hn; omega
  ·rfl
  ·exact g0
  ·rfl
 ·obtain rfl:j=rows.length:=by omega
  have hd:decide ((rows.length:Int)<(rows.length:Int))=false:=decide_eq_false (by omega)
  rw[eav]at g3
  simp only[g0,g3,g4,hd,Tryd.results22,ruW,xF,ruU,Nat.reduceLT,Nat.reduceEqDiff]
  rw[eav]at vX lav
  refine⟨mX,_,rfl,vs,vX,fun n hn=>by have:=lav n hn; omega,fun i r hi=>?_⟩
  obtain⟨cv,pv,e,hR,hn⟩:=hrw i r (zE1.1 hi).1 hi
  exact⟨cv,pv,e,hR,fun n h=>by have:=(hn n h).2; omega⟩
theorem sub_merge {H gg Z:AHeap} (mg:Mod [] (H.restrict (allF H)) gg) (hF:∀ n∈allF H,Z.get n=gg.get n) (hN:∀ n,H.next<=n->n<gg.next->Z.get n=gg.get n) (hn:Z.next=gg.next):SubH gg Z:=by
 have hrn:=restrict_next H (allF H)
 refine⟨hn,fun n h1 h2=>?_⟩
 rcases zC0 n H.next with h|h
 ·by_cases hf:n∈allF H
  ·exact hF n hf
  ·exfalso
   apply h2
   rw[mg.get n (by rw[hrn.1]; exact h) (by simp),restrict_get,if_neg hf]
 ·exact hN n h h1
def pnsC:List Value->List Pn->List Value
 |rv::rvs,p::ps=>pnL rv p++pnsC rvs ps
 |_,_=>[]
theorem pnL_len (rv:Value) (p:Pn):(pnL rv p).length=15:=rfl
theorem pnsC_len:∀ (rvs:List Value) (ps:List Pn),rvs.length=ps.length->(pnsC rvs ps).length=ps.length*15
 |[],[],_=>rfl
 |[],_::_,h=>by simp at h
 |_::_,[],h=>by simp at h
 |rv::rvs,p::ps,h=>by
  rw[pnsC,zC8,pnsC_len rvs ps (by simpa using h),pnL_len,zB4]
  omega
theorem pnsC_at:∀ (rvs:List Value) (ps:List Pn) (i:Nat) (rv:Value) (p:Pn),rvs[i]?=some rv->ps[i]?=some p->((pnsC rvs ps).drop (i*15)).take 15=pnL rv p
 |r::rvs,q::ps,0,rv,p,h1,h2=>by
  simp only[zD3,Option.some.injEq]at h1 h2
  subst h1 h2
  rfl
 |r::rvs,q::ps,i+1,rv,p,h1,h2=>by
  rw[zE2]at h1 h2
  rw[pnsC,show (i+1)*15=15+i*15 by omega,List.drop_append,zF5 (by rw[pnL_len]; omega),zC9,pnL_len,show 15+i*15-15=i*15 by omega]
  exact pnsC_at rvs ps i rv p h1 h2
 |[],_,_,_,_,h,_=>by simp at h
 |_::_,[],_,_,_,_,h=>by simp at h
theorem pnsC_set:∀ (rvs:List Value) (ps:List Pn) (i:Nat) (v:Value),rvs.length=ps.length->i<ps.length->putL (pnsC rvs ps) (i*15+5) [v]=pnsC (rvs.set i v) ps
 |r::rvs,q::ps,0,v,_,_=>by
  rw[List.set_cons_zero,pnsC,pnsC]
  rfl
 |r::rvs,q::ps,i+1,v,h,hi=>by
  rw[List.set_cons_succ,pnsC,pnsC,show (i+1)*15+5=(pnL r q).length+(i*15+5) by rw[pnL_len]; omega,putL_app,pnsC_set rvs ps i v (by simpa using h) (by simpa using hi)]
 |[],[],_,_,_,hi=>by simp at hi
 |[],_::_,_,_,h,_=>by simp at h
 |_::_,[],_,_,_,hi=>by simp at hi
theorem pnsC_one:∀ (rvs:List Value) (ps:List Pn),(∀ rv∈rvs,one rv=true)->(pnsC rvs ps).all one=true
 |r::rvs,q::ps,h=>by
  rw[pnsC,List.all_append,pnsC_one rvs ps (fun rv hr=>h rv (zB3 _ hr)),zE6]
  have:=h r (zB9 ..)
  simp only[pnL,List.all_cons,List.all_nil,this,Bool.true_and,zE6]
  rfl
 |[],_,_=>by rw[pnsC]; rfl; simp
 |_::_,[],_=>by rw[pnsC]; rfl; simp
theorem pnsC_sc (N:Nat):∀ (rvs:List Value) (ps:List Pn),(∀ rv∈rvs,scb N rv=true)->scbL N (pnsC rvs ps)=true
 |r::rvs,q::ps,h=>by
  rw[pnsC]
  refine scbL_append ?_ (pnsC_sc N rvs ps (fun rv hr=>h rv (zB3 _ hr)))
  have:=h r (zB9 ..)
  rw[scbL_iff]
  intro v hv
  simp only[pnL,zB2,List.not_mem_nil,or_false]at hv
  rcases hv with rfl|rfl|rfl|rfl|rfl|rfl|rfl|rfl|rfl|rfl|rfl|rfl|rfl|rfl|rfl<;>first|exact this|rfl
 |[],_,_=>by rw[pnsC]; rfl; simp
 |_::_,[],_=>by rw[pnsC]; rfl; simp
theorem items_pns {q:Bool} {H:AHeap}:∀ (ps:List Pn) (vs:List Value),vs.length=ps.length*15->(∀ (i:Nat) (p:Pn),ps[i]?=some p->PnC q H ((vs.drop (i*15)).take 15) p)->∃ rvs,vs=pnsC rvs ps/\rvs.length=ps.length/\∀ (i:Nat) (rv:Value) (p:Pn),rvs[i]?=some rv->ps[i]?=some p->RowsR q H rv p.rows
 |[],vs,h,_=>⟨[],by rw[zD7 (l:=vs) (by simpa using h)]; simp[pnsC],rfl,fun i rv p h=>by simp at h⟩
 |p::ps,vs,h,hv=>by
  obtain⟨rv,e,hr⟩:=hv 0 p rfl
  obtain⟨rvs,h1,h2,h3⟩:=items_pns ps (vs.drop 15) (by rw[zD4,h,zB4]; omega) fun i q hq=>by
   have:=hv (i+1) q hq
   rw[show (i+1)*15=15+i*15 by omega,<-zE9]at this
   exact this
  refine⟨rv::rvs,?_,by simp[h2],fun i r q h4 h5=>?_⟩
  ·rw[pnsC,<-h1]
   rw[zE5,zC7]at e
   rw[<-e,List.take_append_drop]
  ·cases i with
   |zero =>
    simp only[zD3,Option.some.injEq]at h4 h5
    subst h4 h5
    exact hr
   |succ i=>exact h3 i r q h4 h5
theorem RowsO.low {x y:Nat} {H:AHeap} {v:Value} {rows:List Rw} (h:RowsO y H v rows) (hx:x<=y):RowsO x H v rows:=by
 obtain⟨vs,vX,hid,hrw⟩:=h
 refine⟨vs,vX,fun n hn=>zB8 hx (hid n hn),fun i r hi=>?_⟩
 obtain⟨cv,pv,e,hR,hn⟩:=hrw i r hi
 exact⟨cv,pv,e,hR,fun n h=>zB8 hx (hn n h)⟩
theorem copied_c (q:Bool) (H:AHeap) (f:Fr) (pv bv:Value) (hf:FrR q H pv bv f) (bd:FrBd f) (hpos:∀ p∈f.panes,∀ r∈p.rows,r.pos.length<=17592186043904) (hok:H.base<=H.next) :
  CallA Tryd.prog 8 [.agg ⟨frL pv bv f⟩] H (fun out X=>Mod [] H X/\∃ pv' bv',out=.ok (.agg ⟨frL pv' bv' f⟩)/\FrR true X pv' bv' f):=by
 obtain⟨x,hx⟩:=Go.Ax.exq H.next
 obtain⟨pa,pc,ep⟩:=hf.panes.sl
 obtain⟨ba,bc,eb⟩:=hf.bars.sl
 have sp:=hf.sp
 have sb:=hf.sb
 rw[hx,ep]at sp
 rw[hx,eb]at sb
 obtain⟨vs,hvs,hit⟩:=hf.panes
 obtain⟨rvs,rfl,hrl,hrows⟩:=items_pns f.panes vs hvs.1 hit
 refine callE_fn mixed Tryd.func8 rfl Tryd.ntmps8 (zB1 rfl) ?_
 have z25:zeroOf Tryd.prog 25=some (.agg #[.int .i64 0,.int .i64 0,.slice none 0 0,.slice none 0 0,.string ⟨#[]⟩,.int .i64 0]):=by kernel_rfl
 have uP:Tryd.prog.underlying 22=some (.slice 55):=by kernel_rfl
 have sP:szOf Tryd.prog 55=some 15:=by kernel_rfl
 have byP:bytesOf Tryd.prog 55=some 128:=by kernel_rfl
 have iP:intTy Tryd.prog 22=some false:=by kernel_rfl
 have zP:zeroOf Tryd.prog 55=some (.agg #[.int .i64 0,.int .i64 0,.int .i64 0,.int .i64 0,.int .i64 0,.slice none 0 0,.int .i64 0,.int .i64 0,.string ⟨#[]⟩,.int .i64 0,.int .i64 0,.bool false,.bool false,.bool false,.bool false]):=by kernel_rfl
 have uB:Tryd.prog.underlying 23=some (.slice 52):=by kernel_rfl
 have sB:szOf Tryd.prog 52=some 5:=by kernel_rfl
 have byB:bytesOf Tryd.prog 52=some 40:=by kernel_rfl
 have iB:intTy Tryd.prog 23=some false:=by kernel_rfl
 have zB:zeroOf Tryd.prog 52=some (.agg #[.int .i64 0,.int .i64 0,.int .i64 0,.int .i64 0,.int .i64 0]):=by kernel_rfl
 rw[ep,eb]
 unfold frL
 simp only[hx,sp,sb,z25,ruW,xF,ruU,entryE,Nat.reduceLT,Nat.reduceAdd,Nat.reduceEqDiff]
 have hrv:∀ r∈rvs,one r=true/\scb H.next r=true:=fun r hr=>by
  obtain⟨i,hi⟩:=List.getElem?_of_mem hr
  have hil:=(zE1.1 hi).1
  have:=hrows i r _ hi (zA5 (by omega))
  obtain⟨a,c,e⟩:=this.it.sl
  exact⟨by rw[e]; rfl,this.sc⟩
 obtain⟨X1,hX1⟩:=Go.Ax.exq (ext H [⟨25,false,[.int .i64 f.height,.int .i64 f.width,.slice pa f.panes.length pc,.slice ba f.bars.length bc,.string f.echo,.int .i64 f.ecol]⟩,⟨25,false,[.int .i64 0,.int .i64 0,.slice none 0 0,.slice none 0 0,.string ⟨#[]⟩,.int .i64 0]⟩])
 have m1:Mod [] H X1:=hX1▸Mod.ext hok
 have nX1:X1.next=x+2:=by rw[<-hX1,ext_next,hx]; rfl
 have ok1:=m1.ok hok
 have k1:bk X1 (x+0)=some ⟨25,false,[.int .i64 f.height,.int .i64 f.width,.slice pa f.panes.length pc,.slice ba f.bars.length bc,.string f.echo,.int .i64 f.ecol]⟩:=by rw[<-hX1,bk_at hx (by simp)]; rfl
 have k1':bk X1 (x+1)=some ⟨25,false,[.int .i64 0,.int .i64 0,.slice none 0 0,.slice none 0 0,.string ⟨#[]⟩,.int .i64 0]⟩:=by rw[<-hX1,bk_at hx (by simp)]; rfl
 have hsm1:small f.panes.length 128=true:=by have:=bd.panes; simp only[small,zA4,zC6]; omega
 have hap1:=own_appN (P:=Tryd.prog) (st:=22) (e:=55) (H:=X1) (b:=x+2) uP sP byP zP rfl iP nX1 ok1 (hvs.mod0 m1) (pnsC_one _ _ fun r hr=>(hrv r hr).1) (pnsC_sc _ _ _ fun r hr=>scb_mono (by omega) _ (hrv r hr).2) hsm1
 obtain⟨A2,hA2⟩:=Go.Ax.exq (ext X1 (ownL 55 (pnsC rvs f.panes) f.panes.length))
 have rd1:RdAt A2 15 (ownW (x+2) f.panes.length) (pnsC rvs f.panes) f.panes.length:=hA2▸own_rdN nX1 (pnsC_len _ _ hrl)
 have m2:Mod [] X1 A2:=hA2▸Mod.ext ok1
 have ok2:=m2.ok ok1
 obtain⟨a2,na2⟩:∃ a,A2.next=a:=⟨_,rfl⟩
 have ge2:x+3<=a2:=by
  rw[<-na2,<-hA2,ext_next,nX1,ownL]
  split<;>simp
 have k2:=(m2.bk (by omega) (by simp)).trans k1
 have k2':=(m2.bk (by omega) (by simp)).trans k1'
 obtain⟨oa1,eo1⟩:=own_form (x+2) f.panes.length
 have scw1:scb a2 (ownW (x+2) f.panes.length)=true:=by
  rw[ownW]
  split
  ·exact blt_of (show x+2+0<a2 by omega)
  ·rename_i h0
   refine blt_of (show x+2+1<a2 from ?_)
   rw[<-na2,<-hA2,ext_next,nX1,ownL,if_neg h0]
   simp
 have hid1:∀ n∈idsV (ownW (x+2) f.panes.length),x+2<=n:=fun n hn=>by rcases own_ids n hn with h|h<;>omega
 have hbl1:0<f.panes.length->oa1=some ⟨x+3,0,none⟩/\bk A2 (x+3)=some ⟨55,true,pnsC rvs f.panes⟩:=fun h0=>by
  rw[ownW,if_neg (by omega)]at eo1
  injection eo1 with e _ _
  refine⟨e.symm,?_⟩
  rw[<-hA2,ownL,if_neg (by omega),show x+3=(x+2)+1 from rfl,bk_at nX1 (by simp)]
  rfl
 rw[ep,hA2]at hap1
 obtain⟨w1,hw1⟩:∃ w,ownW (x+2) f.panes.length=w:=⟨_,rfl⟩
 rw[hw1]at hap1 rd1 scw1 hid1 eo1
 rw[eo1]at hap1 scw1
 have ab2:A2.base<=a2:=na2▸ok2
 have x02:x+0<a2:=by omega
 have hap1':aBuiltin Tryd.prog (ext H [⟨25,false,[.int .i64 f.height,.int .i64 f.width,.slice pa f.panes.length pc,.slice ba f.bars.length bc,.string f.echo,.int .i64 f.ecol]⟩,⟨25,false,[.int .i64 0,.int .i64 0,.slice none 0 0,.slice none 0 0,.string ⟨#[]⟩,.int .i64 0]⟩,⟨55,false,[]⟩]) .append ⟨[22,22]⟩ [.slice (some ⟨x+2,0,some 0⟩) 0 0,.slice pa f.panes.length pc]=some (.slice oa1 f.panes.length f.panes.length,A2):=by
  rw[<-hX1,ext_append]at hap1
  exact hap1
 rw[hap1',show A2=ext A2 [] from rfl]
 simp only[na2,k2,x02,scw1,qk_old,ruW,putL,Nat.reduceLeDiff,xF,ruU,Nat.reduceLT,Nat.reduceAdd,Nat.reduceEqDiff]
 obtain⟨A3,hA3⟩:=Go.Ax.exq (uw A2 (x+0) 2 [.slice oa1 f.panes.length f.panes.length])
 have m3:Mod [x+0] A2 A3:=hA3▸Mod.uw (by simp)
 have ok3:=m3.ok ok2
 have na3:A3.next=a2:=by rw[<-hA3,uw_next,na2]
 have k3:bk A3 (x+0)=some ⟨25,false,[.int .i64 f.height,.int .i64 f.width,.slice oa1 f.panes.length f.panes.length,.slice ba f.bars.length bc,.string f.echo,.int .i64 f.ecol]⟩:=by rw[<-hA3,bk_uw_eq,k2]; rfl
 have m12:=m1.trans m2
 have mH3:Mod [] H A3:=m12.step m3 hok fun n hn=>.inr (by simp only[zA9]at hn; omega)
 have rdb:RdAt A3 5 bv (rcsL f.bars) f.bars.length:=(items_rcs hf.bars).mod0 mH3
 have hsm2:small f.bars.length 40=true:=by have:=bd.bars; simp only[small,zA4,zC6]; omega
 have hap2:=own_appN (P:=Tryd.prog) (st:=23) (e:=52) (H:=A3) (b:=a2) uB sB byB zB rfl iB na3 ok3 rdb (rcsL_one _) (rcsL_sc _ _) hsm2
 obtain⟨A4,hA4⟩:=Go.Ax.exq (ext A3 (ownL 52 (rcsL f.bars) f.bars.length))
 have rd2:RdAt A4 5 (ownW a2 f.bars.length) (rcsL f.bars) f.bars.length:=hA4▸own_rdN na3 (rcsL_len _)
 have m4:Mod [] A3 A4:=hA4▸Mod.ext ok3
 have ok4:=m4.ok ok3
 obtain⟨a4,na4⟩:∃ a,A4.next=a:=⟨_,rfl⟩
 have ge4:a2+1<=a4:=by
  rw[<-na4,<-hA4,ext_next,na3,ownL]
  split<;>simp
 have k4:=(m4.bk (by omega) (by simp)).trans k3
 obtain⟨oa2,eo2⟩:=own_form a2 f.bars.length
 have scw2:scb a4 (ownW a2 f.bars.length)=true:=by
  rw[ownW]
  split
  ·exact blt_of (show a2+0<a4 by omega)
  ·rename_i h0
   refine blt_of (show a2+1<a4 from ?_)
   rw[<-na4,<-hA4,ext_next,na3,ownL,if_neg h0]
   simp
 have hid2:∀ n∈idsV (ownW a2 f.bars.length),a2<=n:=fun n hn=>by rcases own_ids n hn with h|h<;>omega
 rw[eb,hA4]at hap2
 obtain⟨w2,hw2⟩:∃ w,ownW a2 f.bars.length=w:=⟨_,rfl⟩
 rw[hw2]at hap2 rd2 scw2 hid2 eo2
 rw[eo2]at hap2 scw2
 have x04:x+0<a4:=by omega
 rw[hA3]
 have hap2':aBuiltin Tryd.prog (ext A3 [⟨52,false,[]⟩]) .append ⟨[23,23]⟩ [.slice (some ⟨a2+0,0,some 0⟩) 0 0,.slice ba f.bars.length bc]=some (.slice oa2 f.bars.length f.bars.length,A4):=hap2
 rw[hap2',show A4=ext A4 [] from rfl]
 obtain⟨A5,hA5⟩:=Go.Ax.exq (uw A4 (x+0) 3 [.slice oa2 f.bars.length f.bars.length])
 have m5:Mod [x+0] A4 A5:=hA5▸Mod.uw (by simp)
 have ok5:=m5.ok ok4
 have na5:A5.next=a4:=by rw[<-hA5,uw_next,na4]
 have k5:bk A5 (x+0)=some ⟨25,false,[.int .i64 f.height,.int .i64 f.width,.slice oa1 f.panes.length f.panes.length,.slice oa2 f.bars.length f.bars.length,.string f.echo,.int .i64 f.ecol]⟩:=by rw[<-hA5,bk_uw_eq,k4]; rfl
 have k5':=(m5.bk (n:=x+1) (by omega) (by simp)).trans ((m4.bk (by omega) (by simp)).trans ((m3.bk (n:=x+1) (by omega) (by simp)).trans k2'))
 have m25:Mod [x+0] A2 A5:=(m3.trans (m4.mono (by simp))).trans m5
 have mH5:Mod [] H A5:=m12.step m25 hok fun n hn=>.inr (by simp only[zA9]at hn; omega)
 generalize hcode:Code.seq (Code.region 7 _ _) _=code
 simp only[na4,k4,x04,scw2,ruW,putL,Nat.reduceLeDiff,xF,ruU,Nat.reduceLT,Nat.reduceAdd,Nat.reduceEqDiff]
 rw[hA5]
 have a4x:x+4<=a4:=by omega
 refine w_env fun E hE=>?_
 have g1:E 1=.pointer (some ⟨x+0,0,none⟩):=by rw[hE]; rfl
 have g2:E 2=.pointer (some ⟨x+1,0,none⟩):=by rw[hE]; rfl
 have g3:E 3=.int .i64 ((0:Nat):Int):=by rw[hE]; rfl
 clear hE
 have ag53:aggT Tryd.prog 53=some false:=by kernel_rfl
 have hb5:0<f.panes.length->bk A5 (x+3)=some ⟨55,true,pnsC rvs f.panes⟩:=fun h0=>by
  have hlt:x+3<a2:=by
   rw[<-na2,<-hA2,ext_next,nX1,ownL,if_neg (by omega)]
   simp
  exact (m25.bk (by omega) (by simp)).trans (hbl1 h0).2
 refine w_loop (fun (s:Nat × List Value) E' X=>s.1<=f.panes.length/\s.2.length=f.panes.length/\Mod (idsV w1) A5 X/\(0<f.panes.length->bk X (x+3)=some ⟨55,true,pnsC s.2 f.panes⟩)/\(∀ (k:Nat) (rv:Value) (p:Pn),s.2[k]?=some rv->f.panes[k]?=some p->(k<s.1->RowsO (x+4) X rv p.rows)/\(s.1<=k->rvs[k]?=some rv))/\E' 1=.pointer (some ⟨x+0,0,none⟩)/\E' 2=.pointer (some ⟨x+1,0,none⟩)/\E' 3=.int .i64 (s.1:Int)) (fun s=>f.panes.length-s.1) (0,rvs) ⟨zA7 _,hrl,Mod.refl,hb5,fun k rv p h1 _=>⟨fun h=>by simp at h,fun _=>h1⟩,g1,g2,g3⟩ ?_
 clear g1 g2 g3 E
 rintro⟨i,ws⟩ E X ⟨hi,hwl,mX,hbX,hws,g1,g2,g3⟩
 simp only at hi hwl hbX hws g3
 obtain⟨y,hy⟩:=Go.Ax.exq X.next
 have okX:=mX.ok ok5
 have ly:a4<=y:=by have:=mX.next; omega
 have kX:=(mX.bk (n:=x+0) (by omega) (fun hn=>by have:=hid1 _ hn; omega)).trans k5
 have kX':=(mX.bk (n:=x+1) (by omega) (fun hn=>by have:=hid1 _ hn; omega)).trans k5'
 have x0:x+0<y:=by omega
 have x1:x+1<y:=by omega
 have x3:x+3<y:=by omega
 have mHX:Mod [] H X:=mH5.step mX hok fun n hn=>.inr (by have:=hid1 _ hn; omega)
 rw[show X=ext X [] from rfl]
 by_cases hil:i<f.panes.length
 ·have hd:decide ((i:Int)<(f.panes.length:Int))=true:=decide_eq_true (by omega)
  obtain⟨rfl,_⟩:=hbl1 (by omega)
  have hbx:=hbX (by omega)
  have hbr:rk X (x+3)=some ⟨55,true,pnsC ws f.panes⟩:=rk_of hbx
  obtain⟨p,hp⟩:∃ p,f.panes[i]?=some p:=⟨_,zA5 hil⟩
  obtain⟨rv,hrv'⟩:∃ rv,ws[i]?=some rv:=⟨_,zA5 (by omega)⟩
  have hor:=(hws i rv p hrv' hp).2 (zA6 _)
  have hR:=(hrows i rv p hor hp).mod0 mHX
  obtain⟨b1,b2,b3⟩:=bd.rows p (zB5 hp)
  have hpl:=pnsC_len ws f.panes hwl
  have i1:=ia_of (P:=Tryd.prog) (k:=.i64) (i:=i) (n:=x+3) (off:=0) (len:=f.panes.length) (cap:=f.panes.length) (s:=none) uP sP hil
  have l1:ldB Tryd.prog 53 (0+(i*15+5)) (some ⟨55,true,pnsC ws f.panes⟩)=some rv:=by
   rw[ld_one ag53,zB6]
   have:=congrArg (fun l=>l[5]?) (pnsC_at ws f.panes i rv p hrv' hp)
   simp only[zF4,List.getElem?_drop]at this
   rw[if_pos (by decide)]at this
   exact this
  obtain⟨ra,rc,er⟩:=hR.it.sl
  have hrn:=restrict_next X (allF X)
  obtain⟨_,gg,hcc,mg,v',rfl,hO⟩:=copyRows_c false (X.restrict (allF X)) rv p.rows (rowsR_sub (allF_sub hrn.1 fun n hn=>by rw[restrict_get,if_pos hn]) hR) (by omega) (fun r hr=>⟨by have:=b3 r hr; omega,hpos p (zB5 hp) r hr⟩) (by rw[hrn.1,hrn.2.1]; exact zA6 _)
  rw[hrn.1,hy]at hO
  have hwi:IntKind.i64.wrap ((i:Int)+1)=((i+1:Nat):Int):=wrap_succ (by have:=bd.panes; omega)
  simp only[g1,g3,hy,kX,x0,hd,qk_old,ruW,xF,ruU,Nat.reduceLT,Nat.reduceAdd,Nat.reduceEqDiff]
  refine w_drawB [(9,4),(9,8),(10,9),(11,9),(12,1),(12,4),(12,8),(12,9)] [] (by kernel_rfl) (by kernel_rfl) rfl fun ops anc hA hG=>?_
  simp only[all2_cons]at hA
  rw[er]at l1 hcc
  simp only[g1,g3,hy,kX,x0,x3,i1,hbr,l1,qk_old,ruD,ruW,xF,ruU,Nat.reduceLT,Nat.reduceAdd,Nat.reduceEqDiff]
  refine genV_mod (H:=ext X []) (W:=[]) (allF X) okX rfl (by kernel_rfl) (fun n hn=>allF_ne n hn) (fun n hn=>by have:=(List.mem_filter.1 hn).1; exact List.mem_range.1 this) (fun _ h=>by simp at h) (v:=v') (g:=gg) (by simp only[ruU]; exact hcc) mg (fun r hr=>.inr (by simp only[zB2,List.not_mem_nil,or_false]at hr; rcases hr with rfl|rfl|rfl<;>exact⟨zA6 _,fun n h=>by simp at h,fun n _ h=>by simp at h⟩)) ?_
  intro Z D mZ hFZ hNZ hnZ hDZ
  have hD0:D=[]:=List.eq_nil_iff_forall_not_mem.2 (fun q hq=>by simpa using hDZ q hq)
  subst hD0
  replace mZ:Mod [] X Z:=mZ
  have hOZ:RowsO y Z v' p.rows:=hO.sub (sub_merge mg hFZ hNZ hnZ)
  obtain⟨zn,hzn⟩:∃ z,Z.next=z:=⟨_,rfl⟩
  have okZ:=mZ.ok okX
  have yz:y<=zn:=by have:=mZ.next; omega
  have hbz:=(mZ.bk (by omega) (by simp)).trans hbx
  have z3:x+3<zn:=by omega
  have hRZ:=hOZ.rows
  obtain⟨va,vc,ev⟩:=hRZ.it.sl
  have scv:=hRZ.sc
  rw[hzn,ev]at scv
  have q3:stB Tryd.prog 53 zn (0+(i*15+5)) (.slice va p.rows.length vc) (some ⟨55,true,pnsC ws f.panes⟩)=some ⟨55,true,pnsC (ws.set i (.slice va p.rows.length vc)) f.panes⟩:=by
   have hv:(Value.slice va p.rows.length vc).cells.toList=[.slice va p.rows.length vc]:=rfl
   rw[stB_ok (by rw[hv]; kernel_rfl) (by rw[hv,hpl]; simp only[List.length_singleton]; omega) (by rw[hv]; rfl) (by rw[hv]; simp only[scbL,scv,zE6]),hv,zB6,pnsC_set ws f.panes i _ hwl hil]
  have q3':stB Tryd.prog 53 (zn+0) (0+(i*15+5)) (.slice va p.rows.length vc) (some ⟨55,true,pnsC ws f.panes⟩)=some ⟨55,true,pnsC (ws.set i (.slice va p.rows.length vc)) f.panes⟩:=q3
  rw[put_some _ _ _ _ _ (by decide),ev,show Z=ext Z [] from rfl]
  simp only[g3,hy,hzn,z3,hbz,i1,q3',hwi,hA,ruD,ruW,xF,ruU,Nat.reduceLT,Nat.reduceAdd,Nat.reduceEqDiff]
  have mU:Mod [x+3] Z (uw Z (x+3) (0+(i*15+5)) [.slice va p.rows.length vc]):=Mod.uw (by simp)
  refine loopC_next ⟨(i+1,ws.set i (.slice va p.rows.length vc)),by simp only; omega,hil,by simp only[List.length_set]; exact hwl,(mX.trans (mZ.mono (by simp))).trans (mU.mono fun n hn=>by rw[eo1]; exact hn),fun _=>?_,fun k rv2 p2 h1 h2=>?_,by simp only[g1,ruU,Nat.reduceEqDiff],by simp only[g2,ruU,Nat.reduceEqDiff],by simp only[ruU]⟩
  ·show bk (uw Z (x+3) _ _) (x+3)=_
   rw[bk_uw_eq,hbz,zA8,putB_eq,zB6,pnsC_set ws f.panes i _ hwl hil]
  ·have hW:∀ n∈[x+3],n<x+4:=fun n hn=>by simp only[zA9]at hn; omega
   by_cases hki:k=i
   ·subst hki
    rw[List.getElem?_set_self (by omega)]at h1
    rw[hp]at h2
    cases h1
    cases h2
    refine⟨fun _=>?_,fun h=>by simp only at h; omega⟩
    rw[ev]at hOZ
    exact (hOZ.low (by omega)).mod mU hW
   ·rw[List.getElem?_set_ne (fun h=>hki h.symm)]at h1
    have:=hws k rv2 p2 h1 h2
    exact⟨fun h=>((this.1 (by simp only at h; omega)).mod mZ (fun n hn=>by simp at hn)).mod mU hW,fun h=>this.2 (by simp only at h; omega)⟩
 ·obtain rfl:i=f.panes.length:=by omega
  have hd:decide ((f.panes.length:Int)<(f.panes.length:Int))=false:=decide_eq_false (by omega)
  subst hcode
  have scA:=scb_mono (show a2<=y by omega) _ scw1
  have scB:=scb_mono (show a4<=y by omega) _ scw2
  simp only[g1,g2,g3,hy,kX,kX',x0,x1,hd,scA,scB,Tryd.results8,qk_old,ruW,putL,Nat.reduceLeDiff,xF,ruU,Nat.reduceLT,Nat.reduceAdd,Nat.reduceEqDiff]
  obtain⟨U,hU⟩:=Go.Ax.exq (uw X (x+1) 0 [.int .i64 f.height,.int .i64 f.width,.slice oa1 f.panes.length f.panes.length,.slice oa2 f.bars.length f.bars.length,.string f.echo,.int .i64 f.ecol])
  have mU:Mod [x+1] X U:=hU▸Mod.uw (by simp)
  have nU:U.next=y:=by rw[<-hU,uw_next,hy]
  rw[hU]
  have kf:∀ (v:Value) (cnt:Nat),∀ n∈rdF v cnt,n∈idsV v:=fun v cnt n hn=>by
   unfold rdF at hn
   split at hn
   ·cases hn
   ·exact hn
  have hlt1:∀ n∈idsV w1,n<a2:=fun n hn=>ids_of_scb _ (by rw[eo1]; exact scw1) n hn
  have rdB5:RdAt A5 5 w2 (rcsL f.bars) f.bars.length:=rd2.of m5.next fun n hn=>m5.get n (rd2.ne n hn).2 (by have:=hid2 n (kf _ _ n hn); simp only[zA9]; omega)
  have rdBX:RdAt X 5 w2 (rcsL f.bars) f.bars.length:=rdB5.of mX.next fun n hn=>mX.get n (rdB5.ne n hn).2 (fun h=>by have:=hid2 n (kf _ _ n hn); have:=hlt1 n h; omega)
  have rdBU:RdAt U 5 w2 (rcsL f.bars) f.bars.length:=rdBX.of mU.next fun n hn=>mU.get n (rdBX.ne n hn).2 (by have:=hid2 n (kf _ _ n hn); simp only[zA9]; omega)
  refine⟨mHX.step mU hok fun n hn=>.inr (by simp only[zA9]at hn; omega),_,_,rfl,⟨?_,?_,?_,?_⟩⟩
  ·refine⟨pnsC ws f.panes,⟨pnsC_len _ _ hwl,?_⟩,fun k p hp=>?_⟩
   ·by_cases h0:f.panes.length=0
    ·exact .inl ⟨h0,oa1,f.panes.length,by rw[h0]⟩
    ·obtain⟨e,_⟩:=hbl1 (by omega)
     have hbx:=(mU.bk (n:=x+3) (by have:=hlt1 (x+3) (by rw[eo1,e]; simp[idsV]); omega) (by simp)).trans (hbX (by omega))
     exact .inr ⟨by omega,x+3,0,none,f.panes.length,55,true,pnsC ws f.panes,by rw[e],rk_of hbx,by show x+3<U.next; have:=hlt1 (x+3) (by rw[eo1,e]; simp[idsV]); omega,by rw[pnsC_len _ _ hwl]; omega,by rw[zC7,zF2 (by rw[pnsC_len _ _ hwl]; exact zA6 _)]⟩
   ·have hkl:=(zE1.1 hp).1
    obtain⟨rv,hrv'⟩:∃ rv,ws[k]?=some rv:=⟨_,zA5 (by omega)⟩
    rw[pnsC_at ws f.panes k rv p hrv' hp]
    exact⟨rv,rfl,(((hws k rv p hrv' hp).1 hkl).mod mU (fun n hn=>by simp only[zA9]at hn; omega)).rows⟩
  ·rw[<-eo2]
   exact rcs_items rdBU
  ·show scb U.next _=true
   rw[nU]
   exact scA
  ·show scb U.next _=true
   rw[nU]
   exact scB
def resE (f:Fr):Int:=if frE f≠0 then frE f else if ((drawG f).any fun l=>!wholeB l)=true then 5 else 0
def resG (f:Fr):List (List Ce):=if frE f≠0 then [] else if ((drawG f).any fun l=>!wholeB l)=true then [] else drawG f
def resC (f:Fr):Int × Int:=if frE f≠0 then (0,0) else if ((drawG f).any fun l=>!wholeB l)=true then (0,0) else drawC f
theorem ownNil {N:Nat} {X:AHeap}:OwnG N X (.slice none 0 0) [] []:=⟨rfl,.inl ⟨rfl,rfl⟩,fun i rv l h=>by simp at h,by simp⟩
theorem DrO.see {H X:AHeap} {f:Fr} {out:Out} (h:DrO H f out X):Mod [] H X/\∃ N v rvs,H.next<=N/\OwnG N X v rvs (resG f)/\out=.ok (.tuple #[.agg #[v,.int .i64 (resC f).1,.int .i64 (resC f).2],.int .i64 (resE f)])/\(resG f).length<=200/\∀ l∈resG f,l.length<=1000:=by
 obtain⟨m,h⟩:=h
 refine⟨m,?_⟩
 unfold resG resC resE
 by_cases h1:frE f≠0
 ·simp only[if_pos h1]at h ⊢
  exact⟨_,_,[],zA6 _,ownNil,h,by simp,fun l hl=>by simp at hl⟩
 ·simp only[if_neg h1]at h ⊢
  by_cases h2:((drawG f).any fun l=>!wholeB l)=true
  ·simp only[if_pos h2]at h ⊢
   exact⟨_,_,[],zA6 _,ownNil,h,by simp,fun l hl=>by simp at hl⟩
  ·simp only[if_neg h2]at h ⊢
   obtain⟨N,v,rvs,a,b,c,d,e⟩:=h
   exact⟨N,v,rvs,a,b,c,d,e⟩
end Go.Proofs.YtfpckllenkifkaaDoor
